/- Slices of byte slices of the call's own: made, appended to, handed on. No condition. -/
import Derived.Test.YtillnpllcfleeaaMk
import Derived.Test.YtillnpllcfleeaaKnown06
namespace Go.Proofs.Ytillnpllcfleeaa
open Go Go.RowKit
set_option maxRecDepth 100000

theorem cutP_h {t n : Nat} (hu : Try.prog.underlying t = some (.array n 5)) (W : World) (g o : Nat) (h : Nat) (zh : Int) (kh : IntKind) (hzh : zh = (h : Int)) (hh : h ≤ n) (h0 : 0 < n) :
    (Instr.sliceAt t (.pointer (some ⟨g, o, none⟩)) none (some (.int kh zh)) none).run Try.prog W = .ok (.slice (some ⟨g, o, none⟩) h n) W := by
  subst hzh
  have e1 := arr_len hu
  have e2 := arr_elem hu
  rw [run_sliceAt_array_h W t ⟨g, o, none⟩ (by rw [e1, e2]; exact hu) kh h (by omega) (by rw [e1]; omega), e2, size5, e1]
  simp only [Result.andThen_ok, slicedAt, Int.toNat_natCast]
  rw [if_neg (by omega), Nat.zero_mul, add_none]; rfl
section
variable {P : Program} {ops : Array Oper} {rest : List Oper} {o : Oper} {a : Act} {w : World} {Q : Exit → Act → World → Prop}
theorem callsOf {f : FuncId} {args args' : Array Value} {Q : Ending → World → Prop} (e : args = args') (h : Calls P f args' w Q) : Calls P f args w Q := e ▸ h
theorem unguards (hw : Region.wanted o (yielded ops a.tmps) = true) (h : wpList P ops Q ({ o with guard := none } :: rest) a w) : wpList P ops Q (o :: rest) a w := by
  unfold wpList at h ⊢
  rw [if_pos hw]
  rw [if_pos (by simp [Region.wanted])] at h
  exact h
theorem allocAt (d : Nat) (_hd : o.dst = some d) (hg : o.guard = none) (t : TypeId) (ho : o.op = .alloc t) (cs : Array Value) (hz : ((P.info? t).bind (·.zero)).map (·.cells) = some cs)
    (h : ∀ g w', w.heap.size ≤ g → g < w'.heap.size → Blk w' g t cs → Below w.heap.size w w' → wpList P ops Q rest (a.put o.dst (.pointer (some ⟨g, 0, none⟩))) w') : wpList P ops Q (o :: rest) a w :=
  alloc_abs hg t ho cs hz h
end
theorem bdrew (w : World) : Below w.heap.size w w.drew := (Below.refl _ _).drew
/-- a slice value that reads as bs -/
def Sl (w : World) (B : Nat) (v : Value) (bs : List UInt8) : Prop := ∃ A c, v = .slice A bs.length c ∧ bs.length ≤ c ∧ c ≤ maxLen ∧ RdB w B A bs
section
variable {w w' : World} {B B' C base : Nat} {v : Value} {bs : List UInt8}
theorem Sl.more (h : Sl w B v bs) (hB : B ≤ B') : Sl w B' v bs := by
  obtain ⟨A, c, h1, h2, h3, h4⟩ := h
  exact ⟨A, c, h1, h2, h3, h4.more hB⟩
theorem Sl.below (h : Sl w B v bs) (hb : Below C w w') (hC : B ≤ C) : Sl w' B v bs := by
  obtain ⟨A, c, h1, h2, h3, h4⟩ := h
  exact ⟨A, c, h1, h2, h3, h4.below hb hC⟩
theorem Sl.mk {A : Option Addr} {n c : Nat} (h : RdB w B A bs) (hn : n = bs.length) (hc : bs.length ≤ c) (hm : c ≤ maxLen) : Sl w B (.slice A n c) bs := by
  subst hn
  exact ⟨A, c, rfl, hc, hm, h⟩
theorem Own.sl (h : Own w base v bs) : Sl w w.heap.size v bs := h.form
theorem Sl.nil (w : World) (B : Nat) : Sl w B (.slice none 0 0) [] := ⟨none, 0, rfl, Nat.le_refl _, Nat.zero_le _, RdB.nil _⟩
/-- it is no slice of a block whose cells are no bytes, if it holds a byte: it lies below B -/
theorem Sl.grown {row : Option Nat} (h : Sl w B v bs) (hg : w.grownBy w' row) (hB : B ≤ w.heap.size) (hr : ∀ g, row = some g → B ≤ g) : Sl w' B v bs := by
  obtain ⟨A, c, h1, h2, h3, h4⟩ := h
  exact ⟨A, c, h1, h2, h3, h4.below (below_of_grown hg hB hr) (Nat.le_refl _)⟩
end

theorem BlB.all {w : World} {g : Nat} {t : TypeId} {l : List UInt8} (hb : BlB w g t l) : RdB w w.heap.size (some ⟨g, 0, none⟩) l := by
  have hr := hb.rd 0 l.length (by omega)
  rwa [List.drop_zero, List.take_of_length_le (Nat.le_refl _)] at hr

theorem BlB.rng {w : World} {g : Nat} {t : TypeId} {l : List UInt8} (hb : BlB w g t l) : w.rangeAt g 0 (b8s l) := by
  have := hb.range 0 l.length (by omega)
  rwa [List.drop_zero, List.take_of_length_le (Nat.le_refl _)] at this

/-- a slice of byte slices of the call's own; the texts lie below base -/
def OwnL (w : World) (base : Nat) (v : Value) (l : List (List UInt8)) : Prop :=
  ∃ xs, w.ownsRow base 28 1 v l.length xs ∧ ∀ (k : Nat) bs, l[k]? = some bs → ∃ u, xs[k]? = some u ∧ Sl w base u bs
section
variable {w w' : World} {base : Nat} {v : Value} {l : List (List UInt8)}
theorem sl_one {w : World} {B : Nat} {v : Value} {bs : List UInt8} (h : Sl w B v bs) : v.oneCell' = true := by
  obtain ⟨A, c, rfl, _⟩ := h
  rfl
theorem OwnL.rd {A : Option Addr} {n c : Nat} (h : OwnL w base (.slice A n c) l) (hb : base ≤ w.heap.size) : n = l.length ∧ RdL w w.heap.size A l := by
  obtain ⟨xs, h1, h2⟩ := h
  have hn : n = l.length := by
    rcases h1.2 with ⟨e, h0⟩ | ⟨g, cap, cur, e, _⟩
    · injection e with _ e _; omega
    · injection e
  subst hn
  refine ⟨rfl, xs, Rd.of_own h1, fun k bs hk => ?_⟩
  obtain ⟨u, hu, A', c', rfl, e2, e3, e4⟩ := h2 k bs hk
  exact ⟨A', c', hu, e2, e3, e4.more hb⟩
theorem OwnL.form (h : OwnL w base v l) : ∃ A c, v = .slice A l.length c ∧ l.length ≤ c ∧ c ≤ maxLen := by
  obtain ⟨xs, h1, h2⟩ := h
  rcases h1.2 with ⟨rfl, h0⟩ | ⟨g, cap, cur, rfl, _, _, hc, hm, _, _⟩
  · have : l = [] := List.eq_nil_of_length_eq_zero h0
    subst this
    exact ⟨none, 0, rfl, Nat.le_refl _, Nat.zero_le _⟩
  · exact ⟨_, cap, rfl, hc, hm⟩
theorem OwnL.nil (w : World) (base : Nat) : OwnL w base (.slice none 0 0) [] := ⟨[], World.ownsRow_nil w base 28 1, fun k bs hk => by simp at hk⟩
theorem OwnL.lt (h : OwnL w base v l) : ∀ k, v.ownBlock = some k → base ≤ k ∧ k < w.heap.size := by
  obtain ⟨xs, h1, _⟩ := h
  exact World.ownsRow.lt h1
end

theorem info28 : (Try.prog.info? 28).map (fun i => (i.zero, i.size, i.bytes)) = some (some (.slice none 0 0), 1, 24) := by kernel_rfl
theorem under22 : Try.prog.underlying 22 = some (.slice 28) := Try.underlying22

section
variable {ops : Array Oper} {rest : List Oper} {o : Oper} {a : Act} {w : World} {Q : Exit → Act → World → Prop}
/-- the texts of a literal -/
theorem OwnL.new (w : World) (xs : List Value) (l : List (List UInt8)) (hl : xs.length = l.length) (hx : ∀ (k : Nat) bs, l[k]? = some bs → ∃ u, xs[k]? = some u ∧ Sl w w.heap.size u bs) (n : Nat) (hn : n = l.length) (hm : n ≤ maxLen) :
    OwnL (w.alloc (.cells xs.toArray 28)) w.heap.size (.slice (some ⟨w.heap.size, 0, none⟩) n n) l := by
  subst hn
  refine ⟨xs, ⟨by rw [hl, Nat.mul_one], .inr ⟨w.heap.size, l.length, _, rfl, Nat.le_refl _, Blk.new w 28 _, Nat.le_refl _, hm, by simp [hl], by rw [Nat.mul_one]; exact List.take_of_length_le (by simp [hl])⟩⟩, fun k bs hk => ?_⟩
  obtain ⟨u, h1, h2⟩ := hx k bs hk
  exact ⟨u, h1, h2.below ((Below.refl _ _).alloc (Nat.le_refl _) _) (Nat.le_refl _)⟩
theorem run_lits1 (w : World) (x : Value) (hx : x.cells = #[x]) : (Instr.buildSlice 22 1 #[(0, x)]).run Try.prog w = .ok (.slice (some ⟨w.heap.size, 0, none⟩) 1 1) (w.alloc (.cells [x].toArray 28)) := by
  obtain ⟨i, hi, hz0, hz1, hz2⟩ := info_parts info28
  simp [Instr.buildSlice, run_underlying under22, sizeOf, typeInfo, zeroValue, hi, hz0, hz1, Instr.fill, newRow, hx, show Array.range 1 = #[0] from rfl]
theorem run_lits2 (w : World) (x y : Value) (hx : x.cells = #[x]) (hy : y.cells = #[y]) : (Instr.buildSlice 22 2 #[(0, x), (1, y)]).run Try.prog w = .ok (.slice (some ⟨w.heap.size, 0, none⟩) 2 2) (w.alloc (.cells [x, y].toArray 28)) := by
  obtain ⟨i, hi, hz0, hz1, hz2⟩ := info_parts info28
  simp [Instr.buildSlice, run_underlying under22, sizeOf, typeInfo, zeroValue, hi, hz0, hz1, Instr.fill, newRow, hx, hy, show Array.range 2 = #[0, 1] from rfl]
theorem run_lits3 (w : World) (x y z : Value) (hx : x.cells = #[x]) (hy : y.cells = #[y]) (hz : z.cells = #[z]) : (Instr.buildSlice 22 3 #[(0, x), (1, y), (2, z)]).run Try.prog w = .ok (.slice (some ⟨w.heap.size, 0, none⟩) 3 3) (w.alloc (.cells [x, y, z].toArray 28)) := by
  obtain ⟨i, hi, hz0, hz1, hz2⟩ := info_parts info28
  simp [Instr.buildSlice, run_underlying under22, sizeOf, typeInfo, zeroValue, hi, hz0, hz1, Instr.fill, newRow, hx, hy, hz, show Array.range 3 = #[0, 1, 2] from rfl]
theorem run_lits4 (w : World) (x y z u : Value) (hx : x.cells = #[x]) (hy : y.cells = #[y]) (hz : z.cells = #[z]) (hu : u.cells = #[u]) : (Instr.buildSlice 22 4 #[(0, x), (1, y), (2, z), (3, u)]).run Try.prog w = .ok (.slice (some ⟨w.heap.size, 0, none⟩) 4 4) (w.alloc (.cells [x, y, z, u].toArray 28)) := by
  obtain ⟨i, hi, hz0, hz1, hz2⟩ := info_parts info28
  simp [Instr.buildSlice, run_underlying under22, sizeOf, typeInfo, zeroValue, hi, hz0, hz1, Instr.fill, newRow, hx, hy, hz, hu, show Array.range 4 = #[0, 1, 2, 3] from rfl]
theorem sl_cells {w : World} {B : Nat} {v : Value} {bs : List UInt8} (h : Sl w B v bs) : v.cells = #[v] := by
  obtain ⟨A, c, rfl, _⟩ := h
  rfl
theorem mkL1 (hg : o.guard = none) (x : Operand) (hop : o.op = .buildSlice 22 1 #[(0, x)]) (bs : List UInt8) (hx : Sl w w.heap.size (a.eval x) bs)
    (h : ∀ g w', w.heap.size ≤ g → g < w'.heap.size → OwnL w' w.heap.size (.slice (some ⟨g, 0, none⟩) 1 1) [bs] → Below w.heap.size w w' → wpList Try.prog ops Q rest (a.put o.dst (.slice (some ⟨g, 0, none⟩) 1 1)) w') : wpList Try.prog ops Q (o :: rest) a w := by
  refine wpList_plain hg fun K hK => ?_
  unfold Oper.wp
  simp only [execOp, hop, List.map_toArray, List.map_cons, List.map_nil, Sem.run_bind, Sem.run_pure, run_lits1 w _ (sl_cells hx), Result.andThen_ok]
  refine hK _ _ (h _ _ (Nat.le_refl _) (by simp) (OwnL.new w _ [bs] rfl (fun k b hk => ?_) 1 rfl (by decide)) ((Below.refl _ _).alloc (Nat.le_refl _) _))
  match k, hk with
  | 0, hk => simp at hk; subst hk; exact ⟨_, rfl, hx⟩
theorem mkL2 (hg : o.guard = none) (x y : Operand) (hop : o.op = .buildSlice 22 2 #[(0, x), (1, y)]) (bs cs : List UInt8) (hx : Sl w w.heap.size (a.eval x) bs) (hy : Sl w w.heap.size (a.eval y) cs)
    (h : ∀ g w', w.heap.size ≤ g → g < w'.heap.size → OwnL w' w.heap.size (.slice (some ⟨g, 0, none⟩) 2 2) [bs, cs] → Below w.heap.size w w' → wpList Try.prog ops Q rest (a.put o.dst (.slice (some ⟨g, 0, none⟩) 2 2)) w') : wpList Try.prog ops Q (o :: rest) a w := by
  refine wpList_plain hg fun K hK => ?_
  unfold Oper.wp
  simp only [execOp, hop, List.map_toArray, List.map_cons, List.map_nil, Sem.run_bind, Sem.run_pure, run_lits2 w _ _ (sl_cells hx) (sl_cells hy), Result.andThen_ok]
  refine hK _ _ (h _ _ (Nat.le_refl _) (by simp) (OwnL.new w _ [bs, cs] rfl (fun k b hk => ?_) 2 rfl (by decide)) ((Below.refl _ _).alloc (Nat.le_refl _) _))
  match k, hk with
  | 0, hk => simp at hk; subst hk; exact ⟨_, rfl, hx⟩
  | 1, hk => simp at hk; subst hk; exact ⟨_, rfl, hy⟩
theorem mkL3 (hg : o.guard = none) (x y z : Operand) (hop : o.op = .buildSlice 22 3 #[(0, x), (1, y), (2, z)]) (bs cs ds : List UInt8) (hx : Sl w w.heap.size (a.eval x) bs) (hy : Sl w w.heap.size (a.eval y) cs) (hz : Sl w w.heap.size (a.eval z) ds)
    (h : ∀ g w', w.heap.size ≤ g → g < w'.heap.size → OwnL w' w.heap.size (.slice (some ⟨g, 0, none⟩) 3 3) [bs, cs, ds] → Below w.heap.size w w' → wpList Try.prog ops Q rest (a.put o.dst (.slice (some ⟨g, 0, none⟩) 3 3)) w') : wpList Try.prog ops Q (o :: rest) a w := by
  refine wpList_plain hg fun K hK => ?_
  unfold Oper.wp
  simp only [execOp, hop, List.map_toArray, List.map_cons, List.map_nil, Sem.run_bind, Sem.run_pure, run_lits3 w _ _ _ (sl_cells hx) (sl_cells hy) (sl_cells hz), Result.andThen_ok]
  refine hK _ _ (h _ _ (Nat.le_refl _) (by simp) (OwnL.new w _ [bs, cs, ds] rfl (fun k b hk => ?_) 3 rfl (by decide)) ((Below.refl _ _).alloc (Nat.le_refl _) _))
  match k, hk with
  | 0, hk => simp at hk; subst hk; exact ⟨_, rfl, hx⟩
  | 1, hk => simp at hk; subst hk; exact ⟨_, rfl, hy⟩
  | 2, hk => simp at hk; subst hk; exact ⟨_, rfl, hz⟩

/-- append of texts -/
theorem appL (hgd : o.guard = none) (s x : Operand) (ho : o.op = .call { callee := .builtin .append, args := #[s, x], argTypes := #[22, 22] })
    (base : Nat) (v : Value) (l : List (List UInt8)) (hs : a.eval s = v) (hown : OwnL w base v l) (A : Option Addr) (m c : Nat) (l2 : List (List UInt8)) (hx : a.eval x = .slice A m c) (hr : RdL w base A l2) (hm : m = l2.length)
    (hsz : l.length + l2.length ≤ 1099511627776) (hbase : base ≤ w.heap.size)
    (h : ∀ v' w', OwnL w' base v' (l ++ l2) → w.grownBy w' v.ownBlock → wpList Try.prog ops Q rest (a.put o.dst v') w') : wpList Try.prog ops Q (o :: rest) a w := by
  subst hm
  refine wpList_plain hgd fun K hK => ?_
  obtain ⟨xs, h1, h2⟩ := hown
  obtain ⟨ys, r1, r2⟩ := hr
  obtain ⟨i, hi, hz0, hz1, hz2⟩ := info_parts info28
  have one : ∀ u ∈ ys, u.oneCell' = true := by
    intro u hu
    obtain ⟨k, hk, rfl⟩ := List.mem_iff_getElem.1 hu
    have hl : k < l2.length := by have := r1.1; omega
    obtain ⟨A', c', e, _⟩ := r2 k l2[k] (List.getElem?_eq_getElem hl)
    rw [List.getElem?_eq_getElem hk] at e
    injection e with e
    rw [e]; rfl
  obtain ⟨v', w', hrun, q2, q3, q4⟩ := run_append_rd (P := Try.prog) w base 22 o.type 28 i _ 1 24 under22 hi hz0 hz1 hz2 rfl (by decide) v l.length xs h1 base A l2.length c ys r1 one
    (by unfold maxLen; omega) (by omega) hbase
  unfold Oper.wp execOp
  simp only [ho, resolve, invoke, builtin, Sem.run_bind, Sem.run_pure, Result.andThen_ok, List.map_toArray, List.map_cons, List.map_nil, hs, hx, hrun]
  have hlt := World.ownsRow.lt h1
  have hbel : Below base w w' := below_of_grown q3 hbase (fun g hg => (hlt g hg).1)
  refine hK _ _ (h v' w' ⟨xs ++ ys, by rw [List.length_append]; exact q2, fun k bs hk => ?_⟩ q3)
  have hxl : xs.length = l.length := by have := h1.1; omega
  by_cases hkl : k < l.length
  · rw [List.getElem?_append_left hkl] at hk
    obtain ⟨u, e1, e2⟩ := h2 k bs hk
    exact ⟨u, by rw [List.getElem?_append_left (by omega)]; exact e1, e2.below hbel (Nat.le_refl _)⟩
  · rw [List.getElem?_append_right (by omega)] at hk
    obtain ⟨A', c', e, f1, f2, f3⟩ := r2 _ bs hk
    exact ⟨_, by rw [List.getElem?_append_right (by omega), hxl]; exact e, A', c', rfl, f1, f2, f3.below hbel (Nat.le_refl _)⟩
end
end Go.Proofs.Ytillnpllcfleeaa
