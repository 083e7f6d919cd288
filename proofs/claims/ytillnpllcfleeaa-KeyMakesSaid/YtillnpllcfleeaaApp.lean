/- append of bytes onto a row of the call's own, the source any byte slice; where a cut slice lies. -/
import Derived.Test.YtillnpllcfleeaaProg
import Derived.Test.YtillnpllcfleeaaMem
import Derived.Maps.AppendAt
import Derived.OwnWalk
import Derived.Laws.AppendOwnNone
import Derived.Deep.MidRow
import Derived.Laws.BytesArg
import Derived.Lib.SlBytesConst
namespace Go.Proofs.Ytillnpllcfleeaa
open Go Go.RowKit

theorem sliced_cut (a : Option Addr) (l h m s : Nat) : sliced a l h m s = .slice (cutA a s l m) (h - l) (m - l) := rfl

theorem cutA_zero (A : Option Addr) (sz c : Nat) : cutA A sz 0 c = A := by
  unfold cutA
  split
  · rfl
  · cases A with
    | none => rfl
    | some a => simp [Addr.add]
attribute [go_sem] cutA_zero


/-- cuts of a byte slice, in the seat's own program: where they lie stays behind 'cutA' -/
theorem elem28 : Try.prog.elem 28 = 5 := by kernel_rfl
theorem size5 (w : World) : (sizeOf 5).run Try.prog w = .ok 1 w := by kernel_rfl
theorem under28 : Try.prog.underlying 28 = some (.slice (Try.prog.elem 28)) := by rw [elem28]; exact Try.underlying28
section
variable {P : Program} {t e sz : Nat} (ht : P.underlying t = some (.slice (P.elem t))) (he : P.elem t = e) (hs : ∀ w, (sizeOf e).run P w = .ok sz w)
  (w : World) (A : Option Addr) (n c : Nat) (kl kh km : IntKind)
include ht he hs
theorem cut_any (lo hi mx : Option Value) :
    (Instr.slice t (.slice A n c) lo hi mx).run P w = ((Instr.sliceBounds true n c lo hi mx).run P w).andThen fun b w => .ok (sliced A b.1 b.2.1 b.2.2 sz) w := by
  rw [run_slice_any w t A n c ht, he]
  cases (Instr.sliceBounds true n c lo hi mx).run P w with
  | ok b w' => simp only [Result.andThen_ok, hs]
  | halt x w' => rfl
theorem cut_lh (l h : Int) : (Instr.slice t (.slice A n c) (some (.int kl l)) (some (.int kh h)) none).run P w =
    if 0 ≤ l ∧ l ≤ h ∧ h ≤ c then .ok (.slice (cutA A sz l.toNat c) (h.toNat - l.toNat) (c - l.toNat)) w
    else ((Instr.sliceBounds true n c (some (.int kl l)) (some (.int kh h)) none).run P w).andThen fun b w => .ok (sliced A b.1 b.2.1 b.2.2 sz) w := by
  split
  · rename_i h0
    rw [run_slice_lh w t A n c ht kl kh l h h0.1 h0.2.1 h0.2.2, he, hs]; rfl
  · exact cut_any ht he hs w A n c _ _ _
theorem cut_h (h : Int) : (Instr.slice t (.slice A n c) none (some (.int kh h)) none).run P w =
    if 0 ≤ h ∧ h ≤ c then .ok (.slice A h.toNat c) w
    else ((Instr.sliceBounds true n c none (some (.int kh h)) none).run P w).andThen fun b w => .ok (sliced A b.1 b.2.1 b.2.2 sz) w := by
  split
  · rename_i h0
    rw [run_slice_h w t A n c ht kh h h0.1 h0.2, he, hs]
    show Result.ok (sliced A 0 h.toNat c sz) w = _
    rw [sliced_cut, cutA_zero]; rfl
  · exact cut_any ht he hs w A n c _ _ _
theorem cut_l (l : Int) : (Instr.slice t (.slice A n c) (some (.int kl l)) none none).run P w =
    if 0 ≤ l ∧ l ≤ n then .ok (.slice (cutA A sz l.toNat c) (n - l.toNat) (c - l.toNat)) w
    else ((Instr.sliceBounds true n c (some (.int kl l)) none none).run P w).andThen fun b w => .ok (sliced A b.1 b.2.1 b.2.2 sz) w := by
  split
  · rename_i h0
    rw [run_slice_l w t A n c ht kl l h0.1 h0.2, he, hs]; rfl
  · exact cut_any ht he hs w A n c _ _ _
end
section
variable (w : World) (A : Option Addr) (n c : Nat) (kl kh : IntKind)
theorem slice28_lh' (l h : Int) : (Instr.slice 28 (.slice A n c) (some (.int kl l)) (some (.int kh h)) none).run Try.prog w =
    if 0 ≤ l ∧ l ≤ h ∧ h ≤ c then .ok (.slice (cutA A 1 l.toNat c) (h.toNat - l.toNat) (c - l.toNat)) w
    else ((Instr.sliceBounds true n c (some (.int kl l)) (some (.int kh h)) none).run Try.prog w).andThen fun b w => .ok (sliced A b.1 b.2.1 b.2.2 1) w :=
  cut_lh under28 elem28 size5 w A n c kl kh l h
theorem slice28_h' (h : Int) : (Instr.slice 28 (.slice A n c) none (some (.int kh h)) none).run Try.prog w =
    if 0 ≤ h ∧ h ≤ c then .ok (.slice A h.toNat c) w
    else ((Instr.sliceBounds true n c none (some (.int kh h)) none).run Try.prog w).andThen fun b w => .ok (sliced A b.1 b.2.1 b.2.2 1) w :=
  cut_h under28 elem28 size5 w A n c kh h
theorem slice28_l' (l : Int) : (Instr.slice 28 (.slice A n c) (some (.int kl l)) none none).run Try.prog w =
    if 0 ≤ l ∧ l ≤ n then .ok (.slice (cutA A 1 l.toNat c) (n - l.toNat) (c - l.toNat)) w
    else ((Instr.sliceBounds true n c (some (.int kl l)) none none).run Try.prog w).andThen fun b w => .ok (sliced A b.1 b.2.1 b.2.2 1) w :=
  cut_l under28 elem28 size5 w A n c kl l
end
attribute [go_sem high] slice28_lh' slice28_h' slice28_l'

/-- a byte slice value of the call's own: it owns just these bytes -/
def Own (w : World) (base : Nat) (v : Value) (xs : List UInt8) : Prop := w.ownsRow base 5 1 v xs.length (b8s xs)

theorem info5 : (Try.prog.info? 5).map (fun i => (i.zero, i.size, i.bytes)) = some (some (.int .u8 0), 1, 1) := by kernel_rfl

section
variable {w w' : World} {base : Nat} {v : Value} {xs : List UInt8}
theorem Own.nil (w : World) (base : Nat) : Own w base (.slice none 0 0) [] := World.ownsRow_nil w base 5 1
theorem Own.kept {row : Option Nat} (h : Own w base v xs) (hg : w.grownBy w' row) (hne : v.ownBlock = none ∨ v.ownBlock ≠ row) : Own w' base v xs := World.ownsRow.kept h hg hne
theorem Own.alloc (h : Own w base v xs) (o : Obj) : Own (w.alloc o) base v xs := World.ownsRow.alloc h o
theorem Own.lt (h : Own w base v xs) : ∀ k, v.ownBlock = some k → base ≤ k ∧ k < w.heap.size := World.ownsRow.lt h
theorem Own.drewN (h : Own w base v xs) (n : Nat) : Own (w.drewN n) base v xs := h
theorem Own.drew (h : Own w base v xs) : Own w.drew base v xs := h
theorem Own.form (h : Own w base v xs) : ∃ A c, v = .slice A xs.length c ∧ xs.length ≤ c ∧ c ≤ maxLen ∧ RdB w w.heap.size A xs := by
  rcases h.2 with ⟨rfl, h0⟩ | ⟨g, cap, cur, rfl, _, _, hc, hm, _, _⟩
  · have : xs = [] := List.eq_nil_of_length_eq_zero h0
    subst this
    exact ⟨none, 0, rfl, Nat.le_refl _, Nat.zero_le _, RdB.nil _⟩
  · exact ⟨_, cap, rfl, hc, hm, Rd.of_own h⟩
theorem Own.rd {A : Option Addr} {n c : Nat} (h : Own w base (.slice A n c) xs) : RdB w w.heap.size A xs := by
  obtain ⟨A', c', e, _, _, hr⟩ := h.form
  injection e with e1 e2 e3
  subst e1
  exact hr
theorem Own.cap {A : Option Addr} {n c : Nat} (h : Own w base (.slice A n c) xs) : n = xs.length ∧ xs.length ≤ c ∧ c ≤ maxLen := by
  obtain ⟨A', c', e, h1, h2, _⟩ := h.form
  injection e with e1 e2 e3
  subst e2 e3
  exact ⟨rfl, h1, h2⟩
/-- where it lies, it is a block of bytes: no block of another element type -/
theorem Own.ne {g : Nat} {t : TypeId} {cs : Array Value} (h : Own w base v xs) (hg : Blk w g t cs) (hne : t ≠ 5) : v.ownBlock ≠ some g := by
  rcases h.2 with ⟨rfl, _⟩ | ⟨g', cap, cur, rfl, _, hh, _⟩
  · simp [Value.ownBlock]
  · intro he
    have : g' = g := by simpa [Value.ownBlock] using he
    subst this
    exact Blk.ne (t := 5) hh hg (fun e => hne e.symm) rfl
theorem Own.below (h : Own w base v xs) {B : Nat} (hb : Below B w w') (hB : w.heap.size ≤ B) : Own w' base v xs :=
  h.kept (row := none) ⟨hb.os, hb.tape, hb.output, hb.size, fun k hk _ => hb.block k (Nat.lt_of_lt_of_le hk hB)⟩ (by cases hv : v.ownBlock <;> simp)
theorem Own.setCell (h : Own w base v xs) {p : Addr} (hp : v.ownBlock ≠ some p.block) (u : Value) : Own (w.setCell p u) base v xs :=
  h.kept (row := some p.block) ⟨rfl, rfl, rfl, by simp [World.setCell], fun k _ hn => Below.heap_setCell w p u k (fun e => hn (by rw [e]))⟩ (.inr hp)
end

theorem add_none (b off j : Nat) : (⟨b, off, none⟩ : Addr).add j = ⟨b, off + j, none⟩ := by
  unfold Addr.add; split <;> simp_all

section
variable {P : Program} (w : World)

/-- append, the source read by 'Rd': nil, empty or not -/
theorem run_append_rd (base : Nat) (t ty e : TypeId) (i : TypeInfo) (z : Value) (size bytes : Nat) (ht : P.underlying t = some (.slice e)) (hi : P.info? e = some i) (hz : i.zero = some z)
    (hsize : i.size = size) (hby : i.bytes = bytes) (hzs : z.cells.size = size) (hsz : 0 < size)
    (v : Value) (n : Nat) (xs : List Value) (hown : w.ownsRow base e size v n xs)
    (B : Nat) (A : Option Addr) (m c : Nat) (news : List Value) (hr : Rd w B size A m news) (h1 : ∀ u ∈ news, u.oneCell' = true)
    (h63 : n + m ≤ maxLen) (hbytes : (n + m) * bytes ≤ 140737488355328) (hbase : base ≤ w.heap.size) :
    ∃ v' w', (Builtin.append_ #[t, t] ty #[v, .slice A m c]).run P w = .ok v' w' ∧ w'.ownsRow base e size v' (n + m) (xs ++ news) ∧ w.grownBy w' v.ownBlock ∧
      (v'.ownBlock = v.ownBlock ∨ v'.ownBlock = some w.heap.size) := by
  have nothing : m = 0 → news = [] := fun h0 => List.eq_nil_of_length_eq_zero (by rw [hr.1, h0, Nat.zero_mul])
  cases A with
  | none =>
    have hm : m = 0 := by
      rcases Nat.eq_zero_or_pos m with h0 | h0
      · exact h0
      · obtain ⟨_, _, h, _⟩ := hr.2 h0
        cases h
    obtain rfl := nothing hm
    subst hm
    refine ⟨v, w, ?_, by simpa using hown, ⟨rfl, rfl, rfl, Nat.le_refl _, fun _ _ _ => rfl⟩, .inl rfl⟩
    rcases hown.2 with ⟨rfl, rfl⟩ | ⟨g, cap, cur, rfl, _, _, hnc, _⟩
    · simp [Builtin.append_, run_underlying ht, sizeOf, typeInfo, hi, Builtin.lenOf, Builtin.firstCells]
    · simp [Builtin.append_, run_underlying ht, sizeOf, typeInfo, hi, Builtin.lenOf, Builtin.firstCells, hnc, storeCells]
  | some ad =>
    have hcells : ∀ j u, news[j]? = some u → w.cell? (ad.add j) = some u := by
      intro j u hu
      rcases Nat.eq_zero_or_pos m with h0 | h0
      · rw [nothing h0] at hu
        simp at hu
      · obtain ⟨b, off, h, _, hc⟩ := hr.2 h0
        injection h with h
        subst h
        rw [add_none]
        exact hc j u hu
    obtain ⟨v', w', hrun, h2, h3, _, h5⟩ := run_append_own_at (P := P) w base t ty e i z size bytes ht hi hz hsize hby hzs hsz v n xs hown ad m c news hr.1 hcells h1 h63 hbytes hbase
    exact ⟨v', w', hrun, h2, h3, h5⟩
end

/-- append of bytes, in the seat's own program -/
theorem run_app8 (w : World) (base : Nat) (ty : TypeId) (v : Value) (xs : List UInt8) (hown : Own w base v xs) (B : Nat) (A : Option Addr) (m c : Nat) (ys : List UInt8) (hr : RdB w B A ys) (hm : m = ys.length)
    (hsz : xs.length + ys.length ≤ 70368744177664) (hbase : base ≤ w.heap.size) :
    ∃ v' w', (Builtin.append_ #[28, 28] ty #[v, .slice A m c]).run Try.prog w = .ok v' w' ∧ Own w' base v' (xs ++ ys) ∧ w.grownBy w' v.ownBlock ∧ (v'.ownBlock = v.ownBlock ∨ v'.ownBlock = some w.heap.size) := by
  subst hm
  obtain ⟨i, hi, hz0, hz1, hz2⟩ := info_parts info5
  obtain ⟨v', w', h1, h2, h3, h4⟩ := run_append_rd (P := Try.prog) w base 28 ty 5 i _ 1 1 Try.underlying28 hi hz0 hz1 hz2 rfl (by decide) v xs.length (b8s xs) hown B A ys.length c (b8s ys) hr (b8s_one ys)
    (by unfold maxLen; omega) (by omega) hbase
  refine ⟨v', w', h1, ?_, h3, h4⟩
  unfold Own
  rw [b8s_append, List.length_append]
  exact h2

theorem wp_app8 {o : Oper} {a : Act} {w : World} {K : Act → World → Prop} {Q : Exit → Act → World → Prop} (s x : Operand) (ho : o.op = .call { callee := .builtin .append, args := #[s, x], argTypes := #[28, 28] })
    (base : Nat) (v : Value) (xs : List UInt8) (hs : a.eval s = v) (hown : Own w base v xs) (B : Nat) (A : Option Addr) (m c : Nat) (ys : List UInt8) (hx : a.eval x = .slice A m c) (hr : RdB w B A ys) (hm : m = ys.length)
    (hsz : xs.length + ys.length ≤ 70368744177664) (hbase : base ≤ w.heap.size)
    (h : ∀ v' w', Own w' base v' (xs ++ ys) → w.grownBy w' v.ownBlock → (v'.ownBlock = v.ownBlock ∨ v'.ownBlock = some w.heap.size) → K (a.put o.dst v') w') : o.wp Try.prog a w K Q := by
  obtain ⟨v', w', hrun, h2, h3, h4⟩ := run_app8 w base o.type v xs hown B A m c ys hr hm hsz hbase
  unfold Oper.wp execOp
  simp only [ho, resolve, invoke, builtin, Sem.run_bind, Sem.run_pure, Result.andThen_ok, List.map_toArray, List.map_cons, List.map_nil, hs, hx, hrun]
  exact h v' w' h2 h3 h4

/-- .. at a plain region's list -/
theorem app8 {ops : Array Oper} {rest : List Oper} {o : Oper} {a : Act} {w : World} {Q : Exit → Act → World → Prop} (hgd : o.guard = none) (s x : Operand) (ho : o.op = .call { callee := .builtin .append, args := #[s, x], argTypes := #[28, 28] })
    (base : Nat) (v : Value) (xs : List UInt8) (hs : a.eval s = v) (hown : Own w base v xs) (B : Nat) (A : Option Addr) (m c : Nat) (ys : List UInt8) (hx : a.eval x = .slice A m c) (hr : RdB w B A ys) (hm : m = ys.length)
    (hsz : xs.length + ys.length ≤ 70368744177664) (hbase : base ≤ w.heap.size)
    (h : ∀ v' w', Own w' base v' (xs ++ ys) → w.grownBy w' v.ownBlock → (v'.ownBlock = v.ownBlock ∨ v'.ownBlock = some w.heap.size) → wpList Try.prog ops Q rest (a.put o.dst v') w') : wpList Try.prog ops Q (o :: rest) a w :=
  wpList_plain hgd fun _ hK => wp_app8 s x ho base v xs hs hown B A m c ys hx hr hm hsz hbase fun v' w' h2 h3 h4 => hK _ _ (h v' w' h2 h3 h4)

/-- a new block of bytes, as a slice -/
theorem RdB.new (w : World) (bs : List UInt8) (cs : Array Value) (hcs : cs = (b8s bs).toArray) : RdB (w.alloc (.cells cs 5)) (w.heap.size + 1) (some ⟨w.heap.size, 0, none⟩) bs := by
  subst hcs
  refine ⟨by rw [b8s_length, Nat.mul_one], fun _ => ⟨w.heap.size, 0, rfl, Nat.lt_succ_self _, fun j u hu => ?_⟩⟩
  rw [Nat.zero_add, (Blk.new w 5 _).cell]
  simpa using hu
theorem RdB.newF (w : World) (bs : List UInt8) (cs : Array Value) (fr : Nat × Nat) (hcs : cs = (b8s bs).toArray) : RdB (w.alloc (.cells cs 5 fr)) (w.heap.size + 1) (some ⟨w.heap.size, 0, none⟩) bs := by
  subst hcs
  refine ⟨by rw [b8s_length, Nat.mul_one], fun _ => ⟨w.heap.size, 0, rfl, Nat.lt_succ_self _, fun j u hu => ?_⟩⟩
  rw [Nat.zero_add, cell_of_row _ _ j _ 5 fr (heap_alloc_new w _)]
  simpa using hu
theorem Own.new (w : World) (base : Nat) (hb : base ≤ w.heap.size) (bs : List UInt8) (n : Nat) (hn : n = bs.length) (hm : n ≤ maxLen) (cs : Array Value) (hcs : cs = (b8s bs).toArray) :
    Own (w.alloc (.cells cs 5)) base (.slice (some ⟨w.heap.size, 0, none⟩) n n) bs := by
  subst hcs hn
  exact ⟨by rw [b8s_length, Nat.mul_one], .inr ⟨w.heap.size, bs.length, _, rfl, hb, Blk.new w 5 _, Nat.le_refl _, hm, by simp [b8s], by rw [Nat.mul_one]; exact List.take_of_length_le (by rw [b8s_length]; exact Nat.le_refl _)⟩⟩

theorem grownBy_drop_alloc {w w' : World} {o : Obj} {row : Option Nat} (h : (w.alloc o).grownBy w' row) : w.grownBy w' row :=
  ⟨h.os, h.tape, h.output, by have := h.size; simp at this; omega, fun k hk hn => (h.block k (by simp; omega) hn).trans (Below.heap_alloc w o k hk)⟩

/-- append of one byte: 'append(b, x)' lays x in a block of its own first -/
theorem app1 {ops : Array Oper} {rest : List Oper} {o : Oper} {a : Act} {w : World} {Q : Exit → Act → World → Prop} (hgd : o.guard = none) (s x : Operand) (ho : o.op = .call { callee := .builtin .append, args := #[s, x], argTypes := #[28, 28] })
    (base : Nat) (v : Value) (xs : List UInt8) (hs : a.eval s = v) (hown : Own w base v xs) (z : Int) (y : UInt8) (hz : z = u8v y) (hx : a.eval x = .slice (some ⟨w.heap.size, 0, none⟩) 1 1)
    (hsz : xs.length ≤ 70368744177663) (hbase : base ≤ w.heap.size)
    (h : ∀ v' w', Own w' base v' (xs ++ [y]) → w.grownBy w' v.ownBlock → (v'.ownBlock = v.ownBlock ∨ ∃ g, v'.ownBlock = some g ∧ w.heap.size ≤ g) → wpList Try.prog ops Q rest (a.put o.dst v') w') :
    wpList Try.prog ops Q (o :: rest) a (w.alloc (.cells #[.int .u8 z] 5)) := by
  subst hz
  refine app8 hgd s x ho base v xs hs (hown.alloc _) (w.heap.size + 1) _ 1 1 [y] hx (RdB.new w [y] _ rfl) rfl (by simp; omega) (by simp; omega) fun v' w' h1 h2 h3 => h v' w' h1 (grownBy_drop_alloc h2) ?_
  rcases h3 with h3 | h3
  · exact .inl h3
  · exact .inr ⟨_, h3, by simp⟩

/-- a cell of an array that is a value -/
theorem run_index_cell {P : Program} {t e n : Nat} (hu : P.underlying t = some (.array n e)) (hs : ∀ w, (sizeOf e).run P w = .ok 1 w) (ha : ∀ w, (isAgg e).run P w = .ok false w)
    (cs : Array Value) (i : Nat) (v : Value) (hi : i < n) (hc : cs[i]? = some v) (k : IntKind) (w : World) : (Instr.index t (.agg cs) (.int k (i : Int))).run P w = .ok v w := by
  have h0 : (0 : Int) ≤ (i : Int) ∧ (i : Int) < (n : Int) := by omega
  simp [Instr.index, run_underlying hu, asIntOf, part, h0, hs, ha, hc, hi]
theorem size79 (w : World) : (sizeOf 79).run Try.prog w = .ok 1 w := by kernel_rfl
theorem agg79 (w : World) : (isAgg 79).run Try.prog w = .ok false w := by kernel_rfl
theorem agg5 (w : World) : (isAgg 5).run Try.prog w = .ok false w := by kernel_rfl

/-- bytes as a string -/
def strOf (l : List UInt8) : ByteArray := ⟨l.toArray⟩
theorem strOf_inj {l m : List UInt8} (h : strOf l = strOf m) : l = m := by
  unfold strOf at h
  injection h with h
  exact List.toArray_inj h
theorem under28' : Try.prog.underlying 28 = some (.slice 5) := Try.underlying28
theorem nums_back (bs : List UInt8) : strOfNums (bs.map u8v) = strOf bs := by
  unfold strOfNums strOf
  congr 2
  rw [List.map_map]
  conv => rhs; rw [← List.map_id bs]
  apply List.map_congr_left
  intro b _
  simp [u8v]
theorem run_to_string {w : World} {B : Nat} {A : Option Addr} {bs : List UInt8} (h : RdB w B A bs) (c : Nat) : (convert 28 9 (.slice A bs.length c)).run Try.prog w = .ok (.string (strOf bs)) w := by
  rcases Nat.eq_zero_or_pos bs.length with h0 | h0
  · have h0 := List.eq_nil_of_length_eq_zero h0
    subst h0
    cases A with
    | none => exact run_convert_bytes_nil (P := Try.prog) (w := w) 28 5 Try.underlying28 Try.underlying5 _ _ 9 Try.underlying9
    | some ad =>
      rw [run_convert_bytes_string w 28 9 5 (some ad) ([] : List UInt8).length c Try.underlying28 Try.underlying5 Try.underlying9]
      have hl : (loadCells ad ([] : List UInt8).length).run Try.prog w = .ok (([] : List Int).map (Value.int .u8)).toArray w := by simp [loadCells, loadCellsFrom]
      rw [run_bytesToString w ad ([] : List UInt8).length c [] hl]
      rfl
  · obtain ⟨b, off, rfl, _, hc⟩ := h.all h0
    rw [← nums_back]
    refine run_convert_bytes_arg w 28 5 Try.underlying28 Try.underlying5 b off bs.length c (bs.map u8v) (List.length_map ..) (fun i hi => ?_) 9 Try.underlying9
    rw [hc i hi]
    simp [hi]

/-- an array of bytes in a block of its own, cut whole: 'a[:]' -/
theorem RdB.arr {w : World} {g : Nat} {t : TypeId} {bs : List UInt8} (h : Blk w g t (b8s bs).toArray) : RdB w w.heap.size (some ⟨g, 0, none⟩) bs := by
  refine ⟨by rw [b8s_length, Nat.mul_one], fun _ => ⟨g, 0, rfl, h.lt, fun j u hu => ?_⟩⟩
  rw [Nat.zero_add, h.cell]
  simpa using hu

/-! frames -/
theorem grownBy_trans {a b c : World} {row : Option Nat} (h : a.grownBy b row) (k : b.grownBy c row) : a.grownBy c row :=
  ⟨k.os.trans h.os, k.tape.trans h.tape, k.output.trans h.output, Nat.le_trans h.size k.size, fun i hi hn => (k.block i (Nat.lt_of_lt_of_le hi h.size) hn).trans (h.block i hi hn)⟩
theorem below_of_grown {a b : World} {row : Option Nat} {B : Nat} (h : a.grownBy b row) (hB : B ≤ a.heap.size) (hr : ∀ k, row = some k → B ≤ k) : Below B a b :=
  ⟨h.os, h.tape, h.output, h.size, fun i hi => h.block i (by omega) (fun e => by have := hr i e.symm; omega)⟩

end Go.Proofs.Ytillnpllcfleeaa
