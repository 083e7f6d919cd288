/- Words of four bytes, as slices: the laws of Mem and App, turned from bytes by program (the same texts). -/
import Derived.Test.YtillnpllcfleeaaApp
import Derived.Test.YtillnpllcfleeaaSha2
namespace Go.Proofs.Ytillnpllcfleeaa
open Go Go.RowKit
set_option maxRecDepth 20000

theorem w32s_length (l : List UInt32) : (w32s l).length = l.length := List.length_map ..
theorem w32s_append (l m : List UInt32) : w32s (l ++ m) = w32s l ++ w32s m := List.map_append ..
theorem w32s_nil : w32s [] = [] := rfl
theorem w32s_take (l : List UInt32) (n : Nat) : w32s (l.take n) = (w32s l).take n := List.map_take ..
theorem w32s_drop (l : List UInt32) (n : Nat) : w32s (l.drop n) = (w32s l).drop n := List.map_drop ..
theorem w32s_get (l : List UInt32) (k : Nat) : (w32s l)[k]? = (l[k]?).map w32 := List.getElem?_map ..
theorem w32s_one (l : List UInt32) : ∀ u ∈ w32s l, u.oneCell' = true := by
  intro u hu
  obtain ⟨b, _, rfl⟩ := List.mem_map.1 hu
  rfl
theorem w32_inj {a b : UInt32} (h : w32 a = w32 b) : a = b := by
  unfold w32 at h
  injection h with _ h
  exact u32v_inj h
theorem w32s_inj {l m : List UInt32} (h : w32s l = w32s m) : l = m := List.map_inj_right (fun _ _ e => w32_inj e) |>.1 h

/-- a byte slice that reads as bs -/
def RdW (w : World) (B : Nat) (A : Option Addr) (bs : List UInt32) : Prop := Rd w B 1 A bs.length (w32s bs)
section
variable {w w' : World} {B B' : Nat} {A : Option Addr} {bs : List UInt32}
theorem RdW.nil (A : Option Addr) : RdW w B A [] := Rd.nil A
theorem RdW.more (h : RdW w B A bs) (hB : B ≤ B') : RdW w B' A bs := Rd.more h hB
theorem RdW.below {C : Nat} (h : RdW w B A bs) (hb : Below C w w') (hC : B ≤ C) : RdW w' B A bs := Rd.below h hb hC
theorem RdW.drewN (h : RdW w B A bs) (k : Nat) : RdW (w.drewN k) B A bs := h
theorem RdW.alloc (h : RdW w B A bs) (hB : B ≤ w.heap.size) (o : Obj) : RdW (w.alloc o) B A bs := Rd.alloc h hB o
theorem RdW.setCell (h : RdW w B A bs) {p : Addr} (hB : B ≤ p.block) (u : Value) : RdW (w.setCell p u) B A bs := Rd.setCell h hB u
theorem RdW.cut (h : RdW w B A bs) {lo hi cap : Nat} (hl : lo ≤ hi) (hh : hi ≤ bs.length) (hc : bs.length ≤ cap) :
    RdW w B (cutA A 1 lo cap) ((bs.take hi).drop lo) := by
  have := Rd.cut h hl hh hc
  simp only [Nat.mul_one] at this
  unfold RdW
  rw [w32s_drop, w32s_take]
  rw [List.length_drop, List.length_take, Nat.min_eq_left hh]
  exact this
theorem RdW.cutl (h : RdW w B A bs) {lo cap : Nat} (hl : lo ≤ bs.length) (hc : bs.length ≤ cap) : RdW w B (cutA A 1 lo cap) (bs.drop lo) := by
  have := h.cut hl (Nat.le_refl _) hc
  rwa [List.take_length] at this
theorem RdW.cutlh (h : RdW w B A bs) {lo n cap : Nat} (hl : lo + n ≤ bs.length) (hc : bs.length ≤ cap) : RdW w B (cutA A 1 lo cap) ((bs.drop lo).take n) := by
  have := h.cut (Nat.le_add_right lo n) hl hc
  rwa [List.drop_take, Nat.add_sub_cancel_left] at this
theorem RdW.cuth (h : RdW w B A bs) {hi : Nat} (hh : hi ≤ bs.length) : RdW w B A (bs.take hi) := by
  have := h.cut (Nat.zero_le hi) hh (Nat.le_refl _)
  rw [List.drop_zero] at this
  unfold cutA at this
  split at this
  · exact this
  · cases A with
    | none => exact this
    | some a => simpa [Addr.add] using this
theorem RdW.at1 {k : Nat} (h : RdW w B A bs) (hk : k < bs.length) : ∃ b off, A = some ⟨b, off, none⟩ ∧ b < B ∧ w.cell? ⟨b, off + k, none⟩ = some (.int .u32 (u32v bs[k])) := by
  obtain ⟨b, off, u, e, hb, hx, hc⟩ := Rd.at1 h hk
  rw [w32s_get, List.getElem?_eq_getElem hk] at hx
  exact ⟨b, off, e, hb, by rw [hc, ← hx]; rfl⟩
/-- all its cells at once -/
theorem RdW.all (h : RdW w B A bs) (hk : 0 < bs.length) : ∃ b off, A = some ⟨b, off, none⟩ ∧ b < B ∧ ∀ k, (hk : k < bs.length) → w.cell? ⟨b, off + k, none⟩ = some (.int .u32 (u32v bs[k])) := by
  obtain ⟨b, off, e, hb, hc⟩ := h.2 hk
  exact ⟨b, off, e, hb, fun k hk' => hc k _ (by rw [w32s_get, List.getElem?_eq_getElem hk']; rfl)⟩
end

/-- cuts of a byte slice, in the seat's own program: where they lie stays behind 'cutA' -/
theorem elem216 : Try.prog.elem 216 = 79 := by kernel_rfl
theorem under216 : Try.prog.underlying 216 = some (.slice (Try.prog.elem 216)) := by rw [elem216]; exact Try.underlying216
section
variable {P : Program} {t e sz : Nat} (ht : P.underlying t = some (.slice (P.elem t))) (he : P.elem t = e) (hs : ∀ w, (sizeOf e).run P w = .ok sz w)
  (w : World) (A : Option Addr) (n c : Nat) (kl kh km : IntKind)
include ht he hs
end
section
variable (w : World) (A : Option Addr) (n c : Nat) (kl kh : IntKind)
theorem slice216_lh' (l h : Int) : (Instr.slice 216 (.slice A n c) (some (.int kl l)) (some (.int kh h)) none).run Try.prog w =
    if 0 ≤ l ∧ l ≤ h ∧ h ≤ c then .ok (.slice (cutA A 1 l.toNat c) (h.toNat - l.toNat) (c - l.toNat)) w
    else ((Instr.sliceBounds true n c (some (.int kl l)) (some (.int kh h)) none).run Try.prog w).andThen fun b w => .ok (sliced A b.1 b.2.1 b.2.2 1) w :=
  cut_lh under216 elem216 size79 w A n c kl kh l h
theorem slice216_h' (h : Int) : (Instr.slice 216 (.slice A n c) none (some (.int kh h)) none).run Try.prog w =
    if 0 ≤ h ∧ h ≤ c then .ok (.slice A h.toNat c) w
    else ((Instr.sliceBounds true n c none (some (.int kh h)) none).run Try.prog w).andThen fun b w => .ok (sliced A b.1 b.2.1 b.2.2 1) w :=
  cut_h under216 elem216 size79 w A n c kh h
theorem slice216_l' (l : Int) : (Instr.slice 216 (.slice A n c) (some (.int kl l)) none none).run Try.prog w =
    if 0 ≤ l ∧ l ≤ n then .ok (.slice (cutA A 1 l.toNat c) (n - l.toNat) (c - l.toNat)) w
    else ((Instr.sliceBounds true n c (some (.int kl l)) none none).run Try.prog w).andThen fun b w => .ok (sliced A b.1 b.2.1 b.2.2 1) w :=
  cut_l under216 elem216 size79 w A n c kl l
end
attribute [go_sem high] slice216_lh' slice216_h' slice216_l'

/-- a byte slice value of the call's own: it owns just these bytes -/
def OwnW (w : World) (base : Nat) (v : Value) (xs : List UInt32) : Prop := w.ownsRow base 79 1 v xs.length (w32s xs)

theorem info79 : (Try.prog.info? 79).map (fun i => (i.zero, i.size, i.bytes)) = some (some (.int .u32 0), 1, 4) := by kernel_rfl

section
variable {w w' : World} {base : Nat} {v : Value} {xs : List UInt32}
theorem OwnW.nil (w : World) (base : Nat) : OwnW w base (.slice none 0 0) [] := World.ownsRow_nil w base 79 1
theorem OwnW.kept {row : Option Nat} (h : OwnW w base v xs) (hg : w.grownBy w' row) (hne : v.ownBlock = none ∨ v.ownBlock ≠ row) : OwnW w' base v xs := World.ownsRow.kept h hg hne
theorem OwnW.alloc (h : OwnW w base v xs) (o : Obj) : OwnW (w.alloc o) base v xs := World.ownsRow.alloc h o
theorem OwnW.lt (h : OwnW w base v xs) : ∀ k, v.ownBlock = some k → base ≤ k ∧ k < w.heap.size := World.ownsRow.lt h
theorem OwnW.drewN (h : OwnW w base v xs) (n : Nat) : OwnW (w.drewN n) base v xs := h
theorem OwnW.drew (h : OwnW w base v xs) : OwnW w.drew base v xs := h
theorem OwnW.form (h : OwnW w base v xs) : ∃ A c, v = .slice A xs.length c ∧ xs.length ≤ c ∧ c ≤ maxLen ∧ RdW w w.heap.size A xs := by
  rcases h.2 with ⟨rfl, h0⟩ | ⟨g, cap, cur, rfl, _, _, hc, hm, _, _⟩
  · have : xs = [] := List.eq_nil_of_length_eq_zero h0
    subst this
    exact ⟨none, 0, rfl, Nat.le_refl _, Nat.zero_le _, RdW.nil _⟩
  · exact ⟨_, cap, rfl, hc, hm, Rd.of_own h⟩
theorem OwnW.rd {A : Option Addr} {n c : Nat} (h : OwnW w base (.slice A n c) xs) : RdW w w.heap.size A xs := by
  obtain ⟨A', c', e, _, _, hr⟩ := h.form
  injection e with e1 e2 e3
  subst e1
  exact hr
theorem OwnW.cap {A : Option Addr} {n c : Nat} (h : OwnW w base (.slice A n c) xs) : n = xs.length ∧ xs.length ≤ c ∧ c ≤ maxLen := by
  obtain ⟨A', c', e, h1, h2, _⟩ := h.form
  injection e with e1 e2 e3
  subst e2 e3
  exact ⟨rfl, h1, h2⟩
/-- where it lies, it is a block of bytes: no block of another element type -/
theorem OwnW.ne {g : Nat} {t : TypeId} {cs : Array Value} (h : OwnW w base v xs) (hg : Blk w g t cs) (hne : t ≠ 79) : v.ownBlock ≠ some g := by
  rcases h.2 with ⟨rfl, _⟩ | ⟨g', cap, cur, rfl, _, hh, _⟩
  · simp [Value.ownBlock]
  · intro he
    have : g' = g := by simpa [Value.ownBlock] using he
    subst this
    exact Blk.ne (t := 79) hh hg (fun e => hne e.symm) rfl
theorem OwnW.below (h : OwnW w base v xs) {B : Nat} (hb : Below B w w') (hB : w.heap.size ≤ B) : OwnW w' base v xs :=
  h.kept (row := none) ⟨hb.os, hb.tape, hb.output, hb.size, fun k hk _ => hb.block k (Nat.lt_of_lt_of_le hk hB)⟩ (by cases hv : v.ownBlock <;> simp)
theorem OwnW.setCell (h : OwnW w base v xs) {p : Addr} (hp : v.ownBlock ≠ some p.block) (u : Value) : OwnW (w.setCell p u) base v xs :=
  h.kept (row := some p.block) ⟨rfl, rfl, rfl, by simp [World.setCell], fun k _ hn => Below.heap_setCell w p u k (fun e => hn (by rw [e]))⟩ (.inr hp)
end

section
variable {P : Program} (w : World)

end

/-- append of bytes, in the seat's own program -/
theorem run_appW (w : World) (base : Nat) (ty : TypeId) (v : Value) (xs : List UInt32) (hown : OwnW w base v xs) (B : Nat) (A : Option Addr) (m c : Nat) (ys : List UInt32) (hr : RdW w B A ys) (hm : m = ys.length)
    (hsz : xs.length + ys.length ≤ 17592186044416) (hbase : base ≤ w.heap.size) :
    ∃ v' w', (Builtin.append_ #[216, 216] ty #[v, .slice A m c]).run Try.prog w = .ok v' w' ∧ OwnW w' base v' (xs ++ ys) ∧ w.grownBy w' v.ownBlock ∧ (v'.ownBlock = v.ownBlock ∨ v'.ownBlock = some w.heap.size) := by
  subst hm
  obtain ⟨i, hi, hz0, hz1, hz2⟩ := info_parts info79
  obtain ⟨v', w', h1, h2, h3, h4⟩ := run_append_rd (P := Try.prog) w base 216 ty 79 i _ 1 4 Try.underlying216 hi hz0 hz1 hz2 rfl (by decide) v xs.length (w32s xs) hown B A ys.length c (w32s ys) hr (w32s_one ys)
    (by unfold maxLen; omega) (by omega) hbase
  refine ⟨v', w', h1, ?_, h3, h4⟩
  unfold OwnW
  rw [w32s_append, List.length_append]
  exact h2

theorem wp_appW {o : Oper} {a : Act} {w : World} {K : Act → World → Prop} {Q : Exit → Act → World → Prop} (s x : Operand) (ho : o.op = .call { callee := .builtin .append, args := #[s, x], argTypes := #[216, 216] })
    (base : Nat) (v : Value) (xs : List UInt32) (hs : a.eval s = v) (hown : OwnW w base v xs) (B : Nat) (A : Option Addr) (m c : Nat) (ys : List UInt32) (hx : a.eval x = .slice A m c) (hr : RdW w B A ys) (hm : m = ys.length)
    (hsz : xs.length + ys.length ≤ 17592186044416) (hbase : base ≤ w.heap.size)
    (h : ∀ v' w', OwnW w' base v' (xs ++ ys) → w.grownBy w' v.ownBlock → (v'.ownBlock = v.ownBlock ∨ v'.ownBlock = some w.heap.size) → K (a.put o.dst v') w') : o.wp Try.prog a w K Q := by
  obtain ⟨v', w', hrun, h2, h3, h4⟩ := run_appW w base o.type v xs hown B A m c ys hr hm hsz hbase
  unfold Oper.wp execOp
  simp only [ho, resolve, invoke, builtin, Sem.run_bind, Sem.run_pure, Result.andThen_ok, List.map_toArray, List.map_cons, List.map_nil, hs, hx, hrun]
  exact h v' w' h2 h3 h4

/-- .. at a plain region's list -/
theorem appW {ops : Array Oper} {rest : List Oper} {o : Oper} {a : Act} {w : World} {Q : Exit → Act → World → Prop} (hgd : o.guard = none) (s x : Operand) (ho : o.op = .call { callee := .builtin .append, args := #[s, x], argTypes := #[216, 216] })
    (base : Nat) (v : Value) (xs : List UInt32) (hs : a.eval s = v) (hown : OwnW w base v xs) (B : Nat) (A : Option Addr) (m c : Nat) (ys : List UInt32) (hx : a.eval x = .slice A m c) (hr : RdW w B A ys) (hm : m = ys.length)
    (hsz : xs.length + ys.length ≤ 17592186044416) (hbase : base ≤ w.heap.size)
    (h : ∀ v' w', OwnW w' base v' (xs ++ ys) → w.grownBy w' v.ownBlock → (v'.ownBlock = v.ownBlock ∨ v'.ownBlock = some w.heap.size) → wpList Try.prog ops Q rest (a.put o.dst v') w') : wpList Try.prog ops Q (o :: rest) a w :=
  wpList_plain hgd fun _ hK => wp_appW s x ho base v xs hs hown B A m c ys hx hr hm hsz hbase fun v' w' h2 h3 h4 => hK _ _ (h v' w' h2 h3 h4)

/-- a new block of bytes, as a slice -/
theorem RdW.new (w : World) (bs : List UInt32) (cs : Array Value) (hcs : cs = (w32s bs).toArray) : RdW (w.alloc (.cells cs 79)) (w.heap.size + 1) (some ⟨w.heap.size, 0, none⟩) bs := by
  subst hcs
  refine ⟨by rw [w32s_length, Nat.mul_one], fun _ => ⟨w.heap.size, 0, rfl, Nat.lt_succ_self _, fun j u hu => ?_⟩⟩
  rw [Nat.zero_add, (Blk.new w 79 _).cell]
  simpa using hu
theorem RdW.newF (w : World) (bs : List UInt32) (cs : Array Value) (fr : Nat × Nat) (hcs : cs = (w32s bs).toArray) : RdW (w.alloc (.cells cs 79 fr)) (w.heap.size + 1) (some ⟨w.heap.size, 0, none⟩) bs := by
  subst hcs
  refine ⟨by rw [w32s_length, Nat.mul_one], fun _ => ⟨w.heap.size, 0, rfl, Nat.lt_succ_self _, fun j u hu => ?_⟩⟩
  rw [Nat.zero_add, cell_of_row _ _ j _ 79 fr (heap_alloc_new w _)]
  simpa using hu
theorem OwnW.new (w : World) (base : Nat) (hb : base ≤ w.heap.size) (bs : List UInt32) (n : Nat) (hn : n = bs.length) (hm : n ≤ maxLen) (cs : Array Value) (hcs : cs = (w32s bs).toArray) :
    OwnW (w.alloc (.cells cs 79)) base (.slice (some ⟨w.heap.size, 0, none⟩) n n) bs := by
  subst hcs hn
  exact ⟨by rw [w32s_length, Nat.mul_one], .inr ⟨w.heap.size, bs.length, _, rfl, hb, Blk.new w 79 _, Nat.le_refl _, hm, by simp [w32s], by rw [Nat.mul_one]; exact List.take_of_length_le (by rw [w32s_length]; exact Nat.le_refl _)⟩⟩

/-- append of one byte: 'append(b, x)' lays x in a block of its own first -/
theorem appW1 {ops : Array Oper} {rest : List Oper} {o : Oper} {a : Act} {w : World} {Q : Exit → Act → World → Prop} (hgd : o.guard = none) (s x : Operand) (ho : o.op = .call { callee := .builtin .append, args := #[s, x], argTypes := #[216, 216] })
    (base : Nat) (v : Value) (xs : List UInt32) (hs : a.eval s = v) (hown : OwnW w base v xs) (z : Int) (y : UInt32) (hz : z = u32v y) (hx : a.eval x = .slice (some ⟨w.heap.size, 0, none⟩) 1 1)
    (hsz : xs.length ≤ 17592186044415) (hbase : base ≤ w.heap.size)
    (h : ∀ v' w', OwnW w' base v' (xs ++ [y]) → w.grownBy w' v.ownBlock → (v'.ownBlock = v.ownBlock ∨ ∃ g, v'.ownBlock = some g ∧ w.heap.size ≤ g) → wpList Try.prog ops Q rest (a.put o.dst v') w') :
    wpList Try.prog ops Q (o :: rest) a (w.alloc (.cells #[.int .u32 z] 79)) := by
  subst hz
  refine appW hgd s x ho base v xs hs (hown.alloc _) (w.heap.size + 1) _ 1 1 [y] hx (RdW.new w [y] _ rfl) rfl (by simp; omega) (by simp; omega) fun v' w' h1 h2 h3 => h v' w' h1 (grownBy_drop_alloc h2) ?_
  rcases h3 with h3 | h3
  · exact .inl h3
  · exact .inr ⟨_, h3, by simp⟩

theorem under216' : Try.prog.underlying 216 = some (.slice 79) := Try.underlying216
/-- an array of bytes in a block of its own, cut whole: 'a[:]' -/
theorem RdW.arr {w : World} {g : Nat} {t : TypeId} {bs : List UInt32} (h : Blk w g t (w32s bs).toArray) : RdW w w.heap.size (some ⟨g, 0, none⟩) bs := by
  refine ⟨by rw [w32s_length, Nat.mul_one], fun _ => ⟨g, 0, rfl, h.lt, fun j u hu => ?_⟩⟩
  rw [Nat.zero_add, h.cell]
  simpa using hu

/-! frames -/
end Go.Proofs.Ytillnpllcfleeaa
