/- append onto a row of the call's own: the old slice reads as before. No condition. -/
import Derived.Test.YtillnpllcfleeaaOwn2
namespace Go.Proofs.Ytillnpllcfleeaa
open Go Go.RowKit

set_option maxRecDepth 100000
section
variable {P : Program} (w : World)
/-- behind an append the old value owns what it owned -/
theorem append_old (base : Nat) (t ty e : TypeId) (i : TypeInfo) (z : Value) (ht : P.underlying t = some (.slice e)) (hi : P.info? e = some i) (hz : i.zero = some z)
    (v : Value) (n : Nat) (xs : List Value) (hown : w.ownsRow base e i.size v n xs) (a : Addr) (m c : Nat) (news : List Value) (hl : news.length = m * i.size) (hnews : ∀ j u, news[j]? = some u → w.cell? (a.add j) = some u)
    (h1 : ∀ u ∈ news, u.oneCell' = true) (h63 : n + m ≤ maxLen) (hbytes : (n + m) * i.bytes ≤ 140737488355328) {v' : Value} {w' : World}
    (hrun : (Builtin.append_ #[t, t] ty #[v, .slice (some a) m c]).run P w = .ok v' w') : w'.ownsRow base e i.size v n xs := by
  have hsmall : n + m ≤ 9223372036854775807 := by simp only [maxLen] at h63; omega
  rcases hown.2 with ⟨rfl, rfl⟩ | ⟨g, cap, cur, rfl, hbg, hg, hnc, hcm, hcs, htake⟩
  · have hx : xs = [] := List.eq_nil_of_length_eq_zero (by simpa using hown.1)
    subst hx
    exact World.ownsRow_nil w' base e i.size
  · by_cases hroom : n + m ≤ cap
    · have hfit : n * i.size + news.length ≤ cur.size := by rw [hl, hcs, ← Nat.add_mul]; exact Nat.mul_le_mul_right _ hroom
      have hr := run_append_room (P := P) w t ty e i ht hi g n cap cur hg a m c news hl hnews h1 hroom hfit
      rw [hr] at hrun
      injection hrun with _ hw
      subst hw
      refine ⟨hown.1, .inr ⟨g, cap, _, rfl, hbg, setRow_heap w g cur _ e _ hg, hnc, hcm, ?_, ?_⟩⟩
      · simp only [List.size_toArray, List.length_append, List.length_take, List.length_drop, Array.length_toList]
        omega
      · rw [htake, List.append_assoc, List.take_append_of_le_length (by rw [hown.1]; exact Nat.le_refl _), List.take_of_length_le (by rw [hown.1]; exact Nat.le_refl _)]
    · have hr := run_append_grow (P := P) w t ty e i z ht hi hz ⟨g, 0, none⟩ n cap xs hown.1 (hown.cells (g := g) rfl) a m c news hl hnews (by omega) (by omega) (growslice_fits (by omega) hbytes)
      rw [hr] at hrun
      injection hrun with _ hw
      subst hw
      exact World.ownsRow.alloc (w := w.drew) hown _
end

/-- append of bytes, with what is left of the old value -/
theorem run_app8o (w : World) (base : Nat) (ty : TypeId) (v : Value) (xs : List UInt8) (hown : Own w base v xs) (B : Nat) (A : Option Addr) (m c : Nat) (ys : List UInt8) (hr : RdB w B A ys) (hm : m = ys.length)
    (hsz : xs.length + ys.length ≤ 70368744177664) (hbase : base ≤ w.heap.size) :
    ∃ v' w', (Builtin.append_ #[28, 28] ty #[v, .slice A m c]).run Try.prog w = .ok v' w' ∧ Own w' base v' (xs ++ ys) ∧ w.grownBy w' v.ownBlock ∧ (v'.ownBlock = v.ownBlock ∨ v'.ownBlock = some w.heap.size) ∧ Own w' base v xs := by
  obtain ⟨v', w', h1, h2, h3, h4⟩ := run_app8 w base ty v xs hown B A m c ys hr hm hsz hbase
  refine ⟨v', w', h1, h2, h3, h4, ?_⟩
  subst hm
  obtain ⟨i, hi, hz0, hz1, hz2⟩ := info_parts info5
  cases A with
  | none =>
    have hy : ys = [] := by
      rcases Nat.eq_zero_or_pos ys.length with h0 | h0
      · exact List.eq_nil_of_length_eq_zero h0
      · obtain ⟨_, _, h, _⟩ := hr.2 h0
        cases h
    subst hy
    have hw : w' = w := by
      rcases hown.2 with ⟨rfl, h0⟩ | ⟨g, cap, cur, rfl, _, _, hnc, _⟩
      · simp [Builtin.append_, run_underlying Try.underlying28, sizeOf, typeInfo, hi, Builtin.lenOf, Builtin.firstCells] at h1
        exact h1.2.symm
      · simp [Builtin.append_, run_underlying Try.underlying28, sizeOf, typeInfo, hi, Builtin.lenOf, Builtin.firstCells, hnc, storeCells] at h1
        exact h1.2.symm
    rw [hw]
    exact hown
  | some ad =>
    have hcells : ∀ j u, (b8s ys)[j]? = some u → w.cell? (ad.add j) = some u := by
      intro j u hu
      rcases Nat.eq_zero_or_pos ys.length with h0 | h0
      · rw [List.eq_nil_of_length_eq_zero h0] at hu
        cases hu
      · obtain ⟨b, off, h, _, hc⟩ := hr.2 h0
        injection h with h
        subst h
        rw [add_none]
        exact hc j u hu
    unfold Own
    have := append_old (P := Try.prog) w base 28 ty 5 i _ Try.underlying28 hi hz0 v xs.length (b8s xs) (by rw [hz1]; exact hown) ad ys.length c (b8s ys) (by rw [b8s_length, hz1, Nat.mul_one]) hcells (b8s_one ys) (by unfold maxLen; omega) (by rw [hz2]; omega) h1
    rwa [hz1] at this

/-- .. at a plain region's list -/
theorem app8o {ops : Array Oper} {rest : List Oper} {o : Oper} {a : Act} {w : World} {Q : Exit → Act → World → Prop} (hgd : o.guard = none) (s x : Operand) (ho : o.op = .call { callee := .builtin .append, args := #[s, x], argTypes := #[28, 28] })
    (base : Nat) (v : Value) (xs : List UInt8) (hs : a.eval s = v) (hown : Own w base v xs) (B : Nat) (A : Option Addr) (m c : Nat) (ys : List UInt8) (hx : a.eval x = .slice A m c) (hr : RdB w B A ys) (hm : m = ys.length)
    (hsz : xs.length + ys.length ≤ 70368744177664) (hbase : base ≤ w.heap.size)
    (h : ∀ v' w', Own w' base v' (xs ++ ys) → w.grownBy w' v.ownBlock → Own w' base v xs → wpList Try.prog ops Q rest (a.put o.dst v') w') : wpList Try.prog ops Q (o :: rest) a w :=
  wpList_plain hgd fun K hK => by
    obtain ⟨v', w', hrun, h2, h3, h4, h5⟩ := run_app8o w base o.type v xs hown B A m c ys hr hm hsz hbase
    unfold Oper.wp execOp
    simp only [ho, resolve, invoke, builtin, Sem.run_bind, Sem.run_pure, Result.andThen_ok, List.map_toArray, List.map_cons, List.map_nil, hs, hx, hrun]
    exact hK _ _ (h v' w' h2 h3 h5)
theorem app1o {ops : Array Oper} {rest : List Oper} {o : Oper} {a : Act} {w : World} {Q : Exit → Act → World → Prop} (hgd : o.guard = none) (s x : Operand) (ho : o.op = .call { callee := .builtin .append, args := #[s, x], argTypes := #[28, 28] })
    (base : Nat) (v : Value) (xs : List UInt8) (hs : a.eval s = v) (hown : Own w base v xs) (z : Int) (y : UInt8) (hz : z = u8v y) (hx : a.eval x = .slice (some ⟨w.heap.size, 0, none⟩) 1 1)
    (hsz : xs.length ≤ 70368744177663) (hbase : base ≤ w.heap.size)
    (h : ∀ v' w', Own w' base v' (xs ++ [y]) → w.grownBy w' v.ownBlock → Own w' base v xs → wpList Try.prog ops Q rest (a.put o.dst v') w') :
    wpList Try.prog ops Q (o :: rest) a (w.alloc (.cells #[.int .u8 z] 5)) := by
  subst hz
  exact app8o hgd s x ho base v xs hs (hown.alloc _) (w.heap.size + 1) _ 1 1 [y] hx (RdB.new w [y] _ rfl) rfl (by simp; omega) (by simp; omega) fun v' w' h1 h2 h3 => h v' w' h1 (grownBy_drop_alloc h2) h3
/-- append of bytes, with what is left of the old value -/
theorem run_appWo (w : World) (base : Nat) (ty : TypeId) (v : Value) (xs : List UInt32) (hown : OwnW w base v xs) (B : Nat) (A : Option Addr) (m c : Nat) (ys : List UInt32) (hr : RdW w B A ys) (hm : m = ys.length)
    (hsz : xs.length + ys.length ≤ 17592186044416) (hbase : base ≤ w.heap.size) :
    ∃ v' w', (Builtin.append_ #[216, 216] ty #[v, .slice A m c]).run Try.prog w = .ok v' w' ∧ OwnW w' base v' (xs ++ ys) ∧ w.grownBy w' v.ownBlock ∧ (v'.ownBlock = v.ownBlock ∨ v'.ownBlock = some w.heap.size) ∧ OwnW w' base v xs := by
  obtain ⟨v', w', h1, h2, h3, h4⟩ := run_appW w base ty v xs hown B A m c ys hr hm hsz hbase
  refine ⟨v', w', h1, h2, h3, h4, ?_⟩
  subst hm
  obtain ⟨i, hi, hz0, hz1, hz2⟩ := info_parts info79
  cases A with
  | none =>
    have hy : ys = [] := by
      rcases Nat.eq_zero_or_pos ys.length with h0 | h0
      · exact List.eq_nil_of_length_eq_zero h0
      · obtain ⟨_, _, h, _⟩ := hr.2 h0
        cases h
    subst hy
    have hw : w' = w := by
      rcases hown.2 with ⟨rfl, h0⟩ | ⟨g, cap, cur, rfl, _, _, hnc, _⟩
      · simp [Builtin.append_, run_underlying Try.underlying216, sizeOf, typeInfo, hi, Builtin.lenOf, Builtin.firstCells] at h1
        exact h1.2.symm
      · simp [Builtin.append_, run_underlying Try.underlying216, sizeOf, typeInfo, hi, Builtin.lenOf, Builtin.firstCells, hnc, storeCells] at h1
        exact h1.2.symm
    rw [hw]
    exact hown
  | some ad =>
    have hcells : ∀ j u, (w32s ys)[j]? = some u → w.cell? (ad.add j) = some u := by
      intro j u hu
      rcases Nat.eq_zero_or_pos ys.length with h0 | h0
      · rw [List.eq_nil_of_length_eq_zero h0] at hu
        cases hu
      · obtain ⟨b, off, h, _, hc⟩ := hr.2 h0
        injection h with h
        subst h
        rw [add_none]
        exact hc j u hu
    unfold OwnW
    have := append_old (P := Try.prog) w base 216 ty 79 i _ Try.underlying216 hi hz0 v xs.length (w32s xs) (by rw [hz1]; exact hown) ad ys.length c (w32s ys) (by rw [w32s_length, hz1, Nat.mul_one]) hcells (w32s_one ys) (by unfold maxLen; omega) (by rw [hz2]; omega) h1
    rwa [hz1] at this

/-- .. at a plain region's list -/
theorem appWo {ops : Array Oper} {rest : List Oper} {o : Oper} {a : Act} {w : World} {Q : Exit → Act → World → Prop} (hgd : o.guard = none) (s x : Operand) (ho : o.op = .call { callee := .builtin .append, args := #[s, x], argTypes := #[216, 216] })
    (base : Nat) (v : Value) (xs : List UInt32) (hs : a.eval s = v) (hown : OwnW w base v xs) (B : Nat) (A : Option Addr) (m c : Nat) (ys : List UInt32) (hx : a.eval x = .slice A m c) (hr : RdW w B A ys) (hm : m = ys.length)
    (hsz : xs.length + ys.length ≤ 17592186044416) (hbase : base ≤ w.heap.size)
    (h : ∀ v' w', OwnW w' base v' (xs ++ ys) → w.grownBy w' v.ownBlock → OwnW w' base v xs → wpList Try.prog ops Q rest (a.put o.dst v') w') : wpList Try.prog ops Q (o :: rest) a w :=
  wpList_plain hgd fun K hK => by
    obtain ⟨v', w', hrun, h2, h3, h4, h5⟩ := run_appWo w base o.type v xs hown B A m c ys hr hm hsz hbase
    unfold Oper.wp execOp
    simp only [ho, resolve, invoke, builtin, Sem.run_bind, Sem.run_pure, Result.andThen_ok, List.map_toArray, List.map_cons, List.map_nil, hs, hx, hrun]
    exact hK _ _ (h v' w' h2 h3 h5)
theorem appW1o {ops : Array Oper} {rest : List Oper} {o : Oper} {a : Act} {w : World} {Q : Exit → Act → World → Prop} (hgd : o.guard = none) (s x : Operand) (ho : o.op = .call { callee := .builtin .append, args := #[s, x], argTypes := #[216, 216] })
    (base : Nat) (v : Value) (xs : List UInt32) (hs : a.eval s = v) (hown : OwnW w base v xs) (z : Int) (y : UInt32) (hz : z = u32v y) (hx : a.eval x = .slice (some ⟨w.heap.size, 0, none⟩) 1 1)
    (hsz : xs.length ≤ 17592186044415) (hbase : base ≤ w.heap.size)
    (h : ∀ v' w', OwnW w' base v' (xs ++ [y]) → w.grownBy w' v.ownBlock → OwnW w' base v xs → wpList Try.prog ops Q rest (a.put o.dst v') w') :
    wpList Try.prog ops Q (o :: rest) a (w.alloc (.cells #[.int .u32 z] 79)) := by
  subst hz
  exact appWo hgd s x ho base v xs hs (hown.alloc _) (w.heap.size + 1) _ 1 1 [y] hx (RdW.new w [y] _ rfl) rfl (by simp; omega) (by simp; omega) fun v' w' h1 h2 h3 => h v' w' h1 (grownBy_drop_alloc h2) h3
end Go.Proofs.Ytillnpllcfleeaa
