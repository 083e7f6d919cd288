/- Lists of bytes that are written one element after the other, and blocks that hold just such bytes. No condition. -/
import Derived.Test.YtillnpllcfleeaaMem
import Derived.Deep.MidRow
namespace Go.Proofs.Ytillnpllcfleeaa
open Go Go.RowKit

section
variable {α : Type}
/-- the first i of new, the rest of old -/
def mixTo (i : Nat) (new old : List α) : List α := new.take i ++ old.drop i
theorem mixTo_zero (new old : List α) : mixTo 0 new old = old := by simp [mixTo]
theorem mixTo_all (n : Nat) (new old : List α) (hn : new.length = n) (ho : old.length = n) : mixTo n new old = new := by
  unfold mixTo
  rw [List.take_of_length_le (by omega), List.drop_of_length_le (by omega), List.append_nil]
theorem mixTo_length (i : Nat) (new old : List α) (h : new.length = old.length) : (mixTo i new old).length = old.length := by
  unfold mixTo
  rw [List.length_append, List.length_take, List.length_drop]; omega
theorem mixTo_old (i j : Nat) (new old : List α) (h : new.length = old.length) (hj : i ≤ j) : (mixTo i new old)[j]? = old[j]? := by
  unfold mixTo
  by_cases hl : i ≤ new.length
  · rw [List.getElem?_append_right (by rw [List.length_take]; omega), List.getElem?_drop, List.length_take]
    congr 1; omega
  · rw [List.getElem?_append_right (by rw [List.length_take]; omega), List.getElem?_drop, List.length_take, List.getElem?_eq_none (by omega), List.getElem?_eq_none (by omega)]
theorem mixTo_new (i j : Nat) (new old : List α) (h : new.length = old.length) (hj : j < i) : (mixTo i new old)[j]? = new[j]? := by
  unfold mixTo
  by_cases hl : j < new.length
  · rw [List.getElem?_append_left (by rw [List.length_take]; omega), List.getElem?_take, if_pos hj]
  · rw [List.getElem?_append_right (by rw [List.length_take]; omega), List.getElem?_drop, List.length_take, List.getElem?_eq_none (by omega), List.getElem?_eq_none (by omega)]
theorem mixTo_set (i : Nat) (new old : List α) (x : α) (h : new.length = old.length) (hi : i < new.length) (hx : new[i]? = some x) : (mixTo i new old).set i x = mixTo (i + 1) new old := by
  unfold mixTo
  have hl : (new.take i).length = i := by rw [List.length_take]; omega
  rw [List.set_append_right _ _ (by omega), hl, Nat.sub_self, List.drop_eq_getElem_cons (show i < old.length by omega), List.set_cons_zero]
  rw [List.take_succ_eq_append_getElem hi, List.append_assoc]
  rw [List.getElem?_eq_getElem hi] at hx
  injection hx with hx
  rw [hx]; rfl
theorem mixTo_back (i : Nat) (old new : List α) (x : α) (h : old.length = new.length) (hi : i < new.length) (hx : new[i]? = some x) : (mixTo (i + 1) old new).set i x = mixTo i old new := by
  unfold mixTo
  rw [List.take_succ_eq_append_getElem (show i < old.length by omega), List.append_assoc]
  have hl : (old.take i).length = i := by rw [List.length_take]; omega
  rw [List.set_append_right _ _ (by omega), hl, Nat.sub_self, List.singleton_append, List.set_cons_zero, List.drop_eq_getElem_cons hi]
  rw [List.getElem?_eq_getElem hi] at hx
  injection hx with hx
  rw [hx]
end

/-- the i-th byte -/
def bAt (l : List UInt8) (i : Nat) : UInt8 := l.getD i 0
theorem bAt_get (l : List UInt8) (i : Nat) (h : i < l.length) : l[i]? = some (bAt l i) := by
  unfold bAt
  rw [List.getD_eq_getElem?_getD, List.getElem?_eq_getElem h]; rfl
theorem bAt_elem (l : List UInt8) (i : Nat) (h : i < l.length) : l[i] = bAt l i := by
  have := bAt_get l i h
  rw [List.getElem?_eq_getElem h] at this
  exact Option.some.inj this
theorem bAt_mixTo_old (i j : Nat) (new old : List UInt8) (h : new.length = old.length) (hj : i ≤ j) : bAt (mixTo i new old) j = bAt old j := by
  unfold bAt
  rw [List.getD_eq_getElem?_getD, List.getD_eq_getElem?_getD, mixTo_old i j new old h hj]
theorem bAt_mixTo_new (i j : Nat) (new old : List UInt8) (h : new.length = old.length) (hj : j < i) : bAt (mixTo i new old) j = bAt new j := by
  unfold bAt
  rw [List.getD_eq_getElem?_getD, List.getD_eq_getElem?_getD, mixTo_new i j new old h hj]
theorem bAt_set_same (l : List UInt8) (i : Nat) (x : UInt8) (h : i < l.length) : bAt (l.set i x) i = x := by
  unfold bAt
  rw [List.getD_eq_getElem?_getD, List.getElem?_set_self h]; rfl
theorem bAt_set_far (l : List UInt8) (i j : Nat) (x : UInt8) (h : i ≠ j) : bAt (l.set i x) j = bAt l j := by
  unfold bAt
  rw [List.getD_eq_getElem?_getD, List.getD_eq_getElem?_getD, List.getElem?_set_ne h]
theorem bAt_append_left (l m : List UInt8) (i : Nat) (h : i < l.length) : bAt (l ++ m) i = bAt l i := by
  unfold bAt
  rw [List.getD_eq_getElem?_getD, List.getD_eq_getElem?_getD, List.getElem?_append_left h]
theorem bAt_append_right (l m : List UInt8) (i : Nat) (h : l.length ≤ i) : bAt (l ++ m) i = bAt m (i - l.length) := by
  unfold bAt
  rw [List.getD_eq_getElem?_getD, List.getD_eq_getElem?_getD, List.getElem?_append_right h]
theorem bAt_drop (l : List UInt8) (n i : Nat) : bAt (l.drop n) i = bAt l (n + i) := by
  unfold bAt
  rw [List.getD_eq_getElem?_getD, List.getD_eq_getElem?_getD, List.getElem?_drop]
theorem bAt_take (l : List UInt8) (n i : Nat) (h : i < n) : bAt (l.take n) i = bAt l i := by
  unfold bAt
  rw [List.getD_eq_getElem?_getD, List.getD_eq_getElem?_getD, List.getElem?_take, if_pos h]
theorem bAt_ext (l m : List UInt8) (h : l.length = m.length) (hx : ∀ i, i < l.length → bAt l i = bAt m i) : l = m := by
  apply List.ext_getElem h
  intro i h1 h2
  rw [bAt_elem l i h1, bAt_elem m i h2]
  exact hx i h1

/-- n bytes, told by their places -/
def tab (n : Nat) (f : Nat → UInt8) : List UInt8 := (List.range n).map f
theorem tab_length (n : Nat) (f : Nat → UInt8) : (tab n f).length = n := by simp [tab]
theorem tab_get (n : Nat) (f : Nat → UInt8) (i : Nat) (h : i < n) : (tab n f)[i]? = some (f i) := by
  unfold tab
  rw [List.getElem?_map, List.getElem?_range h]; rfl
theorem bAt_tab (n : Nat) (f : Nat → UInt8) (i : Nat) (h : i < n) : bAt (tab n f) i = f i := by
  unfold bAt
  rw [List.getD_eq_getElem?_getD, tab_get n f i h]; rfl

/-! blocks of bytes -/
theorem b8s_set (l : List UInt8) (i : Nat) (x : UInt8) : (b8s l).toArray.setIfInBounds i (.int .u8 (u8v x)) = (b8s (l.set i x)).toArray := by
  unfold b8s
  rw [List.setIfInBounds_toArray, List.map_set]
  rfl
theorem b8s_hit (l : List UInt8) (i : Nat) (h : i < l.length) : (b8s l).toArray[i]? = some (.int .u8 (u8v (bAt l i))) := by
  rw [List.getElem?_toArray, b8s_get, bAt_get l i h]; rfl
theorem b8s_size (l : List UInt8) : (b8s l).toArray.size = l.length := by simp [b8s]
theorem b8s_allOne (l : List UInt8) : (b8s l).toArray.all (·.oneCell') = true := by
  rw [Array.all_eq_true_iff_forall_mem]
  intro v hv
  exact b8s_one l v (by simpa using hv)
section
variable {w : World} {g : Nat} {t : TypeId} {l : List UInt8}
/-- a block of bytes that reads as l -/
def BlB (w : World) (g : Nat) (t : TypeId) (l : List UInt8) : Prop := Blk w g t (b8s l).toArray
theorem BlB.blk (h : BlB w g t l) : Blk w g t (b8s l).toArray := h
theorem BlB.at (h : BlB w g t l) (i : Nat) (hi : i < l.length) : w.cell? ⟨g, i, none⟩ = some (.int .u8 (u8v (bAt l i))) := by
  rw [Blk.cell h, b8s_hit l i hi]
theorem BlB.set (h : BlB w g t l) (i : Nat) (x : UInt8) : BlB (w.setCell ⟨g, i, none⟩ (.int .u8 (u8v x))) g t (l.set i x) := by
  have := Blk.set h i (.int .u8 (u8v x))
  rw [b8s_set] at this
  exact this
theorem BlB.range (h : BlB w g t l) (o n : Nat) (hn : o + n ≤ l.length) : w.rangeAt g o (b8s ((l.drop o).take n)) := by
  intro j v hv
  rw [b8s_get, List.getElem?_take] at hv
  split at hv
  · rw [Blk.cell h, List.getElem?_toArray, b8s_get]
    rw [List.getElem?_drop] at hv
    exact hv
  · cases hv
/-- a piece of it, as a slice -/
theorem BlB.rd (h : BlB w g t l) (o n : Nat) (hn : o + n ≤ l.length) : RdB w w.heap.size (some ⟨g, o, none⟩) ((l.drop o).take n) := by
  refine ⟨by rw [b8s_length, Nat.mul_one], fun _ => ⟨g, o, rfl, Blk.lt h, fun j u hu => ?_⟩⟩
  exact h.range o n hn j u hu
end
end Go.Proofs.Ytillnpllcfleeaa
