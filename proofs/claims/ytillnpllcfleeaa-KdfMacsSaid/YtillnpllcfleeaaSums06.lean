/- Law 06, ShaSums: the walk. -/
import Derived.Test.YtillnpllcfleeaaRef06g
import Derived.Test.YtillnpllcfleeaaKnown06
import Derived.Test.YtillnpllcfleeaaExt
namespace Go.Proofs.Ytillnpllcfleeaa
open Go Go.RowKit

theorem great_yes (A : Option Addr) (l : List (List UInt8)) (c m : Nat) (w : World) (hl : RdL w w.heap.size A l) (hc : l.length ≤ 140737488355328) (hf : ∀ bs ∈ l, bs.length ≤ 140737488355328) (hm : m ≤ 1099511627776) (h : m < l.length + l.flatten.length) :
    Calls Try.prog 32 #[.slice A l.length c, .int .i64 (m : Int)] w fun e w' => e = .returned (.bool true) ∧ w' = w :=
  (ref_great A l c m w hl hc hf hm).mono fun e w' ⟨he, hw⟩ => ⟨by rw [he, decide_eq_true h], hw⟩
theorem great_no (A : Option Addr) (l : List (List UInt8)) (c m : Nat) (w : World) (hl : RdL w w.heap.size A l) (hc : l.length ≤ 140737488355328) (hf : ∀ bs ∈ l, bs.length ≤ 140737488355328) (hm : m ≤ 1099511627776) (h : l.length + l.flatten.length ≤ m) :
    Calls Try.prog 32 #[.slice A l.length c, .int .i64 (m : Int)] w fun e w' => e = .returned (.bool false) ∧ w' = w :=
  (ref_great A l c m w hl hc hf hm).mono fun e w' ⟨he, hw⟩ => ⟨by rw [he, decide_eq_false (by omega)], hw⟩

set_option maxRecDepth 100000 in
set_option maxHeartbeats 1000000 in
theorem sums_any (A : Option Addr) (l : List (List UInt8)) (c : Nat) (w : World) (hl : RdL w w.heap.size A l) (hc : l.length ≤ 140737488355328) (hf : ∀ bs ∈ l, bs.length ≤ 140737488355328) :
    Calls Try.prog 3 #[.slice A l.length c] w fun e w' => e = .returned (.bool true) ∧ Below w.heap.size w w' := by
  by_cases hg : 3000 < l.length + l.flatten.length
  · have Hf := Lib.hid hf; clear hf
    have Hg := Lib.hid hg; clear hg
    go_enter Try.func3, Try.ntmps3
    go_wp2_with (first
      | (go_at_call 31; refine (known06 _).mono ?_; rintro e w1 ⟨rfl, hb1⟩
         have hl1 : RdL w1 w1.heap.size A l := (hl.below hb1 (Nat.le_refl _)).more hb1.size)
      | (go_at_call 32; refine (great_yes A l c 3000 _ hl1 hc Hf.out (by omega) Hg.out).mono ?_; rintro e w2 ⟨rfl, rfl⟩))
    go_ret
    exact ⟨rfl, hb1⟩
  · have hs : l.length + l.flatten.length ≤ 3000 := by omega
    have Hf := Lib.hid hf; clear hf
    have Hs := Lib.hid hs
    clear hg
    obtain ⟨m, hm⟩ : ∃ m, m = l.flatten := ⟨_, rfl⟩
    have hml : m.length ≤ 3000 := by rw [hm]; omega
    have hll : l.length ≤ 3000 := by omega
    clear hs hc
    obtain ⟨D, hD⟩ : ∃ D, D = sha m := ⟨_, rfl⟩
    have hDl : D.length = 32 := by rw [hD]; exact sha_length' m
    have Hm := Lib.hid hm; clear hm
    have HD := Lib.hid hD; clear hD
    have HDl := Lib.hid hDl; clear hDl
    have heq : ∀ W, (binOp .eql 25 (.agg (b8s D).toArray) (.agg (b8s D).toArray)).run Try.prog W = .ok (.bool true) W := fun W => by
      rw [eql25 W D D HDl.out HDl.out, beq_self_eq_true]
    go_enter Try.func3, Try.ntmps3
    go_wp2_with (first
      | (go_at_call 31; refine (known06 _).mono ?_; rintro e w1 ⟨rfl, hb1⟩
         have hl1 : RdL w1 w1.heap.size A l := (hl.below hb1 (Nat.le_refl _)).more hb1.size)
      | (go_at_call 32; refine (great_no A l c 3000 _ hl1 (by omega) Hf.out (by omega) Hs.out).mono ?_; rintro e w2 ⟨rfl, rfl⟩)
      | (go_at_call 33; refine (sum_any l A c _ hl1 (by omega) (by rw [← Hm.out]; omega)).mono ?_; rintro e w3 ⟨he, hb3⟩; rw [← Hm.out, ← HD.out] at he; subst he
         have hl3 : RdL w3 w3.heap.size A l := (hl1.below hb3 (Nat.le_refl _)).more hb3.size)
      | (go_at_call 35; refine (ref_join A l c _ hl3 (by omega) (by rw [← Hm.out]; omega)).mono ?_; rintro e w4 ⟨v, rfl, ho, hb4⟩
         rw [← Hm.out] at ho
         obtain ⟨A4, c4, rfl, hc4, hm4, hrd4⟩ := ho.form)
      | (go_at_call 34; refine (ref_sum A4 m c4 _ hrd4 (by omega)).mono ?_; rintro e w5 ⟨he, hb5⟩; rw [← HD.out] at he; subst he))
    go_ret
    exact ⟨rfl, hb1.trans ((hb3.mono hb1.size).trans ((hb4.mono (Nat.le_trans hb1.size hb3.size)).trans (hb5.mono (Nat.le_trans hb1.size (Nat.le_trans hb3.size hb4.size)))))⟩
end Go.Proofs.Ytillnpllcfleeaa
