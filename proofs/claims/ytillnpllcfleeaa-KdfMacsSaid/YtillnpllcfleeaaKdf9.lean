/- Law 07, KdfMacs: the walk. -/
import Derived.Test.YtillnpllcfleeaaKdf8
import Derived.Test.YtillnpllcfleeaaSums06
namespace Go.Proofs.Ytillnpllcfleeaa
open Go Go.RowKit

set_option maxRecDepth 100000 in
set_option maxHeartbeats 4000000 in
theorem macs_any (v : Value) (key : List UInt8) (A : Option Addr) (l : List (List UInt8)) (c : Nat) (w : World) (hv : Sl w w.heap.size v key) (hl : RdL w w.heap.size A l) (hc : l.length ≤ 140737488355328) (hf : ∀ bs ∈ l, bs.length ≤ 140737488355328) :
    Calls Try.prog 7 #[v, .slice A l.length c] w fun e w' => e = .returned (.bool true) ∧ Below w.heap.size w w' := by
  have hv0 := hv
  obtain ⟨Ak, ck, rfl, hck, hmk, hrk⟩ := hv
  unfold maxLen at hmk
  have Hf := Lib.hid hf; clear hf
  by_cases h1 : 2000 < key.length
  · go_enter Try.func7, Try.ntmps7
    go_wp2_with (go_at_call 44; refine (known07 _).mono ?_; rintro e w1 ⟨rfl, hb1⟩)
    go_ret
    exact ⟨rfl, hb1⟩
  · by_cases hg : 2000 < l.length + l.flatten.length
    · have Hg := Lib.hid hg; clear hg
      go_enter Try.func7, Try.ntmps7
      go_wp2_with (first
        | (go_at_call 44; refine (known07 _).mono ?_; rintro e w1 ⟨rfl, hb1⟩
           have hl1 : RdL w1 w1.heap.size A l := (hl.below hb1 (Nat.le_refl _)).more hb1.size)
        | (go_at_call 32; refine (great_yes A l c 2000 _ hl1 hc Hf.out (by omega) Hg.out).mono ?_; rintro e w2 ⟨rfl, rfl⟩))
      go_ret
      exact ⟨rfl, hb1⟩
    · have hs : l.length + l.flatten.length ≤ 2000 := by omega
      clear hg hc
      have Hs := Lib.hid hs; clear hs
      obtain ⟨m, hm⟩ : ∃ m, m = l.flatten := ⟨_, rfl⟩
      have hml : m.length ≤ 2000 := by rw [hm]; have := Hs.out; omega
      have hll : l.length ≤ 2000 := by have := Hs.out; omega
      obtain ⟨Z, hZ⟩ : ∃ z, z = (b8s (List.replicate 32 0)).toArray := ⟨_, rfl⟩
      have hzZ := zero25
      rw [← hZ] at hzZ
      have HZ := Lib.hid hZ; clear hZ
      have HzZ := Lib.hid hzZ; clear hzZ
      obtain ⟨M, hM⟩ : ∃ z, z = mac key m := ⟨_, rfl⟩
      have lM : M.length = 32 := by rw [hM]; exact mac_length _ _
      have heq : ∀ W, (binOp .eql 25 (.agg (b8s M).toArray) (.agg (b8s M).toArray)).run Try.prog W = .ok (.bool true) W := fun W => by
        rw [eql25 W M M lM lM, beq_self_eq_true]
      have Hm := Lib.hid hm; clear hm
      have HM := Lib.hid hM; clear hM
      have HlM := Lib.hid lM; clear lM
      go_enter Try.func7, Try.ntmps7
      go_wp2_with (first
        | (go_at_call 44; refine (known07 _).mono ?_; rintro e w1 ⟨rfl, hb1⟩
           have hl1 : RdL w1 w1.heap.size A l := (hl.below hb1 (Nat.le_refl _)).more hb1.size)
        | (go_at_call 32; refine (great_no A l c 2000 _ hl1 (by omega) Hf.out (by omega) Hs.out).mono ?_; rintro e w2 ⟨rfl, rfl⟩)
        | (go_at_call 35; refine (ref_join A l c _ hl1 (by omega) (by rw [← Hm.out]; omega)).mono ?_; rintro e w4 ⟨v4, rfl, hO4, hb4⟩
           rw [← Hm.out] at hO4
           have x4 := hb1.trans (hb4.mono hb1.size)
           have hk4 := (hv0.below x4 (Nat.le_refl _)).more x4.size
           have hm4 := hO4.sl)
        | (go_at_call 45; refine (refmac_any _ _ key m _ hk4 hm4 (by omega) (by omega)).mono ?_; rintro e w5 ⟨rfl, hb5⟩
           rw [← HM.out])
        | (refine allocAt 6 rfl rfl 25 rfl Z HzZ.out ?_; intro g6 w6 hg6 hg6' hr6 hb6
           rw [HZ.out] at hr6
           have y6 := hb5.trans (hb6.mono hb5.size))
        | (refine stB rfl 25 (.tmp 6) (.tmp 20) rfl g6 rfl M rfl _ hr6 32 info25 HlM.out (by simp) ?_; intro w7 hr7 hg7
           have y7 := y6.grown hg7 y6.size (fun x hx => by cases hx; exact Nat.le_trans hb5.size hg6)
           have x7 := x4.trans (y7.mono x4.size)))
      have hk7 := (hk4.below y7 (Nat.le_refl _)).more y7.size
      have hm7 := (hm4.below y7 (Nat.le_refl _)).more y7.size
      have hl7 : RdL w7 w7.heap.size A l := (hl.below x7 (Nat.le_refl _)).more x7.size
      clear hk4 hm4 hO4 hr6 hg7 hb4 hb5 hb6 y6 y7 x4 hb1 hl1 hg6 hg6' hrk
      refine wp_region_ord (fun W => Below w7.heap.size w7 W) (.q 0 <| .q 1 <| .q 3 <| .m 2 <| .q 4 <| .q 5 <| .q 6 <| .q 7 <| .q 9 <| .m 8 <| .q 10 <| .q 11 <| .q 12 <| .done) (by kernel_rfl) (by kernel_rfl) (by kernel_rfl) (bdrew w7) ?_
      simp only [tr, List.getElem?_cons_succ, List.getElem?_cons_zero]
      iterate 3 (first
        | (refine wpTr_skip (by rfl) ?_; simp only [Act.put, List.setIfInBounds_toArray, List.set_cons_zero, List.set_cons_succ])
        | (refine wpTr_load 25 (.tmp 6) rfl g6 0 rfl (b8s M) _ (by rfl) (fun W hS => BlB.rng (Blk.call hr7 hS)) Try.underlying25 rfl (info25.trans (congrArg some (by rw [b8s_length, HlM.out]))) ?_; simp only [Act.put, List.setIfInBounds_toArray, List.set_cons_zero, List.set_cons_succ])
        | (refine wpTr_q (v := ?_) (by rfl) (fun W hW => ?_) ?_
           rotate_left
           · first | (go_simp; done) | (go_simp; with_reducible rfl)
           simp only [Act.put, List.setIfInBounds_toArray, List.set_cons_zero, List.set_cons_succ]))
      refine wpTr_m (fun K hK => ?_)
      go_wp2_with (go_at_call 46; refine (mac_any _ key A l c _ ((hk7.below (bdrew w7) (Nat.le_refl _)).more (Nat.le_refl _)) ((hl7.below (bdrew w7) (Nat.le_refl _)).more (Nat.le_refl _)) (by omega) (by omega) (by rw [← Hm.out]; omega)).mono ?_; rintro e w8 ⟨he, hb8⟩
                   rw [← Hm.out, ← HM.out] at he; subst he
                   have y8 : Below w7.heap.size w7 w8 := (bdrew w7).trans hb8)
      refine hK _ _ y8 ?_
      clear hK K
      iterate 5 (first
        | (refine wpTr_skip (by rfl) ?_; simp only [Act.put, List.setIfInBounds_toArray, List.set_cons_zero, List.set_cons_succ])
        | (refine wpTr_load 25 (.tmp 6) rfl g6 0 rfl (b8s M) _ (by rfl) (fun W hS => BlB.rng (Blk.call hr7 hS)) Try.underlying25 rfl (info25.trans (congrArg some (by rw [b8s_length, HlM.out]))) ?_; simp only [Act.put, List.setIfInBounds_toArray, List.set_cons_zero, List.set_cons_succ])
        | (refine wpTr_q (v := ?_) (by rfl) (fun W hW => ?_) ?_
           rotate_left
           · first | (go_simp; done) | (go_simp; with_reducible rfl)
           simp only [Act.put, List.setIfInBounds_toArray, List.set_cons_zero, List.set_cons_succ]))
      refine wpTr_m (fun K hK => ?_)
      go_wp2_with (go_at_call 47; refine (extract_any _ _ key m _ ((hk7.below y8 (Nat.le_refl _)).more y8.size) ((hm7.below y8 (Nat.le_refl _)).more y8.size) (by omega) (by omega)).mono ?_; rintro e w9 ⟨rfl, hb9⟩
                   rw [← HM.out]
                   have y9 := y8.trans (hb9.mono y8.size))
      refine hK _ _ y9 ?_
      clear hK K
      iterate 3 (first
        | (refine wpTr_skip (by rfl) ?_; simp only [Act.put, List.setIfInBounds_toArray, List.set_cons_zero, List.set_cons_succ])
        | (refine wpTr_q (v := ?_) (by rfl) (fun W hW => ?_) ?_
           rotate_left
           · first | (go_simp; done) | (go_simp; with_reducible rfl)
           simp only [Act.put, List.setIfInBounds_toArray, List.set_cons_zero, List.set_cons_succ]))
      refine wpTr_done ?_
      go_wp2
      go_ret
      exact ⟨rfl, x7.trans (y9.mono x7.size)⟩
end Go.Proofs.Ytillnpllcfleeaa
