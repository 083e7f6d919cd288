/- Layer 7, walks: the MAC. -/
import Derived.Test.YtillnpllcfleeaaKdf1
import Derived.Test.YtillnpllcfleeaaOrd3
namespace Go.Proofs.Ytillnpllcfleeaa
open Go Go.RowKit

set_option maxRecDepth 100000 in
set_option maxHeartbeats 2000000 in
theorem mac_any (v : Value) (key : List UInt8) (A : Option Addr) (L : List (List UInt8)) (c : Nat) (w : World) (hv : Sl w w.heap.size v key) (hL : RdL w w.heap.size A L) (hn : key.length ≤ 1099511627776)
    (hl : L.length ≤ 549755813888) (hf : L.flatten.length ≤ 549755813888) :
    Calls Try.prog 46 #[v, .slice A L.length c] w fun e w' => e = .returned (.agg (b8s (mac key L.flatten)).toArray) ∧ Below w.heap.size w w' := by
  obtain ⟨Z, hZ⟩ : ∃ Z, Z = (b8s (List.replicate 32 0)).toArray := ⟨_, rfl⟩
  have hz := zero25
  rw [← hZ] at hz
  have HZ := Lib.hid hZ; clear hZ
  have Hz := Lib.hid hz; clear hz
  obtain ⟨B1, hB1⟩ : ∃ B, B = keyBlk 54 key := ⟨_, rfl⟩
  obtain ⟨B2, hB2⟩ : ∃ B, B = keyBlk 92 key := ⟨_, rfl⟩
  have hl1 : B1.length = 64 := by rw [hB1]; exact keyBlk_length _ _
  have hl2 : B2.length = 64 := by rw [hB2]; exact keyBlk_length _ _
  obtain ⟨I, hI⟩ : ∃ I, I = sha (B1 ++ L.flatten) := ⟨_, rfl⟩
  have hIl : I.length = 32 := by rw [hI]; exact sha_length' _
  obtain ⟨M, hM⟩ : ∃ M, M = mac key L.flatten := ⟨_, rfl⟩
  have hMe : sha (B2 ++ I) = M := by rw [hM, hI, hB1, hB2]; rfl
  have hMl : M.length = 32 := by rw [hM]; exact mac_length _ _
  have hs1 : (B1 ++ L.flatten).length ≤ 1099511627776 := by rw [List.length_append]; omega
  have hs2 : (B2 ++ I).length ≤ 1099511627776 := by rw [List.length_append]; omega
  have hbk1 : ∀ W, Sl W W.heap.size v key → Calls Try.prog 152 #[v, .int .u8 54] W fun e w' => ∃ r, e = .returned r ∧ Own w' W.heap.size r B1 ∧ Below W.heap.size W w' := fun W h => by
    rw [hB1]; exact block_any v key 54 W h hn
  have hbk2 : ∀ W, Sl W W.heap.size v key → Calls Try.prog 152 #[v, .int .u8 92] W fun e w' => ∃ r, e = .returned r ∧ Own w' W.heap.size r B2 ∧ Below W.heap.size W w' := fun W h => by
    rw [hB2]; exact block_any v key 92 W h hn
  have Hbk1 := Lib.hid hbk1; clear hbk1
  have Hbk2 := Lib.hid hbk2; clear hbk2
  have HB1 := Lib.hid hB1; clear hB1
  have HB2 := Lib.hid hB2; clear hB2
  have Hl1 := Lib.hid hl1; clear hl1
  have Hl2 := Lib.hid hl2; clear hl2
  have HI := Lib.hid hI; clear hI
  have HIl := Lib.hid hIl; clear hIl
  have HM := Lib.hid hM; clear hM
  have HMe := Lib.hid hMe; clear hMe
  have HMl := Lib.hid hMl; clear hMl
  go_enter Try.func46, Try.ntmps46
  go_wp2_with (first
    | (refine alloc_abs rfl 25 rfl Z Hz.out ?_; intro g1 w1 hg1 hg1' hr1 hb1
       rw [HZ.out] at hr1
       have hv1 : Sl w1 w1.heap.size v key := (hv.below hb1 (Nat.le_refl _)).more hb1.size)
    | (go_at_call 152; refine (Hbk1.out _ hv1).mono ?_; rintro e w2 ⟨r2, rfl, hO2, hb2⟩
       have hbw2 := hb1.trans (hb2.mono hb1.size)
       have hL2 := (hL.below hbw2 (Nat.le_refl _)).more hbw2.size)
    | (refine mkL1 rfl (.tmp 7) rfl B1 hO2.sl ?_; intro g3 w3 hg3 hg3' hO3 hb3
       have hbw3 := hbw2.trans (hb3.mono hbw2.size)
       have hL3 := hL2.below hb3 (Nat.le_refl _))
    | (at_builtin; refine appL rfl (.tmp 8) (.tmp 9) rfl w2.heap.size _ _ rfl hO3 A _ c L rfl hL3 rfl (by simp; omega) hb3.size ?_; intro v4 w4 hO4 hg4
       have hbw4 := hbw3.grown hg4 hbw3.size (fun x hx => by cases hx; exact Nat.le_trans hbw2.size hg3)
       obtain ⟨A4, c4, rfl, hc4, hm4⟩ := hO4.form
       have hbb4 : Below w2.heap.size w2 w4 := hb3.grown hg4 hb3.size (fun x hx => by cases hx; exact hg3))
    | (go_at_call 33; refine (sum_of ([B1] ++ L) (B1 ++ L.flatten) rfl _ _ _ _ _ hO4 hbb4.size (by simp; omega) hs1).mono ?_; rintro e w5 ⟨rfl, hb5⟩
       rw [← HI.out])
    | (refine alloc_abs rfl 25 rfl Z Hz.out ?_; intro g6 w6 hg6 hg6' hr6 hb6
       rw [HZ.out] at hr6)
    | (refine stB rfl 25 (.tmp 5) (.tmp 11) rfl g6 rfl I rfl _ hr6 32 info25 HIl.out (by simp) ?_; intro w7 hr7 hg7))
  have x4 : Below w1.heap.size w1 w4 := hb2.trans (hbb4.mono hb2.size)
  have x5 := x4.trans (hb5.mono x4.size)
  have x6 := x5.trans (hb6.mono x5.size)
  have x7 := x6.grown hg7 x6.size (fun x hx => by cases hx; exact Nat.le_trans x5.size hg6)
  have hv7 : Sl w7 w7.heap.size v key := (hv1.below x7 (Nat.le_refl _)).more x7.size
  have hR7 := Blk.call hr1 x7
  have hbw7 := hb1.trans (x7.mono hb1.size)
  clear hv1 hr1 hv hbw2 hbw3 hbw4 hL hL2 hL3 hO2 hO3 hO4 hc4 hm4 hb2 hb3 hbb4 hb5 hb6 hg4 hg7 x4 x5 x6 hb1 hg1' hr6 hg3 hg3' hg6' hg6
  refine wp_region_ord (fun W => Below w.heap.size w W) (.q 0 <| .q 2 <| .m 1 <| .m 3 <| .m 4 <| .m 5 <| .done) (by kernel_rfl) (by kernel_rfl) (by kernel_rfl) hbw7.drew ?_
  simp only [tr, List.getElem?_cons_succ, List.getElem?_cons_zero]
  iterate 2 (first
    | (refine wpTr_skip (by rfl) ?_; simp only [Act.put, List.setIfInBounds_toArray, List.set_cons_zero, List.set_cons_succ])
    | (refine wpTr_q (v := ?_) (by rfl) (fun W hW => ?_) ?_
       rotate_left
       · first | (go_simp; done) | (go_simp; with_reducible rfl)
       simp only [Act.put, List.setIfInBounds_toArray, List.set_cons_zero, List.set_cons_succ]))
  refine wpTr_m (fun K hK => ?_)
  go_wp2_with (go_at_call 152; refine (Hbk2.out _ ((hv7.below (bdrew w7) (Nat.le_refl _)).more (Nat.le_refl _))).mono ?_; rintro e w8 ⟨r8, rfl, hO8, hb8⟩
               have y8 : Below w7.heap.size w7 w8 := (bdrew w7).trans hb8
               have hr8 := Blk.call hr7 y8)
  refine hK _ _ (hbw7.trans (y8.mono hbw7.size)) ?_
  clear hK K
  refine wpTr_m (fun K hK => ?_)
  go_wp2_with (refine mkL2 (by rfl) (.tmp 13) (.tmp 14) (by rfl) B2 I hO8.sl (Sl.mk (BlB.all hr8) HIl.out.symm (by rw [HIl.out]; omega) (by unfold maxLen; omega)) ?_; intro g9 w9 hg9 hg9' hO9 hb9
               have y9 := y8.trans (hb9.mono y8.size))
  refine hK _ _ (hbw7.trans (y9.mono hbw7.size)) ?_
  clear hK K
  refine wpTr_m (fun K hK => ?_)
  go_wp2_with (go_at_call 33; refine (sum_of [B2, I] (B2 ++ I) (by simp) _ _ _ _ _ hO9 hb9.size (Nat.le_of_ble_eq_true rfl) hs2).mono ?_; rintro e w10 ⟨rfl, hb10⟩
               have y10 := y9.trans (hb10.mono y9.size)
               rw [HMe.out])
  refine hK _ _ (hbw7.trans (y10.mono hbw7.size)) ?_
  clear hK K
  refine wpTr_m (fun K hK => ?_)
  go_wp2_with (refine stB (by rfl) 25 (.tmp 4) (.tmp 16) (by rfl) g1 (by rfl) M (by rfl) _ (Blk.call hR7 y10) 32 info25 HMl.out (by simp) ?_; intro w11 hr11 hg11)
  have hbw11 := (hbw7.trans (y10.mono hbw7.size)).grown hg11 (hbw7.trans (y10.mono hbw7.size)).size (fun x hx => by cases hx; exact hg1)
  refine hK _ _ hbw11 ?_
  clear hK K
  refine wpTr_done ?_
  go_wp2
  refine bodyPost_ret (retB rfl g1 rfl M hr11 32 Try.underlying25 info25 HMl.out) rfl ⟨?_, hbw11⟩
  rw [HM.out]
end Go.Proofs.Ytillnpllcfleeaa
