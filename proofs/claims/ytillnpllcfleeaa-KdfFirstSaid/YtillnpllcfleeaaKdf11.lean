/- Law 07, KdfFirst: the walk. -/
import Derived.Test.YtillnpllcfleeaaKdf10
namespace Go.Proofs.Ytillnpllcfleeaa
open Go Go.RowKit

theorem cutKey_of (key : List UInt8) : 64 < key.length → cutKey key = sha key := fun h => by unfold cutKey; rw [if_pos h]
theorem neq_str (l : List UInt8) (W : World) : (binOp .neq 9 (.string (strOf l)) (.string (strOf l))).run Try.prog W = .ok (.bool false) W := by
  simp [go_sem]

set_option maxRecDepth 100000 in
set_option maxHeartbeats 4000000 in
theorem first_law_out (sec info key : List UInt8) (u v : Value) (n m : Int) (w : World) (hu : Sl w w.heap.size u info) (hv : Sl w w.heap.size v key) (h : 500 < info.length ∨ 500 < key.length ∨ n < 1 ∨ m < n ∨ 300 < m) :
    Calls Try.prog 8 #[.agg (b8s sec).toArray, u, v, .int .i64 n, .int .i64 m] w fun e w' => e = .returned (.bool true) ∧ Below w.heap.size w w' := by
  obtain ⟨A, c, rfl, hc, hm, hr⟩ := hu
  obtain ⟨A2, c2, rfl, hc2, hm2, hr2⟩ := hv
  clear hr hr2 hc hm hc2 hm2
  by_cases c1 : 500 < info.length
  · clear h
    go_enter Try.func8, Try.ntmps8
    go_wp2_with (first
      | (refine box_abs rfl 25 (.tmp 0) rfl (b8s sec).toArray rfl ?_; intro g1 w1 hg1 hg1' hr1 hb1)
      | (go_at_call 44; refine (known07 _).mono ?_; rintro e w2 ⟨rfl, hb2⟩))
    go_ret
    exact ⟨rfl, hb1.trans (hb2.mono hb1.size)⟩
  · by_cases d1 : 500 < key.length
    · clear h
      go_enter Try.func8, Try.ntmps8
      go_wp2_with (first
        | (refine box_abs rfl 25 (.tmp 0) rfl (b8s sec).toArray rfl ?_; intro g1 w1 hg1 hg1' hr1 hb1)
        | (go_at_call 44; refine (known07 _).mono ?_; rintro e w2 ⟨rfl, hb2⟩))
      go_ret
      exact ⟨rfl, hb1.trans (hb2.mono hb1.size)⟩
    · by_cases d2 : n < 1
      · clear h
        go_enter Try.func8, Try.ntmps8
        go_wp2_with (first
          | (refine box_abs rfl 25 (.tmp 0) rfl (b8s sec).toArray rfl ?_; intro g1 w1 hg1 hg1' hr1 hb1)
          | (go_at_call 44; refine (known07 _).mono ?_; rintro e w2 ⟨rfl, hb2⟩))
        go_ret
        exact ⟨rfl, hb1.trans (hb2.mono hb1.size)⟩
      · by_cases d3 : m < n
        · clear h
          go_enter Try.func8, Try.ntmps8
          go_wp2_with (first
            | (refine box_abs rfl 25 (.tmp 0) rfl (b8s sec).toArray rfl ?_; intro g1 w1 hg1 hg1' hr1 hb1)
            | (go_at_call 44; refine (known07 _).mono ?_; rintro e w2 ⟨rfl, hb2⟩))
          go_ret
          exact ⟨rfl, hb1.trans (hb2.mono hb1.size)⟩
        · have d4 : 300 < m := by omega
          clear h
          go_enter Try.func8, Try.ntmps8
          go_wp2_with (first
            | (refine box_abs rfl 25 (.tmp 0) rfl (b8s sec).toArray rfl ?_; intro g1 w1 hg1 hg1' hr1 hb1)
            | (go_at_call 44; refine (known07 _).mono ?_; rintro e w2 ⟨rfl, hb2⟩))
          go_ret
          exact ⟨rfl, hb1.trans (hb2.mono hb1.size)⟩

set_option maxRecDepth 100000 in
set_option maxHeartbeats 8000000 in
theorem first_law_in (sec info key : List UInt8) (u v : Value) (n m : Nat) (w : World) (hs : sec.length = 32) (hu : Sl w w.heap.size u info) (hv : Sl w w.heap.size v key) (h1 : info.length ≤ 500) (h2 : key.length ≤ 500) (h3 : 1 ≤ n) (h4 : n ≤ m) (h5 : m ≤ 300) :
    Calls Try.prog 8 #[.agg (b8s sec).toArray, u, v, .int .i64 (n : Int), .int .i64 (m : Int)] w fun e w' => e = .returned (.bool true) ∧ Below w.heap.size w w' := by
  have hu0 := hu
  have hv0 := hv
  obtain ⟨A, c, rfl, hc, hm, hr⟩ := hu
  obtain ⟨A2, c2, rfl, hc2, hm2, hr2⟩ := hv
  unfold maxLen at hm hm2
  obtain ⟨Z, hZ⟩ : ∃ z, z = (b8s (List.replicate 32 0)).toArray := ⟨_, rfl⟩
  have hzZ := zero25
  rw [← hZ] at hzZ
  have HZ := Lib.hid hZ; clear hZ
  have HzZ := Lib.hid hzZ; clear hzZ
  obtain ⟨X, hX⟩ : ∃ z, z = expand sec info n := ⟨_, rfl⟩
  obtain ⟨Y, hY⟩ : ∃ z, z = expand sec info m := ⟨_, rfl⟩
  have lX : X.length = n := by rw [hX]; exact expand_length _ _ _
  have lY : Y.length = m := by rw [hY]; exact expand_length _ _ _
  have hXY : Y.take n = X := by rw [hX, hY]; exact expand_first sec info n m h4
  have k1 : ∀ W (u : Value), Sl W W.heap.size u info → Calls Try.prog 48 #[.agg (b8s sec).toArray, u, .int .i64 (n : Int)] W fun e w' => ∃ v, e = .returned v ∧ Sl w' w'.heap.size v X ∧ Below W.heap.size W w' := fun W u h => by
    rw [hX]; exact expand_yes sec info u n W hs h (by omega) (by omega) (by omega)
  have k2 : ∀ W (u : Value), Sl W W.heap.size u info → Calls Try.prog 48 #[.agg (b8s sec).toArray, u, .int .i64 (m : Int)] W fun e w' => ∃ v, e = .returned v ∧ Sl w' w'.heap.size v Y ∧ Below W.heap.size W w' := fun W u h => by
    rw [hY]; exact expand_yes sec info u m W hs h (by omega) (by omega) (by omega)
  clear hX hY
  have Hs := Lib.hid hs; clear hs
  have Hk1 := Lib.hid k1; clear k1
  have Hk2 := Lib.hid k2; clear k2
  have HXY := Lib.hid hXY; clear hXY
  have HlX := Lib.hid lX; clear lX
  have HlY := Lib.hid lY; clear lY
  go_enter Try.func8, Try.ntmps8
  go_wp2_with (first
    | (refine box_abs rfl 25 (.tmp 0) rfl (b8s sec).toArray rfl ?_; intro g1 w1 hg1 hg1' hr1 hb1)
    | (go_at_call 44; refine (known07 _).mono ?_; rintro e w2 ⟨rfl, hb2⟩
       have x2 := hb1.trans (hb2.mono hb1.size)))
  have hr2' := Blk.call hr1 hb2
  refine wp_region_oy (.q 0 <| .q 1 <| .q 2 <| .q 4 <| .q 5 <| .q 6 <| .b 3 (.b 7 (.q 8 <| .q 9 <| .done) <| .e) <| .e) (by kernel_rfl) (by kernel_rfl) (by kernel_rfl) ?_
  intro W2 hW2
  have xW := x2.trans (hW2.mono x2.size)
  have hrW := Blk.call hr2' hW2
  have huW := (hu0.below xW (Nat.le_refl _)).more xW.size
  have hvW := (hv0.below xW (Nat.le_refl _)).more xW.size
  clear hu0 hv0 hr hr2 hr1 hb1 hb2 hr2' hW2 x2
  simp only [tw, List.getElem?_cons_succ, List.getElem?_cons_zero]
  iterate 6 (first
    | (refine wpTz_skip (by rfl) ?_; simp only [Act.put, List.setIfInBounds_toArray, List.set_cons_zero, List.set_cons_succ])
    | (refine wpTz_load 25 (.tmp 5) rfl g1 0 rfl (b8s sec) _ (by rfl) (fun W hS => BlB.rng (Blk.call hrW hS)) Try.underlying25 rfl (info25.trans (congrArg some (by rw [b8s_length, Hs.out]))) ?_; simp only [Act.put, List.setIfInBounds_toArray, List.set_cons_zero, List.set_cons_succ])
    | (refine wpTz_q (v := ?_) (by rfl) (fun W hW => ?_) ?_
       rotate_left
       · (try dsimp only at hW); first | (go_simp; done) | (go_simp; with_reducible rfl)
       simp only [Act.put, List.setIfInBounds_toArray, List.set_cons_zero, List.set_cons_succ]))
  refine wpTz_b (fun K hK => ?_) wpTz_e
  go_wp2_with (go_at_call 48; refine callsOf (args' := #[.agg (b8s sec).toArray, .slice A info.length c, .int .i64 (n : Int)]) (by with_reducible rfl) ?_; refine (Hk1.out _ _ huW).mono ?_; rintro e w3 ⟨v3, rfl, hS3, hb3⟩)
  refine wpTz_on hK hb3 ?_
  clear hK K
  refine wpTz_b (fun K hK => ?_) wpTz_e
  go_wp2_with (go_at_call 48; refine callsOf (args' := #[.agg (b8s sec).toArray, .slice A info.length c, .int .i64 (m : Int)]) (by with_reducible rfl) ?_; refine (Hk2.out _ _ ((huW.below hb3 (Nat.le_refl _)).more hb3.size)).mono ?_; rintro e w4 ⟨v4, rfl, hS4, hb4⟩)
  have y4 := hb3.trans (hb4.mono hb3.size)
  obtain ⟨A3, c3, rfl, hc3, hm3, hr3⟩ := (hS3.below hb4 (Nat.le_refl _)).more hb4.size
  obtain ⟨A4, c4, rfl, hc4, hm4, hr4⟩ := hS4
  unfold maxLen at hm3 hm4
  have x4 := xW.trans (y4.mono xW.size)
  have hu4 := (huW.below y4 (Nat.le_refl _)).more y4.size
  have hv4 := (hvW.below y4 (Nat.le_refl _)).more y4.size
  rw [HlX.out] at hc3 ⊢
  rw [HlY.out] at hc4 ⊢
  refine wpTz_on hK hb4 ?_
  clear hK K
  iterate 2 (first
    | (refine wpTz_skip (by rfl) ?_; simp only [Act.put, List.setIfInBounds_toArray, List.set_cons_zero, List.set_cons_succ])
    | (refine wpTz_q (v := ?_) (by rfl) (fun W hW => ?_) ?_
       rotate_left
       · (try dsimp only at hW); first | (go_simp; done) | (go_simp; with_reducible rfl)
       simp only [Act.put, List.setIfInBounds_toArray, List.set_cons_zero, List.set_cons_succ]))
  refine wpTz_done ?_
  clear hS3 hb3 hb4 y4 hrW huW hvW xW
  go_wp2_with fail
  have ec3 : ∀ W, Below w4.heap.size w4 W → (convert 28 9 (.slice A3 n c3)).run Try.prog W = .ok (.string (strOf X)) W := fun W hW => to_str (hr3.below hW (Nat.le_refl _)) n c3 HlX.out.symm _ rfl
  have ec4 : ∀ W, Below w4.heap.size w4 W → (convert 28 9 (.slice A4 n c4)).run Try.prog W = .ok (.string (strOf X)) W := fun W hW => by
    have h := (hr4.below hW (Nat.le_refl _)).cuth (hi := n) (by rw [HlY.out]; exact h4)
    rw [HXY.out] at h
    exact to_str h n c4 HlX.out.symm _ rfl
  have i1 : (0 : Int) ≤ n ∧ (n : Int) ≤ c4 := by omega
  refine wp_region_oy (.q 0 <| .q 1 <| .q 2 <| .q 3 <| .q 4 <| .q 5 <| .q 6 <| .q 7 <| .q 8 <| .q 9 <| .q 10 <| .q 11 <| .q 12 <| .q 13 <| .q 14 <| .q 15 <| .q 16 <| .q 17 <| .q 18 <| .done) (by kernel_rfl) (by kernel_rfl) (by kernel_rfl) ?_
  intro W5 hW5
  replace ec3 := fun W hW => ec3 W (hW5.trans (Below.mono hW hW5.size))
  replace ec4 := fun W hW => ec4 W (hW5.trans (Below.mono hW hW5.size))
  have x5 := x4.trans (hW5.mono x4.size)
  have hu5 := (hu4.below hW5 (Nat.le_refl _)).more hW5.size
  have hv5 := (hv4.below hW5 (Nat.le_refl _)).more hW5.size
  simp only [tw, List.getElem?_cons_succ, List.getElem?_cons_zero]
  iterate 19 (first
    | (refine wpTz_skip (by rfl) ?_; simp only [Act.put, List.setIfInBounds_toArray, List.set_cons_zero, List.set_cons_succ])
    | (refine wpTz_q (v := ?_) (by rfl) (fun W hW => ?_) ?_
       rotate_left
       · (try dsimp only at hW); first | (go_simp; done) | (go_simp; with_reducible rfl)
       simp only [Act.put, List.setIfInBounds_toArray, List.set_cons_zero, List.set_cons_succ]))
  refine wpTz_done ?_
  clear ec3 ec4 hr3 hr4 hW5 hu4 hv4 i1 x4 hc3 hc4 hm3 hm4 Hk1 Hk2 HXY
  obtain ⟨Ak, ck, ek, _, _, hrk⟩ := id hv5
  injection ek with ek1 _ ek2
  subst ek1 ek2
  obtain ⟨M, hM⟩ : ∃ z, z = mac key info := ⟨_, rfl⟩
  have lM : M.length = 32 := by rw [hM]; exact mac_length _ _
  have heq : ∀ W, (binOp .eql 25 (.agg (b8s M).toArray) (.agg (b8s M).toArray)).run Try.prog W = .ok (.bool true) W := fun W => by
    rw [eql25 W M M lM lM, beq_self_eq_true]
  have lS : (sha key).length = 32 := sha_length' key
  have eL := mac_long key info
  have eS := mac_short key info
  rw [← hM] at eL eS
  have HM := Lib.hid hM; clear hM
  have HlM := Lib.hid lM; clear lM
  have HlS := Lib.hid lS; clear lS
  have HeL := Lib.hid eL; clear eL
  have HeS := Lib.hid eS; clear eS
  go_upto_if 72 with (first
    | (refine lit8 rfl 0 [] rfl [] [] rfl rfl rfl (by decide) ?_; intro g6 w6 hg6 hg6' hO6 hb6
       have hr6 := hrk.below hb6 (Nat.le_refl _))
    | (at_builtin; refine app8 rfl (.tmp 65) (.tmp 66) rfl W5.heap.size _ [] rfl hO6 _ A2 _ _ key rfl hr6 rfl (by simp; omega) hb6.size ?_; intro v7 w7 hO7 hg7 hat7
       have y7 := hb6.grown hg7 hb6.size (fun x hx => (hO6.lt x hx).1)
       rw [List.nil_append] at hO7)
    | (refine mk81 rfl (.const (.int .u8 0)) rfl 0 0 rfl rfl ?_; intro g8 w8 hg8 hg8' hO8 hb8
       have y8 := y7.trans (hb8.mono y7.size)
       have hO7' := hO7.below hb8 (Nat.le_refl _))
    | (at_builtin; refine app8 rfl (.tmp 67) (.tmp 68) rfl W5.heap.size _ key rfl hO7' _ _ _ _ [0] rfl hO8.rd rfl (by simp; omega) y8.size ?_; intro v9 w9 hO9 hg9 hat9
       have y9 := y8.grown hg9 y8.size (fun x hx => (hO7'.lt x hx).1)))
  have hu9 := (hu5.below y9 (Nat.le_refl _)).more y9.size
  have hv9 := (hv5.below y9 (Nat.le_refl _)).more y9.size
  have x9 := x5.trans (y9.mono x5.size)
  clear hO6 hr6 hO7 hO7' hO8 hb6 hb8 y7 y8 hg7 hg9 hu5 hv5 hrk x5
  rcases (show 64 < key.length ∨ key.length = 64 ∨ key.length < 64 by omega) with hk | hk | hk
  · go_wp2_with (first
      | (refine mkL1 rfl (.tmp 73) rfl key hv9 ?_; intro g10 w10 hg10 hg10' hO10 hb10)
      | (go_at_call 33; refine (sum_of [key] key (List.append_nil _) _ _ _ _ _ hO10 hb10.size (Nat.le_of_ble_eq_true rfl) (by omega)).mono ?_; rintro e w11 ⟨rfl, hb11⟩
         have z11 := hb10.trans (hb11.mono hb10.size))
      | (refine alloc_abs rfl 25 rfl Z HzZ.out ?_; intro g12 w12 hg12 hg12' hr12 hb12
         rw [HZ.out] at hr12
         have z12 := z11.trans (hb12.mono z11.size))
      | (refine stB rfl 25 (.tmp 14) (.tmp 75) rfl g12 rfl (sha key) rfl _ hr12 32 info25 HlS.out (by simp) ?_; intro w13 hr13 hg13
         have z13 := z12.grown hg13 z12.size (fun x hx => by cases hx; exact Nat.le_trans z11.size hg12)
         have hu13 := (hu9.below z13 (Nat.le_refl _)).more z13.size
         have hv13 := (hv9.below z13 (Nat.le_refl _)).more z13.size)
      | (have _t := hu13
         refine mkL1 rfl (.tmp 81) rfl info hu13 ?_; intro g14 w14 hg14 hg14' hO14 hb14
         have hv14 := (hv13.below hb14 (Nat.le_refl _)).more hb14.size
         clear hv13)
      | (go_at_call 46; refine callsOf (args' := #[.slice A2 key.length c2, .slice (some ⟨g14, 0, none⟩) 1 1]) (by with_reducible rfl) ?_; refine (mac_of _ key [info] info (List.append_nil _) _ _ _ _ _ hv14 hO14 hb14.size (by omega) (Nat.le_of_ble_eq_true rfl) (by omega)).mono ?_; rintro e w15 ⟨rfl, hb15⟩
         rw [← HM.out]
         have z15 := hb14.trans (hb15.mono hb14.size)
         have hu15 := (hu13.below z15 (Nat.le_refl _)).more z15.size
         have hr15 := Blk.call hr13 z15)
      | (refine mkL1 rfl (.tmp 85) rfl info hu15 ?_; intro g16 w16 hg16 hg16' hO16 hb16
         have hs16 : Sl w16 w16.heap.size (.slice (some ⟨g12, 0, none⟩) 32 32) (sha key) := Sl.mk (BlB.all (Blk.call hr15 hb16)) HlS.out.symm (by rw [HlS.out]; omega) (by unfold maxLen; omega))
      | (go_at_call 46; refine callsOf (args' := #[.slice (some ⟨g12, 0, none⟩) 32 32, .slice (some ⟨g16, 0, none⟩) 1 1]) (by with_reducible rfl) ?_; refine (mac_of _ (sha key) [info] info (List.append_nil _) _ _ _ _ _ hs16 hO16 hb16.size (by rw [HlS.out]; omega) (Nat.le_of_ble_eq_true rfl) (by omega)).mono ?_; rintro e w17 ⟨rfl, hb17⟩
         rw [HeL.out hk]
         have z17 := z15.trans ((hb16.trans (hb17.mono hb16.size)).mono z15.size)))
    go_ret
    exact ⟨rfl, x9.trans ((z13.trans (z17.mono z13.size)).mono x9.size)⟩
  · go_wp2
    go_ret
    exact ⟨rfl, x9⟩
  · go_wp2_with (first
      | (have _t := hu9
         refine mkL1 rfl (.tmp 81) rfl info hu9 ?_; intro g14 w14 hg14 hg14' hO14 hb14
         have hv14 := (hv9.below hb14 (Nat.le_refl _)).more hb14.size
         clear hv9)
      | (go_at_call 46; refine callsOf (args' := #[.slice A2 key.length c2, .slice (some ⟨g14, 0, none⟩) 1 1]) (by with_reducible rfl) ?_; refine (mac_of _ key [info] info (List.append_nil _) _ _ _ _ _ hv14 hO14 hb14.size (by omega) (Nat.le_of_ble_eq_true rfl) (by omega)).mono ?_; rintro e w15 ⟨rfl, hb15⟩
         rw [← HM.out]
         have z15 := hb14.trans (hb15.mono hb14.size)
         have hu15 := (hu9.below z15 (Nat.le_refl _)).more z15.size
         have hO15 := hO9.below z15 (Nat.le_refl _))
      | (refine mkL1 rfl (.tmp 85) rfl info hu15 ?_; intro g16 w16 hg16 hg16' hO16 hb16
         have hs16 := (hO15.below hb16 (Nat.le_refl _)).sl)
      | (go_at_call 46; refine (mac_of _ (key ++ [0]) [info] info (List.append_nil _) _ _ _ _ _ hs16 hO16 hb16.size (by simp; omega) (Nat.le_of_ble_eq_true rfl) (by omega)).mono ?_; rintro e w17 ⟨rfl, hb17⟩
         rw [HeS.out hk]
         have z17 := z15.trans ((hb16.trans (hb17.mono hb16.size)).mono z15.size)))
    go_ret
    exact ⟨rfl, x9.trans (z17.mono x9.size)⟩

theorem kdffirst_any (sec info key : List UInt8) (u v : Value) (n m : Int) (w : World) (hs : sec.length = 32) (hu : Sl w w.heap.size u info) (hv : Sl w w.heap.size v key) :
    Calls Try.prog 8 #[.agg (b8s sec).toArray, u, v, .int .i64 n, .int .i64 m] w fun e w' => e = .returned (.bool true) ∧ Below w.heap.size w w' := by
  by_cases h : 500 < info.length ∨ 500 < key.length ∨ n < 1 ∨ m < n ∨ 300 < m
  · exact first_law_out sec info key u v n m w hu hv h
  · obtain ⟨a, rfl⟩ := Int.eq_ofNat_of_zero_le (show 0 ≤ n by omega)
    obtain ⟨b, rfl⟩ := Int.eq_ofNat_of_zero_le (show 0 ≤ m by omega)
    exact first_law_in sec info key u v a b w hs hu hv (by omega) (by omega) (by omega) (by omega) (by omega)
end Go.Proofs.Ytillnpllcfleeaa
