/- Law 10, KeyMakes: the walk. -/
import Derived.Test.YtillnpllcfleeaaKey6
namespace Go.Proofs.Ytillnpllcfleeaa
open Go Go.RowKit

theorem eql66 (w : World) (xs : List UInt8) (hx : xs.length = 16) : (binOp .eql 66 (.agg (b8s xs).toArray) (.agg (b8s xs).toArray)).run Try.prog w = .ok (.bool true) w := by
  have := run_eql_bytes w 66 5 16 Try.underlying66 Try.underlying5 size5 xs xs hx hx
  rw [beq_self_eq_true] at this
  exact this

set_option maxRecDepth 100000 in
set_option maxHeartbeats 8000000 in
theorem makes_any (s : List UInt8) (u : Value) (cid : List UInt8) (ph : UInt64) (w : World) (hs : s.length = 32) (hu : Sl w w.heap.size u cid) :
    Calls Try.prog 11 #[.agg (b8s s).toArray, u, .int .u64 (u64v ph)] w fun e w' => e = .returned (.bool true) ∧ Below w.heap.size w w' := by
  have hu0 := hu
  obtain ⟨A, c, rfl, hc, hm, hr⟩ := hu
  unfold maxLen at hm
  by_cases c1 : 300 < cid.length
  · go_enter Try.func11, Try.ntmps11
    go_wp2_with (first
      | (refine box_abs rfl 25 (.tmp 0) rfl (b8s s).toArray rfl ?_; intro g1 w1 hg1 hg1' hr1 hb1)
      | (go_at_call 52; refine (known10 _).mono ?_; rintro e w2 ⟨rfl, hb2⟩))
    go_ret
    exact ⟨rfl, hb1.trans (hb2.mono hb1.size)⟩
  · obtain ⟨Z, hZ⟩ : ∃ z, z = (KS.cells ⟨List.replicate 32 0, List.replicate 16 0, List.replicate 12 0, List.replicate 16 0, 0⟩).toArray := ⟨_, rfl⟩
    have hz := zero54
    rw [← hZ] at hz
    have lz : (KS.cells ⟨List.replicate 32 0, List.replicate 16 0, List.replicate 12 0, List.replicate 16 0, 0⟩).length = 77 := KS.cells_length _ ⟨by simp, by simp, by simp, by simp⟩
    obtain ⟨Z0, hZ0⟩ : ∃ z, z = (KS.cells ⟨List.replicate 32 0, List.replicate 16 0, List.replicate 12 0, List.replicate 16 0, 0⟩) := ⟨_, rfl⟩
    rw [← hZ0] at lz hZ
    have k1 := fun W => of_keys s W hs
    have k1' := fun W => refof_keys s W hs
    obtain ⟨K, hK⟩ : ∃ z, z = keysOf s := ⟨_, rfl⟩
    have oK : K.Ok := by rw [hK]; exact keysOf_ok s hs
    rw [← hK] at k1 k1'
    have oO : ({ K with ph := ph } : KS).Ok := ⟨oK.sec, oK.key, oK.iv, oK.hp⟩
    have e1 := K.set_ph oK ph
    obtain ⟨O, hO⟩ : ∃ z, z = ({ K with ph := ph } : KS) := ⟨_, rfl⟩
    rw [← hO] at e1 oO
    have k2 := fun W => next_keys O W oO
    have k2' := fun W => refnext_keys O W oO
    obtain ⟨N, hN⟩ : ∃ z, z = keysNext O := ⟨_, rfl⟩
    have oN : N.Ok := by rw [hN]; exact keysNext_ok O oO
    rw [← hN] at k2 k2'
    have hn : cid.length ≤ 549755813888 := by omega
    have k3 := fun (u : Value) (W : World) (h : Sl W W.heap.size u cid) => initial_keys u cid W h hn
    have k4 := fun (u : Value) (W : World) (h : Sl W W.heap.size u cid) => refinit_client u cid W h hn
    have k5 := fun (u : Value) (W : World) (h : Sl W W.heap.size u cid) => refinit_server u cid W h hn
    have k6 := fun (u : Value) (W : World) (h : Sl W W.heap.size u cid) => token_any s u cid W hs h hn
    have k6' := fun (u : Value) (W : World) (h : Sl W W.heap.size u cid) => reftoken_any s u cid W hs h hn
    have oC := firstClient_ok cid
    have oD := firstServer_ok cid
    obtain ⟨C, hC⟩ : ∃ z, z = firstClient cid := ⟨_, rfl⟩
    obtain ⟨D, hD⟩ : ∃ z, z = firstServer cid := ⟨_, rfl⟩
    obtain ⟨T, hT⟩ : ∃ z, z = resetTok s cid := ⟨_, rfl⟩
    have lT : T.length = 16 := by rw [hT]; exact take16 _ (by rw [mac_length]; decide)
    rw [← hC] at k3 k4 oC
    rw [← hD] at k3 k5 oD
    rw [← hT] at k6 k6'
    have lK := K.cells_length oK
    have lO := O.cells_length oO
    have lC := C.cells_length oC
    have lD := D.cells_length oD
    have q1 := eql54 K oK
    have q2 := eql54 N oN
    have q3 := eql54 C oC
    have q4 := eql54 D oD
    have q5 := fun W => eql66 W T lT
    have HZ := Lib.hid hZ; clear hZ
    have Hz := Lib.hid hz; clear hz
    have HZ0 := Lib.hid hZ0; clear hZ0
    have Hlz := Lib.hid lz; clear lz
    have Hk1 := Lib.hid k1; clear k1
    have Hk1' := Lib.hid k1'; clear k1'
    have HK := Lib.hid hK; clear hK
    have He1 := Lib.hid e1; clear e1
    have HO := Lib.hid hO; clear hO
    have Hk2 := Lib.hid k2; clear k2
    have Hk2' := Lib.hid k2'; clear k2'
    have HN := Lib.hid hN; clear hN
    have Hk3 := Lib.hid k3; clear k3
    have Hk4 := Lib.hid k4; clear k4
    have Hk5 := Lib.hid k5; clear k5
    have Hk6 := Lib.hid k6; clear k6
    have Hk6' := Lib.hid k6'; clear k6'
    have HC := Lib.hid hC; clear hC
    have HD := Lib.hid hD; clear hD
    have HT := Lib.hid hT; clear hT
    have HlT := Lib.hid lT; clear lT
    have HlK := Lib.hid lK; clear lK
    have HlO := Lib.hid lO; clear lO
    have HlC := Lib.hid lC; clear lC
    have HlD := Lib.hid lD; clear lD
    have Hs := Lib.hid hs; clear hs
    go_enter Try.func11, Try.ntmps11
    go_upto_region 8 with (first
      | (refine box_abs rfl 25 (.tmp 0) rfl (b8s s).toArray rfl ?_; intro g1 w1 hg1 hg1' hr1 hb1)
      | (go_at_call 52; refine (known10 _).mono ?_; rintro e w2 ⟨rfl, hb2⟩
         have x2 := hb1.trans (hb2.mono hb1.size)
         have ha2 := Blk.call hr1 hb2)
      | (refine ldB rfl 25 (.tmp 3) rfl g1 rfl s ha2 32 Try.underlying25 info25 Hs.out ?_)
      | (go_at_call 55; refine (Hk1.out _).mono ?_; rintro e w3 ⟨rfl, hb3⟩
         have y3 := hb3)
      | (refine allocAt 7 rfl rfl 54 rfl Z Hz.out ?_; intro g4 w4 hg4 hg4' hr4 hb4
         rw [HZ.out] at hr4
         have y4 := y3.trans (hb4.mono y3.size))
      | (refine stW rfl 54 (.tmp 7) (.tmp 17) rfl g4 rfl K.cells rfl _ hr4 77 info54 HlK.out Hlz.out (KS.cells_one _) ?_; intro w5 hr5 hg5
         have y5 := y4.grown hg5 y4.size (fun x hx => by cases hx; exact Nat.le_trans y3.size hg4)
         have qa := Lib.hid (BlV.rangeOf hr5 0 K.cells (by rw [List.drop_zero, List.take_of_length_le (Nat.le_refl _)])))
      | (refine ldV rfl 54 (.tmp 7) rfl g4 0 rfl K.cells qa.out _ rfl Try.underlying54 77 info54 HlK.out ?_)
      | (refine allocAt 8 rfl rfl 54 rfl Z Hz.out ?_; intro g6 w6 hg6 hg6' hr6 hb6
         rw [HZ.out] at hr6
         have y6 := y5.trans (hb6.mono y5.size)
         have hr5' : BlV w6 g4 54 K.cells := Blk.call hr5 hb6
         have n46 : g4 ≠ g6 := by have := hr5.lt; omega)
      | (refine stW rfl 54 (.tmp 8) (.tmp 18) rfl g6 rfl K.cells rfl _ hr6 77 info54 HlK.out Hlz.out (KS.cells_one _) ?_; intro w7 hr7 hg7
         have y7 := y6.grown hg7 y6.size (fun x hx => by cases hx; exact Nat.le_trans y5.size hg6)
         have hr7' : BlV w7 g4 54 K.cells := Blk.grown hr5' hg7 (fun e => by cases e; exact n46 rfl)
         have f7 := Blk.frozen hr7 76
         have c7 := BlV.at hr7 76
         rw [KS.at_ph _ oK] at c7
         have hset := BlV.set hr7 76 (.int .u64 (u64v ph))
         rw [He1.out] at hset
         have Hset := Lib.hid hset; clear hset))
    have hr8' : BlV (w7.setCell ⟨g6, 76, none⟩ (.int .u64 (u64v ph))) g4 54 K.cells := Blk.far hr7' n46 _
    have y8 := y7.setCell (p := ⟨g6, 76, none⟩) (Nat.le_trans y5.size hg6) (.int .u64 (u64v ph))
    have hr8 := Hset.out
    generalize (w7.setCell ⟨g6, 76, none⟩ (.int .u64 (u64v ph))) = w8 at *
    have ha8 := Blk.call ha2 y8
    have x8 := x2.trans (y8.mono x2.size)
    have hu8 := (hu0.below x8 (Nat.le_refl _)).more x8.size
    clear Hset f7 c7 y7 y6 y5 y4 y3 hr7 hr7' hr5' hr6 hg7 hg5 hb6 hr5 qa hr4 hb3 hb4 hb1 hb2 hr1 ha2 x2 hg6' hg4' y8
    go_wp2_with (first
      | (go_at_call 56; refine (Hk3.out _ _ hu8).mono ?_; rintro e w9 ⟨rfl, hb9⟩)
      | (refine allocAt 9 rfl rfl 54 rfl Z Hz.out ?_; intro g10 w10 hg10 hg10' hr10 hb10
         rw [HZ.out] at hr10
         have y10 := hb9.trans (hb10.mono hb9.size))
      | (refine allocAt 10 rfl rfl 54 rfl Z Hz.out ?_; intro g11 w11 hg11 hg11' hr11 hb11
         rw [HZ.out] at hr11
         have hr10' := Blk.call hr10 hb11
         have n1011 : g10 ≠ g11 := by omega
         have y11 := y10.trans (hb11.mono y10.size))
      | (refine stW rfl 54 (.tmp 9) (.tmp 24) rfl g10 rfl C.cells rfl _ hr10' 77 info54 HlC.out Hlz.out (KS.cells_one _) ?_; intro w12 hr12 hg12
         have hr11' := Blk.grown hr11 hg12 (fun e => by cases e; exact n1011 rfl)
         have y12 := y11.grown hg12 y11.size (fun x hx => by cases hx; exact Nat.le_trans hb9.size hg10))
      | (refine stW rfl 54 (.tmp 10) (.tmp 25) rfl g11 rfl D.cells rfl _ hr11' 77 info54 HlD.out Hlz.out (KS.cells_one _) ?_; intro w13 hr13 hg13
         have hr12' : BlV w13 g10 54 C.cells := Blk.grown hr12 hg13 (fun e => by cases e; exact n1011 rfl)
         have y13 := y12.grown hg13 y12.size (fun x hx => by cases hx; exact Nat.le_trans y10.size hg11)))
    have x13 := x8.trans (y13.mono x8.size)
    have hA := Blk.call ha8 y13
    have hB : BlV w13 g4 54 K.cells := Blk.call hr8' y13
    have hO13 : BlV w13 g6 54 O.cells := Blk.call hr8 y13
    have hu13 := (hu8.below y13 (Nat.le_refl _)).more y13.size
    clear ha8 hr8 hr8' hu8 hr10 hr10' hr11 hr11' hr12 hg12 hg13 hb9 hb10 hb11 y10 y11 y12 y13 x8
    have Rg1 : ∀ W, Below w13.heap.size w13 W → W.rangeAt g1 0 (b8s s) := fun W h => BlB.rng (Blk.call hA h)
    have Rg4 : ∀ W, Below w13.heap.size w13 W → W.rangeAt g4 0 K.cells := fun W h => BlV.rangeOf (Blk.call hB h) 0 K.cells (by rw [List.drop_zero, List.take_of_length_le (Nat.le_refl _)])
    have Rg6 : ∀ W, Below w13.heap.size w13 W → W.rangeAt g6 0 O.cells := fun W h => BlV.rangeOf (Blk.call hO13 h) 0 O.cells (by rw [List.drop_zero, List.take_of_length_le (Nat.le_refl _)])
    have Rg10 : ∀ W, Below w13.heap.size w13 W → W.rangeAt g10 0 C.cells := fun W h => BlV.rangeOf (Blk.call hr12' h) 0 C.cells (by rw [List.drop_zero, List.take_of_length_le (Nat.le_refl _)])
    have Rg11 : ∀ W, Below w13.heap.size w13 W → W.rangeAt g11 0 D.cells := fun W h => BlV.rangeOf (Blk.call hr13 h) 0 D.cells (by rw [List.drop_zero, List.take_of_length_le (Nat.le_refl _)])
    refine wp_region_oy (.q 0 <| .q 1 <| .b 2 (.q 3 <| .q 4 <| .q 5 <| .q 7 <| .b 6 (.b 8 (.q 9 <| .q 10 <| .q 11 <| .q 12 <| .q 13 <| .b 14 (.q 15 <| .q 16 <| .q 17 <| .q 18 <| .q 19 <| .b 20 (.q 21 <| .q 22 <| .q 23 <| .q 24 <| .q 25 <| .q 27 <| .q 28 <| .b 26 (.b 29 (.q 30 <| .q 31 <| .q 32 <| .done) <| .e) <| .e) <| .e) <| .e) <| .e) <| .e) <| .e) (by kernel_rfl) (by kernel_rfl) (by kernel_rfl) ?_
    intro W0 z0
    simp only [tw, List.getElem?_cons_succ, List.getElem?_cons_zero]
    iterate 2 (first
      | (refine wpTz_skip (by rfl) ?_; simp only [Act.put, List.setIfInBounds_toArray, List.set_cons_zero, List.set_cons_succ])
      | (refine wpTz_load 54 (.tmp 7) rfl g4 0 rfl K.cells _ (by rfl) (fun W hS => Rg4 W (z0.trans (Below.mono hS z0.size))) Try.underlying54 rfl (info54.trans (congrArg some HlK.out.symm)) ?_; simp only [Act.put, List.setIfInBounds_toArray, List.set_cons_zero, List.set_cons_succ])
      | (refine wpTz_load 25 (.tmp 3) rfl g1 0 rfl (b8s s) _ (by rfl) (fun W hS => Rg1 W (z0.trans (Below.mono hS z0.size))) Try.underlying25 rfl (info25.trans (congrArg some (by rw [b8s_length, Hs.out]))) ?_; simp only [Act.put, List.setIfInBounds_toArray, List.set_cons_zero, List.set_cons_succ])
      | (refine wpTz_q (v := ?_) (by rfl) (fun W hW => ?_) ?_
         rotate_left
         · (try dsimp only at hW); first | (go_simp; done) | (go_simp; with_reducible rfl)
         simp only [Act.put, List.setIfInBounds_toArray, List.set_cons_zero, List.set_cons_succ]))
    refine wpTz_b (fun KK hKK => ?_) wpTz_e
    go_wp2_with (go_at_call 57; refine (Hk1'.out _).mono ?_; rintro e w14 ⟨rfl, hb14⟩)
    have z1 := z0.trans (hb14.mono z0.size)
    refine wpTz_on hKK hb14 ?_
    clear hKK KK
    iterate 4 (first
      | (refine wpTz_skip (by rfl) ?_; simp only [Act.put, List.setIfInBounds_toArray, List.set_cons_zero, List.set_cons_succ])
      | (refine wpTz_load 54 (.tmp 8) rfl g6 0 rfl O.cells _ (by rfl) (fun W hS => Rg6 W (z1.trans (Below.mono hS z1.size))) Try.underlying54 rfl (info54.trans (congrArg some HlO.out.symm)) ?_; simp only [Act.put, List.setIfInBounds_toArray, List.set_cons_zero, List.set_cons_succ])
      | (refine wpTz_q (v := ?_) (by rfl) (fun W hW => ?_) ?_
         rotate_left
         · (try dsimp only at hW); first | (go_simp; done) | (go_simp; with_reducible rfl)
         simp only [Act.put, List.setIfInBounds_toArray, List.set_cons_zero, List.set_cons_succ]))
    refine wpTz_b (fun KK hKK => ?_) wpTz_e
    go_wp2_with (go_at_call 58; refine (Hk2.out _).mono ?_; rintro e w15 ⟨rfl, hb15⟩)
    have z2 := z1.trans (hb15.mono z1.size)
    refine wpTz_on hKK hb15 ?_
    clear hKK KK
    refine wpTz_b (fun KK hKK => ?_) wpTz_e
    go_wp2_with (go_at_call 59; refine (Hk2'.out _).mono ?_; rintro e w16 ⟨rfl, hb16⟩)
    have z3 := z2.trans (hb16.mono z2.size)
    refine wpTz_on hKK hb16 ?_
    clear hKK KK
    iterate 5 (first
      | (refine wpTz_skip (by rfl) ?_; simp only [Act.put, List.setIfInBounds_toArray, List.set_cons_zero, List.set_cons_succ])
      | (refine wpTz_load 54 (.tmp 9) rfl g10 0 rfl C.cells _ (by rfl) (fun W hS => Rg10 W (z3.trans (Below.mono hS z3.size))) Try.underlying54 rfl (info54.trans (congrArg some HlC.out.symm)) ?_; simp only [Act.put, List.setIfInBounds_toArray, List.set_cons_zero, List.set_cons_succ])
      | (refine wpTz_q (v := ?_) (by rfl) (fun W hW => ?_) ?_
         rotate_left
         · (try dsimp only at hW); first | (go_simp; done) | (go_simp; with_reducible rfl)
         simp only [Act.put, List.setIfInBounds_toArray, List.set_cons_zero, List.set_cons_succ]))
    refine wpTz_b (fun KK hKK => ?_) wpTz_e
    go_wp2_with (go_at_call 60; refine (Hk4.out _ _ ((hu13.below z3 (Nat.le_refl _)).more z3.size)).mono ?_; rintro e w17 ⟨rfl, hb17⟩)
    have z4 := z3.trans (hb17.mono z3.size)
    refine wpTz_on hKK hb17 ?_
    clear hKK KK
    iterate 5 (first
      | (refine wpTz_skip (by rfl) ?_; simp only [Act.put, List.setIfInBounds_toArray, List.set_cons_zero, List.set_cons_succ])
      | (refine wpTz_load 54 (.tmp 10) rfl g11 0 rfl D.cells _ (by rfl) (fun W hS => Rg11 W (z4.trans (Below.mono hS z4.size))) Try.underlying54 rfl (info54.trans (congrArg some HlD.out.symm)) ?_; simp only [Act.put, List.setIfInBounds_toArray, List.set_cons_zero, List.set_cons_succ])
      | (refine wpTz_q (v := ?_) (by rfl) (fun W hW => ?_) ?_
         rotate_left
         · (try dsimp only at hW); first | (go_simp; done) | (go_simp; with_reducible rfl)
         simp only [Act.put, List.setIfInBounds_toArray, List.set_cons_zero, List.set_cons_succ]))
    refine wpTz_b (fun KK hKK => ?_) wpTz_e
    go_wp2_with (go_at_call 60; refine (Hk5.out _ _ ((hu13.below z4 (Nat.le_refl _)).more z4.size)).mono ?_; rintro e w18 ⟨rfl, hb18⟩)
    have z5 := z4.trans (hb18.mono z4.size)
    refine wpTz_on hKK hb18 ?_
    clear hKK KK
    iterate 7 (first
      | (refine wpTz_skip (by rfl) ?_; simp only [Act.put, List.setIfInBounds_toArray, List.set_cons_zero, List.set_cons_succ])
      | (refine wpTz_load 25 (.tmp 3) rfl g1 0 rfl (b8s s) _ (by rfl) (fun W hS => Rg1 W (z5.trans (Below.mono hS z5.size))) Try.underlying25 rfl (info25.trans (congrArg some (by rw [b8s_length, Hs.out]))) ?_; simp only [Act.put, List.setIfInBounds_toArray, List.set_cons_zero, List.set_cons_succ])
      | (refine wpTz_q (v := ?_) (by rfl) (fun W hW => ?_) ?_
         rotate_left
         · (try dsimp only at hW); first | (go_simp; done) | (go_simp; with_reducible rfl)
         simp only [Act.put, List.setIfInBounds_toArray, List.set_cons_zero, List.set_cons_succ]))
    refine wpTz_b (fun KK hKK => ?_) wpTz_e
    go_wp2_with (go_at_call 61; refine (Hk6.out _ _ ((hu13.below z5 (Nat.le_refl _)).more z5.size)).mono ?_; rintro e w19 ⟨rfl, hb19⟩)
    have z6 := z5.trans (hb19.mono z5.size)
    refine wpTz_on hKK hb19 ?_
    clear hKK KK
    refine wpTz_b (fun KK hKK => ?_) wpTz_e
    go_wp2_with (go_at_call 62; refine (Hk6'.out _ _ ((hu13.below z6 (Nat.le_refl _)).more z6.size)).mono ?_; rintro e w20 ⟨rfl, hb20⟩)
    have z7 := z6.trans (hb20.mono z6.size)
    refine wpTz_on hKK hb20 ?_
    clear hKK KK
    iterate 3 (first
      | (refine wpTz_skip (by rfl) ?_; simp only [Act.put, List.setIfInBounds_toArray, List.set_cons_zero, List.set_cons_succ])
      | (refine wpTz_q (v := ?_) (by rfl) (fun W hW => ?_) ?_
         rotate_left
         · (try dsimp only at hW); first | (go_simp; done) | (go_simp; with_reducible rfl)
         simp only [Act.put, List.setIfInBounds_toArray, List.set_cons_zero, List.set_cons_succ]))
    refine wpTz_done ?_
    go_wp2
    go_ret
    exact ⟨rfl, x13.trans (z7.mono x13.size)⟩
end Go.Proofs.Ytillnpllcfleeaa
