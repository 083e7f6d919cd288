/- Law 07, KdfExpands: the walk. -/
import Derived.Test.YtillnpllcfleeaaKdf8
import Derived.Test.YtillnpllcfleeaaOrd4
namespace Go.Proofs.Ytillnpllcfleeaa
open Go Go.RowKit

/-- a whole array out of its block, in a drawn region -/
theorem to_strW {w : World} {v : Value} {bs : List UInt8} (h : Sl w w.heap.size v bs) (W : World) (hb : Below w.heap.size w W) : (convert 28 9 v).run Try.prog W = .ok (.string (strOf bs)) W := by
  obtain ⟨A, c, rfl, _, _, hr⟩ := h
  exact run_to_string (hr.below hb (Nat.le_refl _)) c
theorem str_beq (l : List UInt8) : (binOp .eql 9 (.string (strOf l)) (.string (strOf l))).run Try.prog = fun W => .ok (.bool true) W := by
  funext W
  simp [go_sem]

/-- what the two sides give alike: one value, two contracts -/
def expandG (sec info : List UInt8) (n : Int) : List UInt8 := if n < 1 ∨ 8160 < n then [] else expand sec info n.toNat
theorem expand_g (sec info : List UInt8) (u : Value) (n : Int) (w : World) (hs : sec.length = 32) (hu : Sl w w.heap.size u info) (hi : info.length ≤ 274877906944) :
    Calls Try.prog 48 #[.agg (b8s sec).toArray, u, .int .i64 n] w fun e w' => ∃ v, e = .returned v ∧ Own w' w.heap.size v (expandG sec info n) ∧ Below w.heap.size w w' := by
  unfold expandG
  split
  · exact (expand_no sec u n w (by assumption)).mono fun e w' ⟨he, hb⟩ => ⟨_, he, Own.nil _ _, hb⟩
  · obtain ⟨m, rfl⟩ := Int.eq_ofNat_of_zero_le (show 0 ≤ n by omega)
    exact expand_yes sec info u m w hs hu hi (by omega) (by omega)
theorem refexpand_g (sec info : List UInt8) (u : Value) (n : Int) (w : World) (hs : sec.length = 32) (hu : Sl w w.heap.size u info) (hi : info.length ≤ 274877906944) :
    Calls Try.prog 49 #[.agg (b8s sec).toArray, u, .int .i64 n] w fun e w' => ∃ v, e = .returned v ∧ Own w' w.heap.size v (expandG sec info n) ∧ Below w.heap.size w w' := by
  unfold expandG
  split
  · exact (refexpand_no sec u n w (by assumption)).mono fun e w' ⟨he, hb⟩ => ⟨_, he, Own.nil _ _, hb⟩
  · obtain ⟨m, rfl⟩ := Int.eq_ofNat_of_zero_le (show 0 ≤ n by omega)
    exact refexpand_yes sec info u m w hs hu hi (by omega) (by omega)
def labelG (sec lab ctx : List UInt8) (n : Int) : List UInt8 := if n < 1 ∨ 8160 < n ∨ 249 < lab.length ∨ 255 < ctx.length then [] else labelOut sec lab ctx n.toNat
theorem label_g (sec lab ctx : List UInt8) (u : Value) (n : Int) (w : World) (hs : sec.length = 32) (hu : Sl w w.heap.size u ctx) :
    Calls Try.prog 50 #[.agg (b8s sec).toArray, .string (strOf lab), u, .int .i64 n] w fun e w' => ∃ v, e = .returned v ∧ Own w' w.heap.size v (labelG sec lab ctx n) ∧ Below w.heap.size w w' := by
  unfold labelG
  split
  · obtain ⟨A, c, rfl, _, _, _⟩ := hu
    exact (label_no sec lab A ctx.length c n w (by assumption)).mono fun e w' ⟨he, hb⟩ => ⟨_, he, Own.nil _ _, hb⟩
  · obtain ⟨m, rfl⟩ := Int.eq_ofNat_of_zero_le (show 0 ≤ n by omega)
    exact label_yes sec lab ctx u m w hs (by omega) hu (by omega) (by omega) (by omega)
theorem reflabel_g (sec lab ctx : List UInt8) (u : Value) (n : Int) (w : World) (hs : sec.length = 32) (hu : Sl w w.heap.size u ctx) :
    Calls Try.prog 51 #[.agg (b8s sec).toArray, .string (strOf lab), u, .int .i64 n] w fun e w' => ∃ v, e = .returned v ∧ Own w' w.heap.size v (labelG sec lab ctx n) ∧ Below w.heap.size w w' := by
  unfold labelG
  split
  · obtain ⟨A, c, rfl, _, _, _⟩ := hu
    exact (reflabel_no sec lab A ctx.length c n w (by assumption)).mono fun e w' ⟨he, hb⟩ => ⟨_, he, Own.nil _ _, hb⟩
  · obtain ⟨m, rfl⟩ := Int.eq_ofNat_of_zero_le (show 0 ≤ n by omega)
    exact reflabel_yes sec lab ctx u m w hs (by omega) hu (by omega) (by omega) (by omega)

set_option maxRecDepth 100000 in
set_option maxHeartbeats 4000000 in
theorem expands_any (sec info lab : List UInt8) (u : Value) (n : Int) (w : World) (hs : sec.length = 32) (hu : Sl w w.heap.size u info) :
    Calls Try.prog 9 #[.agg (b8s sec).toArray, u, .string (strOf lab), .int .i64 n] w fun e w' => e = .returned (.bool true) ∧ Below w.heap.size w w' := by
  have hu0 := hu
  obtain ⟨A, c, rfl, hc, hm, hr⟩ := hu
  unfold maxLen at hm
  have hz := strOf_len lab
  obtain ⟨S, hS⟩ : ∃ z, z = strOf lab := ⟨_, rfl⟩
  rw [← hS] at hz ⊢
  have Hs := Lib.hid hs; clear hs
  have Hz := Lib.hid hz; clear hz
  by_cases c1 : 1000 < info.length
  · clear hS
    go_enter Try.func9, Try.ntmps9
    go_wp2_with (first
      | (refine box_abs rfl 25 (.tmp 0) rfl (b8s sec).toArray rfl ?_; intro g1 w1 hg1 hg1' hr1 hb1)
      | (go_at_call 44; refine (known07 _).mono ?_; rintro e w2 ⟨rfl, hb2⟩))
    go_ret
    exact ⟨rfl, hb1.trans (hb2.mono hb1.size)⟩
  · by_cases c2 : 1000 < S.size
    · clear hS
      go_enter Try.func9, Try.ntmps9
      go_wp2_with (first
        | (refine box_abs rfl 25 (.tmp 0) rfl (b8s sec).toArray rfl ?_; intro g1 w1 hg1 hg1' hr1 hb1)
        | (go_at_call 44; refine (known07 _).mono ?_; rintro e w2 ⟨rfl, hb2⟩))
      go_ret
      exact ⟨rfl, hb1.trans (hb2.mono hb1.size)⟩
    · by_cases c3 : 600 < n ∧ n ≤ 8160
      · obtain ⟨c4, c5⟩ := c3
        clear hS
        go_enter Try.func9, Try.ntmps9
        go_wp2_with (first
          | (refine box_abs rfl 25 (.tmp 0) rfl (b8s sec).toArray rfl ?_; intro g1 w1 hg1 hg1' hr1 hb1)
          | (go_at_call 44; refine (known07 _).mono ?_; rintro e w2 ⟨rfl, hb2⟩))
        go_ret
        exact ⟨rfl, hb1.trans (hb2.mono hb1.size)⟩
      · have c6 : n ≤ 600 ∨ (600 < n ∧ 8160 < n) := by omega
        clear c3
        obtain ⟨X, hX⟩ : ∃ z, z = expandG sec info n := ⟨_, rfl⟩
        obtain ⟨Y, hY⟩ : ∃ z, z = labelG sec lab info n := ⟨_, rfl⟩
        have k1 : ∀ W (u : Value), Sl W W.heap.size u info → Calls Try.prog 48 #[.agg (b8s sec).toArray, u, .int .i64 n] W fun e w' => ∃ v, e = .returned v ∧ Own w' W.heap.size v X ∧ Below W.heap.size W w' := fun W u h => by
          rw [hX]; exact expand_g sec info u n W Hs.out h (by omega)
        have k2 : ∀ W (u : Value), Sl W W.heap.size u info → Calls Try.prog 49 #[.agg (b8s sec).toArray, u, .int .i64 n] W fun e w' => ∃ v, e = .returned v ∧ Own w' W.heap.size v X ∧ Below W.heap.size W w' := fun W u h => by
          rw [hX]; exact refexpand_g sec info u n W Hs.out h (by omega)
        have k3 : ∀ W (u : Value), Sl W W.heap.size u info → Calls Try.prog 50 #[.agg (b8s sec).toArray, .string S, u, .int .i64 n] W fun e w' => ∃ v, e = .returned v ∧ Own w' W.heap.size v Y ∧ Below W.heap.size W w' := fun W u h => by
          rw [hY, hS]; exact label_g sec lab info u n W Hs.out h
        have k4 : ∀ W (u : Value), Sl W W.heap.size u info → Calls Try.prog 51 #[.agg (b8s sec).toArray, .string S, u, .int .i64 n] W fun e w' => ∃ v, e = .returned v ∧ Own w' W.heap.size v Y ∧ Below W.heap.size W w' := fun W u h => by
          rw [hY, hS]; exact reflabel_g sec lab info u n W Hs.out h
        have Hk1 := Lib.hid k1; clear k1
        have Hk2 := Lib.hid k2; clear k2
        have Hk3 := Lib.hid k3; clear k3
        have Hk4 := Lib.hid k4; clear k4
        have HX := Lib.hid hX; clear hX
        have HY := Lib.hid hY; clear hY
        have HS := Lib.hid hS; clear hS
        rcases c6 with c4 | ⟨c4, c5⟩
        all_goals
          go_enter Try.func9, Try.ntmps9
          go_wp2_with (first
            | (refine box_abs rfl 25 (.tmp 0) rfl (b8s sec).toArray rfl ?_; intro g1 w1 hg1 hg1' hr1 hb1)
            | (go_at_call 44; refine (known07 _).mono ?_; rintro e w2 ⟨rfl, hb2⟩
               have x2 := hb1.trans (hb2.mono hb1.size)))
          refine wp_region_oy (.q 0 <| .q 1 <| .q 2 <| .q 5 <| .q 6 <| .q 7 <| .b 3 (.q 4 <| .b 8 (.q 9 <| .q 10 <| .q 11 <| .q 12 <| .q 13 <| .q 14 <| .q 15 <| .q 18 <| .q 19 <| .q 20 <| .q 21 <| .b 16 (.q 17 <| .b 22 (.q 23 <| .q 24 <| .q 25 <| .q 26 <| .done) <| .e) <| .e) <| .e) <| .e) (by kernel_rfl) (by kernel_rfl) (by kernel_rfl) ?_
          intro W2 hW2
          have xW := x2.trans (hW2.mono x2.size)
          have hr2 := Blk.call (Blk.call hr1 hb2) hW2
          have hu2 := (hu0.below xW (Nat.le_refl _)).more xW.size
          simp only [tw, List.getElem?_cons_succ, List.getElem?_cons_zero]
          iterate 6 (first
            | (refine wpTz_skip (by rfl) ?_; simp only [Act.put, List.setIfInBounds_toArray, List.set_cons_zero, List.set_cons_succ])
            | (refine wpTz_load 25 (.tmp 4) rfl g1 0 rfl (b8s sec) _ (by rfl) (fun W hS => BlB.rng (Blk.call hr2 hS)) Try.underlying25 rfl (info25.trans (congrArg some (by rw [b8s_length, Hs.out]))) ?_; simp only [Act.put, List.setIfInBounds_toArray, List.set_cons_zero, List.set_cons_succ])
            | (refine wpTz_q (v := ?_) (by rfl) (fun W hW => ?_) ?_
               rotate_left
               · (try dsimp only at hW); first | (go_simp; done) | (go_simp; with_reducible rfl)
               simp only [Act.put, List.setIfInBounds_toArray, List.set_cons_zero, List.set_cons_succ]))
          refine wpTz_b (fun K hK => ?_) wpTz_e
          go_wp2_with (go_at_call 48; refine (Hk1.out _ _ hu2).mono ?_; rintro e w3 ⟨v3, rfl, hS3, hb3⟩)
          have e3 := to_strW hS3.sl
          refine wpTz_on hK hb3 ?_
          clear hK K
          iterate 1 (first
            | (refine wpTz_skip (by rfl) ?_; simp only [Act.put, List.setIfInBounds_toArray, List.set_cons_zero, List.set_cons_succ])
            | (refine wpTz_q (v := ?_) (by rfl) (fun W hW => ?_) ?_
               rotate_left
               · (try dsimp only at hW); first | (go_simp; done) | (go_simp; with_reducible rfl)
               simp only [Act.put, List.setIfInBounds_toArray, List.set_cons_zero, List.set_cons_succ]))
          refine wpTz_b (fun K hK => ?_) wpTz_e
          go_wp2_with (go_at_call 49; refine (Hk2.out _ _ ((hu2.below hb3 (Nat.le_refl _)).more hb3.size)).mono ?_; rintro e w4 ⟨v4, rfl, hS4, hb4⟩)
          clear e3
          have y4 := hb3.trans (hb4.mono hb3.size)
          have hr4 := Blk.call hr2 y4
          have hu4 := (hu2.below y4 (Nat.le_refl _)).more y4.size
          have e4 := to_strW hS4.sl
          refine wpTz_on hK hb4 ?_
          clear hK K
          iterate 11 (first
            | (refine wpTz_skip (by rfl) ?_; simp only [Act.put, List.setIfInBounds_toArray, List.set_cons_zero, List.set_cons_succ])
            | (refine wpTz_load 25 (.tmp 4) rfl g1 0 rfl (b8s sec) _ (by rfl) (fun W hS => BlB.rng (Blk.call hr4 hS)) Try.underlying25 rfl (info25.trans (congrArg some (by rw [b8s_length, Hs.out]))) ?_; simp only [Act.put, List.setIfInBounds_toArray, List.set_cons_zero, List.set_cons_succ])
            | (refine wpTz_q (v := ?_) (by rfl) (fun W hW => ?_) ?_
               rotate_left
               · (try dsimp only at hW); first | (go_simp; done) | (go_simp; with_reducible rfl)
               simp only [Act.put, List.setIfInBounds_toArray, List.set_cons_zero, List.set_cons_succ]))
          clear e4
          refine wpTz_b (fun K hK => ?_) wpTz_e
          go_wp2_with (go_at_call 50; refine (Hk3.out _ _ hu4).mono ?_; rintro e w5 ⟨v5, rfl, hS5, hb5⟩)
          have e5 := to_strW hS5.sl
          refine wpTz_on hK hb5 ?_
          clear hK K
          iterate 1 (first
            | (refine wpTz_skip (by rfl) ?_; simp only [Act.put, List.setIfInBounds_toArray, List.set_cons_zero, List.set_cons_succ])
            | (refine wpTz_q (v := ?_) (by rfl) (fun W hW => ?_) ?_
               rotate_left
               · (try dsimp only at hW); first | (go_simp; done) | (go_simp; with_reducible rfl)
               simp only [Act.put, List.setIfInBounds_toArray, List.set_cons_zero, List.set_cons_succ]))
          clear e5
          refine wpTz_b (fun K hK => ?_) wpTz_e
          go_wp2_with (go_at_call 51; refine (Hk4.out _ _ ((hu4.below hb5 (Nat.le_refl _)).more hb5.size)).mono ?_; rintro e w6 ⟨v6, rfl, hS6, hb6⟩)
          have e6 := to_strW hS6.sl
          refine wpTz_on hK hb6 ?_
          clear hK K
          iterate 4 (first
            | (refine wpTz_skip (by rfl) ?_; simp only [Act.put, List.setIfInBounds_toArray, List.set_cons_zero, List.set_cons_succ])
            | (refine wpTz_q (v := ?_) (by rfl) (fun W hW => ?_) ?_
               rotate_left
               · (try dsimp only at hW); first | (go_simp; done) | (go_simp; with_reducible rfl)
               simp only [Act.put, List.setIfInBounds_toArray, List.set_cons_zero, List.set_cons_succ]))
          refine wpTz_done ?_
          go_wp2
          go_ret
          have y6 := y4.trans ((hb5.trans (hb6.mono hb5.size)).mono y4.size)
          exact ⟨rfl, xW.trans (y6.mono xW.size)⟩
end Go.Proofs.Ytillnpllcfleeaa
