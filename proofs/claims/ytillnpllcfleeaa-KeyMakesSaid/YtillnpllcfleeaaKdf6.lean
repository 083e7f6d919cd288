/- Layer 7, walks: the reference's Expand and Label. -/
import Derived.Test.YtillnpllcfleeaaKdf5
namespace Go.Proofs.Ytillnpllcfleeaa
open Go Go.RowKit

set_option maxRecDepth 100000 in
set_option maxHeartbeats 2000000 in
theorem refexpand_no (sec : List UInt8) (u : Value) (n : Int) (w : World) (hn : n < 1 ∨ 8160 < n) :
    Calls Try.prog 49 #[.agg (b8s sec).toArray, u, .int .i64 n] w fun e w' => e = .returned (.slice none 0 0) ∧ Below w.heap.size w w' := by
  by_cases h1 : n < 1
  · go_enter Try.func49, Try.ntmps49
    go_wp2_with (refine box_abs rfl 25 (.tmp 0) rfl (b8s sec).toArray rfl ?_; intro g3 w1 hg3 hg3' hr3 hb1)
    go_ret
    exact ⟨rfl, hb1⟩
  · have h2 : 8160 < n := by omega
    clear hn
    go_enter Try.func49, Try.ntmps49
    go_wp2_with (refine box_abs rfl 25 (.tmp 0) rfl (b8s sec).toArray rfl ?_; intro g3 w1 hg3 hg3' hr3 hb1)
    go_ret
    exact ⟨rfl, hb1⟩

set_option maxRecDepth 100000 in
set_option maxHeartbeats 8000000 in
theorem refexpand_yes (sec info : List UInt8) (u : Value) (n : Nat) (w : World) (hs : sec.length = 32) (hu : Sl w w.heap.size u info) (hi : info.length ≤ 274877906944) (h1 : 1 ≤ n) (h2 : n ≤ 8160) :
    Calls Try.prog 49 #[.agg (b8s sec).toArray, u, .int .i64 (n : Int)] w fun e w' => ∃ v, e = .returned v ∧ Own w' w.heap.size v (expand sec info n) ∧ Below w.heap.size w w' := by
  obtain ⟨Ai, ci, rfl, hci, hmi, hri⟩ := hu
  unfold maxLen at hmi
  obtain ⟨Z, hZ⟩ : ∃ Z, Z = (b8s (List.replicate 32 0)).toArray := ⟨_, rfl⟩
  have hz := zero25
  rw [← hZ] at hz
  have HZ := Lib.hid hZ; clear hZ
  have Hz := Lib.hid hz; clear hz
  have Hs := Lib.hid hs; clear hs
  go_enter Try.func49, Try.ntmps49
  go_wp2_with (refine box_abs rfl 25 (.tmp 0) rfl (b8s sec).toArray rfl ?_; intro g3 w1 hg3 hg3' hr3 hb1)
  go_loopw [7, 8] (fun v7 i wr => ∃ k : Nat, k ≤ 32 ∧ i = .int .i64 k ∧ Own wr w1.heap.size v7 (sec.take k) ∧ Below w1.heap.size w1 wr) (fun _ i _ => 32 - (intOf i).toNat)
  case atStart => exact ⟨0, by omega, rfl, Own.nil _ _, Below.refl _ _⟩
  case round =>
    obtain ⟨k, hk2, rfl, hO, hbel⟩ := hrel
    by_cases hlt : k < 32
    · have hts := take_bAt sec k (by rw [Hs.out]; exact hlt)
      have cR := BlB.at (Blk.call hr3 hbel) k (by rw [Hs.out]; exact hlt)
      have hl : (sec.take k).length = k := by rw [List.length_take, Hs.out]; omega
      obtain ⟨T, hT⟩ : ∃ T, T = sec.take k := ⟨_, rfl⟩
      rw [← hT] at hts hl hO
      have Hts := Lib.hid hts; clear hts
      have Hl := Lib.hid hl; clear hl
      have HT := Lib.hid hT; clear hT
      go_wp2_with (first
        | (refine mk81 rfl (.tmp 28) rfl _ _ rfl rfl ?_; intro g6 w6 hg6 hg6' hO6 hb6
           have hO' := hO.below hb6 (Nat.le_refl _)
           have x6 := hbel.trans (hb6.mono hbel.size))
        | (at_builtin; refine app8 rfl (.tmp 25) (.tmp 29) rfl w1.heap.size _ T rfl hO' _ _ _ _ _ rfl hO6.rd rfl (by rw [Hl.out]; simp; omega) x6.size ?_; intro v7 w7 hO7 hg7 hat7
           have x7 := x6.grown hg7 x6.size (fun x hx => (hO'.lt x hx).1)))
      go_roundw
      case rel => exact ⟨k + 1, by omega, by go_num, by rw [Hts.out]; exact hO7, x7⟩
      case measure => simp [intOf]; omega
    · have e : k = 32 := by omega
      subst e
      rw [List.take_of_length_le (by rw [Hs.out]; omega)] at hO
      obtain ⟨w2, rfl⟩ : ∃ w2 : World, w2 = wr := ⟨_, rfl⟩
      have hbw2 := hb1.trans (hbel.mono hb1.size)
      have hri2 := (hri.below hbw2 (Nat.le_refl _)).more hbw2.size
      have hS2 := hO.sl
      clear hr3 hO
      go_wp2_with fail
      simp only [Int.cast_ofNat_Int]
      go_loopw [9, 10, 11] (fun v9 v10 v11 wr => ∃ k : Nat, 32 * k < n + 32 ∧ v11 = .int .i64 ((k : Int) + 1) ∧ Own wr w2.heap.size v9 (outAt sec info k) ∧ Sl wr wr.heap.size v10 (tAt sec info k) ∧ Below w2.heap.size w2 wr)
        (fun v9 _ _ _ => n + 32 - slLen v9)
      case atStart => exact ⟨0, by omega, rfl, Own.nil _ _, Sl.nil _ _, Below.refl _ _⟩
      case round =>
        clear hbel
        obtain ⟨k, hk, rfl, hO, hS, hbel⟩ := hrel
        have hlo := outAt_length sec info k
        obtain ⟨A9, c9, rfl, hc9, hm9, hr9⟩ := hO.form
        unfold maxLen at hm9
        rw [hlo] at hO hc9 ⊢
        have Hlo := Lib.hid hlo; clear hlo
        have hbr := hbw2.trans (hbel.mono hbw2.size)
        have hrir := (hri2.below hbel (Nat.le_refl _)).more hbel.size
        have hSr := (hS2.below hbel (Nat.le_refl _)).more hbel.size
        by_cases hlt : 32 * k < n
        · have htl : (tAt sec info k).length ≤ 32 := by
            cases k with
            | zero => exact Nat.zero_le _
            | succ k => rw [tAt_length]; exact Nat.le_refl _
          have hTl := tAt_length sec info k
          have hou : outAt sec info (k + 1) = outAt sec info k ++ tAt sec info (k + 1) := rfl
          have hmk : mac sec (tAt sec info k ++ info ++ [UInt8.ofNat (k + 1)]) = tAt sec info (k + 1) := by rw [List.append_assoc]; rfl
          have hsz : (tAt sec info k ++ info ++ [UInt8.ofNat (k + 1)]).length ≤ 549755813888 := by simp; omega
          have hk1 : (k : Int) + 1 = u8v (UInt8.ofNat (k + 1)) := by
            have e := conv_nat_8 (k + 1)
            rw [IntKind.wrap_u8', Int.emod_eq_of_lt (by omega) (by omega)] at e
            rw [← e]; simp
          have hk3 : (k : Int) + 1 < 256 := by omega
          obtain ⟨A10, c10, rfl, hc10, hm10, hr10⟩ := hS
          obtain ⟨T, hT⟩ : ∃ T, T = tAt sec info (k + 1) := ⟨_, rfl⟩
          obtain ⟨O, hOe⟩ : ∃ O, O = outAt sec info k := ⟨_, rfl⟩
          obtain ⟨T0, hT0⟩ : ∃ O, O = tAt sec info k := ⟨_, rfl⟩
          obtain ⟨I1, hI1⟩ : ∃ O, O = UInt8.ofNat (k + 1) := ⟨_, rfl⟩
          rw [← hT] at hTl hmk hou
          rw [← hOe] at hO hou hr9 Hlo
          rw [← hT0] at hmk hsz htl hr10 hc10 ⊢
          rw [← hI1] at hmk hsz hk1
          have H1 := Lib.hid hT; clear hT
          have H2 := Lib.hid hOe; clear hOe
          have H3 := Lib.hid hT0; clear hT0
          have H4 := Lib.hid hI1; clear hI1
          have H5 := Lib.hid hou; clear hou
          have H6 := Lib.hid hmk; clear hmk
          have H8 := Lib.hid hk1; clear hk1
          have H9 := Lib.hid hTl; clear hTl
          go_wp2_with (first
            | (refine lit8 rfl 0 [] rfl [] [] rfl rfl rfl (by decide) ?_; intro g4 w4 hg4 hg4' hO4 hb4
               have hr4 := hr10.below hb4 (Nat.le_refl _))
            | (at_builtin; refine app8 rfl (.tmp 37) (.tmp 38) rfl wr.heap.size _ [] rfl hO4 _ A10 _ _ T0 rfl hr4 rfl (by simp; omega) hb4.size ?_; intro v5 w5 hO5 hg5 hat5
               have x5 := hb4.grown hg5 hb4.size (fun x hx => (hO4.lt x hx).1)
               rw [List.nil_append] at hO5
               have hri5 := hrir.below x5 (Nat.le_refl _))
            | (at_builtin; refine app8 rfl (.tmp 39) (.tmp 40) rfl wr.heap.size _ T0 rfl hO5 _ Ai _ _ info rfl hri5 rfl (by omega) x5.size ?_; intro v6 w6 hO6 hg6 hat6
               have x6 := x5.grown hg6 x5.size (fun x hx => (hO5.lt x hx).1))
            | (refine mk81 rfl (.tmp 43) rfl _ I1 rfl H8.out ?_; intro g7 w7 hg7 hg7' hO7 hb7
               have x7 := x6.trans (hb7.mono x6.size)
               have hO6' := hO6.below hb7 (Nat.le_refl _))
            | (at_builtin; refine app8 rfl (.tmp 41) (.tmp 44) rfl wr.heap.size _ _ rfl hO6' _ _ _ _ [I1] rfl hO7.rd rfl (by simp; omega) x7.size ?_; intro v8 w8 hO8 hg8 hat8
               have x8 := x7.grown hg8 x7.size (fun x hx => (hO6'.lt x hx).1)
               have hS8 := (hSr.below x8 (Nat.le_refl _)).more x8.size
               have hU8 := hO8.sl)
            | (go_at_call 45; refine (refmac_any _ _ sec (T0 ++ info ++ [I1]) _ hS8 hU8 (by rw [Hs.out]; omega) hsz).mono ?_; rintro e w11 ⟨rfl, hb11⟩
               rw [H6.out]
               have x11 := x8.trans (hb11.mono x8.size))
            | (refine alloc_abs rfl 25 rfl Z Hz.out ?_; intro g12 w12 hg12 hg12' hr12 hb12
               rw [HZ.out] at hr12
               have x12 := x11.trans (hb12.mono x11.size))
            | (refine stB rfl 25 (.tmp 13) (.tmp 48) rfl g12 rfl T rfl _ hr12 32 info25 H9.out (by simp) ?_; intro w13 hr13 hg13
               have x13 := x12.grown hg13 x12.size (fun x hx => by cases hx; exact Nat.le_trans x11.size hg12)))
          have hO13 := hO.below x13 (Nat.le_refl _)
          have hbw13 := hbel.trans (x13.mono hbel.size)
          clear hO4 hO5 hO6 hO6' hO7 hO8 hU8 hS8 hr4 hri5 hr12 hg5 hg6 hg8 hg13 hat5 hat6 hat8 hb4 hb7 hb11 hb12 x5 x6 x7 x8 x11 x12 hO
          obtain ⟨wq, rfl⟩ : ∃ wq : World, wq = wr := ⟨_, rfl⟩
          go_loopw [10, 14] (fun v10 i wr => ∃ j : Nat, j ≤ 32 ∧ i = .int .i64 j ∧ Own wr w13.heap.size v10 (T.take j) ∧ Below w13.heap.size w13 wr) (fun _ i _ => 32 - (intOf i).toNat)
          case atStart => exact ⟨0, by omega, rfl, Own.nil _ _, Below.refl _ _⟩
          case round =>
            clear hbel
            obtain ⟨j, hj2, rfl, hO, hbel⟩ := hrel
            by_cases hlj : j < 32
            · have hts := take_bAt T j (by rw [H9.out]; exact hlj)
              have cR := BlB.at (Blk.call hr13 hbel) j (by rw [H9.out]; exact hlj)
              have hl : (T.take j).length = j := by rw [List.length_take, H9.out]; omega
              obtain ⟨X, hX⟩ : ∃ X, X = T.take j := ⟨_, rfl⟩
              rw [← hX] at hts hl hO
              have Hts := Lib.hid hts; clear hts
              have Hl := Lib.hid hl; clear hl
              have HX := Lib.hid hX; clear hX
              go_wp2_with (first
                | (refine mk81 rfl (.tmp 56) rfl _ _ rfl rfl ?_; intro g14 w14 hg14 hg14' hO14 hb14
                   have hO' := hO.below hb14 (Nat.le_refl _)
                   have x14 := hbel.trans (hb14.mono hbel.size))
                | (at_builtin; refine app8 rfl (.tmp 53) (.tmp 57) rfl w13.heap.size _ X rfl hO' _ _ _ _ _ rfl hO14.rd rfl (by rw [Hl.out]; simp; omega) x14.size ?_; intro v15 w15 hO15 hg15 hat15
                   have x15 := x14.grown hg15 x14.size (fun x hx => (hO'.lt x hx).1)))
              go_roundw
              case rel => exact ⟨j + 1, by omega, by go_num, by rw [Hts.out]; exact hO15, x15⟩
              case measure => simp [intOf]; omega
            · have e : j = 32 := by omega
              subst e
              rw [List.take_of_length_le (by rw [H9.out]; omega)] at hO
              have hO9 := hO13.below hbel (Nat.le_refl _)
              have hbw9 := hbw13.trans (hbel.mono hbw13.size)
              obtain ⟨A10', c10', rfl, hc10', hm10', hr10'⟩ := hO.form
              have hlt13 : ∀ x, (Value.slice A9 (32 * k) c9).ownBlock = some x → x < w13.heap.size := fun x hx => (hO13.lt x hx).2
              go_wp2_with (at_builtin; refine app8 rfl (.tmp 59) (.tmp 60) rfl w2.heap.size _ O rfl hO9 _ _ _ _ T rfl hO.rd rfl (by rw [Hlo.out, H9.out]; omega) hbw9.size ?_; intro v16 w16 hO16 hg16 hat16
                           have x16 := hbw9.grown hg16 hbw9.size (fun x hx => (hO9.lt x hx).1)
                           have hO10 := hO.kept hg16 (by
                             rcases hq : (Value.slice A10' T.length c10').ownBlock with _ | q
                             · exact .inl rfl
                             · refine .inr fun e => ?_
                               have := (hO.lt q hq).1
                               have := hlt13 q e.symm
                               omega)
                           obtain ⟨A16, c16, rfl, hc16, hm16, hrd16⟩ := hO16.form
                           rw [List.length_append] at hO16)
              go_roundw
              case rel =>
                refine ⟨k + 1, by omega, by go_num, ?_, ?_, x16⟩
                · rw [H5.out]; exact hO16
                · rw [← H1.out]; exact hO10.sl
              case measure => simp only [slLen, Hlo.out, H9.out]; omega
        · have e : k = (n + 31) / 32 := by omega
          go_wp2
          go_ret
          refine ⟨_, rfl, ?_, hbr⟩
          unfold expand
          rw [← e]
          exact (hO.cut0 n (by rw [Hlo.out]; omega) (by omega)).wk hbw2.size
end Go.Proofs.Ytillnpllcfleeaa
