/- Walks of layer 8: a round's key added; a block sealed. -/
import Derived.Test.YtillnpllcfleeaaAes3
namespace Go.Proofs.Ytillnpllcfleeaa
open Go Go.RowKit

set_option maxRecDepth 100000 in
set_option maxHeartbeats 1500000 in
theorem add_any (gs gp gc n : Nat) (s k : List UInt8) (w : World) (hn : n ≤ 10) (hs : s.length = 16) (hk : k.length = 176) (hb : BlB w gs 32 s) (hp : Blk w gp 33 #[.pointer (some ⟨gc, 0, none⟩)]) (hc : BlB w gc 224 (sbox ++ k)) :
    Calls Try.prog 145 #[.int .i64 (n : Int), .pointer (some ⟨gs, 0, none⟩), .pointer (some ⟨gp, 0, none⟩)] w fun e w' => e = .returned (.tuple #[]) ∧ BlB w' gs 32 (addK k n s) ∧ w.grownBy w' (some gs) := by
  have hsp : gs ≠ gp := Blk.ne hb hp (by decide)
  have hsc : gs ≠ gc := Blk.ne hb hc (by decide)
  have hbl := hb.lt
  have hpl := hp.lt
  have hcl := hc.lt
  have hml : ∀ i, (mixTo i (addK k n s) s).length = 16 := fun i => by rw [mixTo_length _ _ _ (by rw [addK_length, hs]), hs]
  have Hml := Lib.hid hml; clear hml
  have Hs := Lib.hid hs; clear hs
  have Hk := Lib.hid hk; clear hk
  have j0 : (0 : Int) ≤ (n : Int) ∧ (n : Int) < 11 := by omega
  go_enter Try.func145, Try.ntmps145
  go_wp2
  go_loopw [5] (fun i wr => ∃ j : Nat, j ≤ 16 ∧ i = .int .i64 j ∧ BlB wr gs 32 (mixTo j (addK k n s) s) ∧ w.grownBy wr (some gs)) (fun i _ => 16 - (intOf i).toNat)
  case atStart => exact ⟨0, by omega, rfl, by rw [mixTo_zero]; exact hb, grown_of_below (Below.refl _ _)⟩
  case round =>
    obtain ⟨j, hj, rfl, hB, hg⟩ := hrel
    by_cases hlt : j < 16
    · have c1 : wr.cell? ⟨gs, j, none⟩ = some (.int .u8 (u8v (bAt s j))) := by
        rw [hB.at j (by rw [Hml.out]; exact hlt), bAt_mixTo_old _ _ _ _ (by rw [addK_length, Hs.out]) (Nat.le_refl _)]
      have c2 : wr.cell? ⟨gp, 0, none⟩ = some (.pointer (some ⟨gc, 0, none⟩)) := (Blk.grown hp hg (by simp [hsp.symm])).cell 0
      have c3 : wr.cell? ⟨gc, 256 + n * 16 + j, none⟩ = some (.int .u8 (u8v (bAt k (16 * n + j)))) := by
        have h := BlB.at (l := sbox ++ k) (Blk.grown hc hg (by simp [hsc.symm])) (256 + n * 16 + j) (by rw [List.length_append, sbox_length, Hk.out]; omega)
        rw [bAt_append_right _ _ _ (by rw [sbox_length]; omega), sbox_length, show 256 + n * 16 + j - 256 = 16 * n + j by omega] at h
        exact h
      have hfr := Blk.frozen hB j
      have j1 : (0 : Int) ≤ (j : Int) ∧ (j : Int) < 16 := by omega
      go_wp2
      refine region_tail 13 (by kernel_rfl) (by kernel_rfl) ?_
      simp only [List.take_succ_cons, List.take_zero, List.drop_succ_cons, List.drop_zero]
      repeat still_step
      refine wpStill_nil ?_
      go_wp2
      go_roundw
      case rel =>
        refine ⟨j + 1, hlt, by go_num, ?_, grownBy_set (grownBy_drew hg) _ _⟩
        have h := hB.set j (bAt s j ^^^ bAt k (16 * n + j))
        rw [mixTo_set _ _ _ _ (by rw [addK_length, Hs.out]) (by rw [addK_length]; exact hlt) (by unfold addK; exact tab_get _ _ _ hlt)] at h
        exact h
      case measure => simp [intOf]; omega
    · have e : j = 16 := by omega
      subst e
      rw [mixTo_all 16 _ _ (addK_length _ _ _) Hs.out] at hB
      go_wp2
      go_end0
      exact ⟨rfl, hB, hg⟩

theorem seal_ix (j : Nat) (hj : j < 16) : (IntKind.i64.wrap ((j : Int) + IntKind.i64.wrap (4 * (j : Int).tmod 4))).tmod 16 = (((j + 4 * (j % 4)) % 16 : Nat) : Int) := by
  have e : (j : Int).tmod 4 = ((j % 4 : Nat) : Int) := by rw [Int.tmod_eq_emod_of_nonneg (by omega)]; omega
  rw [e, IntWalk.i64_in (4 * ((j % 4 : Nat) : Int)) (by omega), IntWalk.i64_in _ (by omega), Int.tmod_eq_emod_of_nonneg (by omega)]
  omega
theorem sealAt_zero (k b : List UInt8) : sealAt k b 0 = addK k 0 b := rfl
theorem sealAt_mid (k b : List UInt8) (n : Nat) (h : n + 1 < 10) : sealAt k b (n + 1) = addK k (n + 1) (mixC (subSh (sealAt k b n))) := by rw [sealAt, if_pos h]
theorem sealAt_last (k b : List UInt8) (n : Nat) (h : ¬ n + 1 < 10) : sealAt k b (n + 1) = addK k (n + 1) (subSh (sealAt k b n)) := by rw [sealAt, if_neg h]

set_option maxRecDepth 100000 in
set_option maxHeartbeats 4000000 in
theorem seal_any (gc : Nat) (k b : List UInt8) (w : World) (hk : k.length = 176) (hbl : b.length = 16) (hc : BlB w gc 224 (sbox ++ k)) :
    Calls Try.prog 38 #[.pointer (some ⟨gc, 0, none⟩), .agg (b8s b).toArray] w fun e w' => e = .returned (.agg (b8s (sealAt k b 10)).toArray) ∧ Below w.heap.size w w' := by
  obtain ⟨Z, hZ⟩ : ∃ Z, Z = (b8s (List.replicate 16 0)).toArray := ⟨_, rfl⟩
  have hz := zero32
  rw [← hZ] at hz
  have HZ := Lib.hid hZ; clear hZ
  have Hz := Lib.hid hz; clear hz
  have Hk := Lib.hid hk; clear hk
  have Hb := Lib.hid hbl; clear hbl
  go_enter Try.func38, Try.ntmps38
  go_wp2_with (first
    | (refine box_abs rfl 33 (.tmp 0) rfl #[.pointer (some ⟨gc, 0, none⟩)] rfl ?_; intro gp w1 hgp1 hgp2 hp hb1
       have hcA := Blk.call hc hb1
       have hz1 := hb1.size)
    | (refine box_abs rfl 32 (.tmp 1) rfl (b8s b).toArray rfl ?_; intro gb w2 hgb1 hgb2 hb hb2
       have hcB := Blk.call hcA hb2
       have hpB := hp.call hb2
       have hz2 := hb2.size)
    | (have _h := hr1; refine alloc_abs rfl 32 rfl Z Hz.out ?_; intro gs w4 hgs1 hgs2 hs hb4
       have hcD := Blk.call hcC hb4
       have hpD := hpC.call hb4
       have hrD := hr.call hb4
       have hz4 := hb4.size
       rw [HZ.out] at hs)
    | (refine alloc_abs rfl 32 rfl Z Hz.out ?_; intro r w3 hr1 hr2 hr hb3
       have hcC := Blk.call hcB hb3
       have hpC := hpB.call hb3
       have hbC := hb.call hb3
       have cpC : w3.cell? ⟨gp, 0, none⟩ = some (.pointer (some ⟨gc, 0, none⟩)) := hpC.cell 0
       have hz3 := hb3.size)
    | (refine ldB rfl 32 (.tmp 3) rfl gb rfl b hbC 16 Try.underlying32 info32 Hb.out ?_)
    | (refine stB rfl 32 (.tmp 5) (.tmp 14) rfl gs rfl b rfl (List.replicate 16 0) hs 16 info32 Hb.out (by simp) ?_; intro w5 hs5 hg5
       have hcE := Blk.grown hcD hg5 (by have := hc.lt; simp; omega)
       have hpE := hpD.grown hg5 (by simp; omega)
       have hrE := hrD.grown hg5 (by simp; omega)
       have hbw5 : Below w.heap.size w w5 := (hb1.trans ((hb2.mono hz1).trans ((hb3.mono (Nat.le_trans hz1 hz2)).trans (hb4.mono (Nat.le_trans hz1 (Nat.le_trans hz2 hz3)))))).grown hg5 (by omega) (fun x hx => by cases hx; omega)
       have hz5 := hg5.size
       clear cpC hb1 hcA hb2 hcB hpB hb hcC hpC hbC hr hb3 hp hcD hpD hrD hb4 hs hg5)
    | (go_at_call 145; refine (add_any gs gp gc 0 b k _ (by omega) Hb.out Hk.out hs5 hpE hcE).mono ?_; rintro e w6 ⟨rfl, hs6, hg6⟩))
  have hz6 := hg6.size
  have hcF := Blk.grown hcE hg6 (by have := hc.lt; simp; omega)
  have hpF := hpE.grown hg6 (by simp; omega)
  have hrF := hrE.grown hg6 (by simp; omega)
  have hbw6 := hbw5.grown hg6 hbw5.size (fun x hx => by cases hx; omega)
  have hgc := hc.lt
  have hne : gs ≠ gc ∧ gs ≠ gp ∧ gs ≠ r ∧ gs < w6.heap.size ∧ gc < w6.heap.size ∧ gp < w6.heap.size ∧ r < w6.heap.size := by omega
  have hw6 : w.heap.size ≤ w6.heap.size ∧ w.heap.size ≤ gs ∧ w.heap.size ≤ r := by omega
  clear hcE hpE hrE hbw5 hg6 hs5 hc hgp1 hgp2 hz1 hgb1 hgb2 hz2 hr1 hr2 hz3 hgs1 hgs2 hz4 hz5 hz6 hgc
  obtain ⟨hn1, hn2, hn3, hn4, hn5, hn6, hn7⟩ := hne
  obtain ⟨hw61, hw62, hw63⟩ := hw6
  go_loopw [7] (fun i wr => ∃ n : Nat, n ≤ 10 ∧ i = .int .i64 ((n + 1 : Nat) : Int) ∧ BlB wr gs 32 (sealAt k b n) ∧ w6.grownBy wr (some gs)) (fun i _ => 11 - (intOf i).toNat)
  case atStart => exact ⟨0, by omega, rfl, hs6, grown_of_below (Below.refl _ _)⟩
  case round =>
    clear hs6
    obtain ⟨n, hn, rfl, hS, hg⟩ := hrel
    have hzr := hg.size
    have hcR := Blk.grown hcF hg (by simp; omega)
    have hpR := hpF.grown hg (by simp; omega)
    have hSl := sealAt_length k b n
    obtain ⟨S, hSd⟩ : ∃ S, S = sealAt k b n := ⟨_, rfl⟩
    rw [← hSd] at hS hSl
    have HSd := Lib.hid hSd; clear hSd
    have HSl := Lib.hid hSl; clear hSl
    by_cases hlt : n < 10
    · obtain ⟨wa, rfl⟩ : ∃ wa : World, wa = wr := ⟨_, rfl⟩
      go_wp2_with (refine alloc_abs rfl 32 rfl Z Hz.out ?_; intro gt wT hgt1 hgt2 ht hbT; rw [HZ.out] at ht
                   have hcT := Blk.call hcR hbT
                   have hpT := hpR.call hbT
                   have hST := Blk.call hS hbT
                   have hzT := hbT.size)
      go_loopw [22] (fun i wr => ∃ j : Nat, j ≤ 16 ∧ i = .int .i64 j ∧ BlB wr gt 32 (mixTo j (subSh S) (List.replicate 16 0)) ∧ wT.grownBy wr (some gt)) (fun i _ => 16 - (intOf i).toNat)
      case atStart => exact ⟨0, by omega, rfl, by rw [mixTo_zero]; exact ht, grown_of_below (Below.refl _ _)⟩
      case round =>
        clear ht
        obtain ⟨j, hj, rfl, ht, hgT⟩ := hrel
        have hSj := Blk.grown hST hgT (by simp; omega)
        by_cases hlt2 : j < 16
        · have hcj := Blk.grown hcT hgT (by simp; omega)
          have hpj := (hpT.grown hgT (by simp; omega)).cell 0
          have hpj' : wr.cell? ⟨gp, 0, none⟩ = some (.pointer (some ⟨gc, 0, none⟩)) := hpj
          obtain ⟨m, hm⟩ : ∃ m, m = (j + 4 * (j % 4)) % 16 := ⟨_, rfl⟩
          have hm16 : m < 16 := by omega
          have c1 : wr.cell? ⟨gs, m, none⟩ = some (.int .u8 (u8v (bAt S m))) := BlB.at hSj m (by rw [HSl.out]; exact hm16)
          obtain ⟨x, hx⟩ : ∃ x, x = bAt S m := ⟨_, rfl⟩
          rw [← hx] at c1
          have c2 : wr.cell? ⟨gc, x.toNat, none⟩ = some (.int .u8 (u8v (sub x))) := by
            have h := BlB.at (l := sbox ++ k) hcj x.toNat (by rw [List.length_append, sbox_length]; have := x.toNat_lt; omega)
            rw [bAt_append_left _ _ _ (by rw [sbox_length]; exact x.toNat_lt)] at h
            exact h
          have hct := ht.at j (by rw [mixTo_length _ _ _ (by rw [subSh_length]; simp)]; simpa using hlt2)
          have hfr := Blk.frozen ht j
          have hxl := u8v_lt x
          have hx1 := hxl.1
          have hx2 := hxl.2
          have hxt : (u8v x).toNat = x.toNat := by unfold u8v; rfl
          have j1 : (0 : Int) ≤ (j : Int) ∧ (j : Int) < 16 := by omega
          have j2 : (0 : Int) ≤ (m : Int) ∧ (m : Int) < 16 := by omega
          have hmi := seal_ix j hlt2
          rw [← hm] at hmi
          have hxs : sub x = bAt (subSh S) j := by unfold subSh; rw [bAt_tab _ _ _ hlt2, hx, hm]
          have Hxs := Lib.hid hxs; clear hxs
          have Hx := Lib.hid hx; clear hx hm
          go_wp2
          refine region_tail 15 (by kernel_rfl) (by kernel_rfl) ?_
          simp only [List.take_succ_cons, List.take_zero, List.drop_succ_cons, List.drop_zero]
          repeat still_step
          refine wpStill_nil ?_
          clear hmi
          go_wp2
          go_roundw
          case rel =>
            refine ⟨j + 1, hlt2, by go_num, ?_, grownBy_set (grownBy_drew hgT) _ _⟩
            have h := BlB.set ht j (sub x)
            rw [mixTo_set _ _ _ _ (by rw [subSh_length]; simp) (by rw [subSh_length]; exact hlt2) (by rw [Hxs.out]; exact bAt_get _ _ (by rw [subSh_length]; exact hlt2))] at h
            exact h
          case measure => simp [intOf]; omega
        · have e16 : j = 16 := by omega
          subst e16
          rw [mixTo_all 16 _ _ (subSh_length _) (by simp)] at ht
          obtain ⟨T, hT⟩ : ∃ T, T = subSh S := ⟨_, rfl⟩
          have hTl : T.length = 16 := by rw [hT]; exact subSh_length S
          rw [← hT] at ht
          have HT := Lib.hid hT; clear hT
          have HTl := Lib.hid hTl; clear hTl
          have hcU := Blk.grown hcT hgT (by simp; omega)
          have hpU := hpT.grown hgT (by simp; omega)
          have hgU : w6.grownBy wr (some gs) := grown_far (grownB hg hbT) hgT (by omega)
          have hSU := Blk.grown hST hgT (by simp; omega)
          have hzU := hgT.size
          clear hlt2 hj hST hcT hpT hbT hgT
          have hSU' : BlB wr gs 32 S := hSU
          obtain ⟨wu, rfl⟩ : ∃ wu : World, wu = wr := ⟨_, rfl⟩
          by_cases h10 : n + 1 < 10
          · have hi10 : decide ((n : Int) + 1 < 10) = true := by rw [decide_eq_true_iff]; omega
            go_wp2_with (first
              | (refine ldB rfl 32 (.tmp 8) rfl gt rfl T ht 16 Try.underlying32 info32 HTl.out ?_)
              | (refine stB rfl 32 (.tmp 5) (.tmp 41) rfl gs rfl T rfl S hSU' 16 info32 HTl.out HSl.out ?_; intro wv hTv hgv
                 have hcV := Blk.grown hcU hgv (by simp [hn1.symm])
                 have hpV := hpU.grown hgv (by simp [hn2.symm])
                 have hgV := grownBy_trans hgU hgv
                 have hzV := hgv.size))
            clear hgv
            go_loopw [10] (fun i wr => ∃ j : Nat, j ≤ 4 ∧ i = .int .i64 ((4 * j : Nat) : Int) ∧ BlB wr gs 32 (mixTo (4 * j) (mixC T) T) ∧ wv.grownBy wr (some gs)) (fun i _ => 16 - (intOf i).toNat)
            case atStart => exact ⟨0, by omega, rfl, by rw [Nat.mul_zero, mixTo_zero]; exact hTv, grown_of_below (Below.refl _ _)⟩
            case round =>
              clear hTv
              obtain ⟨j, hj, rfl, hM, hgM⟩ := hrel
              by_cases hlt3 : j < 4
              · have hsl : ∀ W, (Instr.sliceAt 32 (.pointer (some ⟨gs, 0, none⟩)) (some (.int .i64 (4 * (j : Int)))) (some (.int .i64 (4 * (j : Int) + 4))) none).run Try.prog W = .ok (.slice (some ⟨gs, 4 * j, none⟩) 4 (16 - 4 * j)) W := fun W => by
                  have := cutP_lh Try.underlying32 W gs 0 (4 * j) (4 * j + 4) (4 * (j : Int)) (4 * (j : Int) + 4) .i64 .i64 (by omega) (by omega) (by omega) (by omega) (by omega)
                  rwa [Nat.zero_add, show 4 * j + 4 - 4 * j = 4 by omega] at this
                have j1 : (4 : Int) * (j : Int) < 16 := by omega
                go_wp2_with (go_at_call 146; refine (mix_any gs j _ T _ HTl.out hlt3 hM).mono ?_; rintro e wx ⟨rfl, hMx, hgx⟩)
                go_roundw
                case rel => exact ⟨j + 1, hlt3, by go_num, hMx, grownBy_trans hgM hgx⟩
                case measure => simp [intOf]; omega
              · have e4 : j = 4 := by omega
                subst e4
                rw [show 4 * 4 = 16 from rfl, mixTo_all 16 _ _ (mixC_length T) HTl.out] at hM
                have hcW := Blk.grown hcV hgM (by simp [hn1.symm])
                have hpW := hpV.grown hgM (by simp [hn2.symm])
                have hgW := grownBy_trans hgV hgM
                clear hcV hpV hgV hgM hlt3 hj
                go_wp2_with (go_at_call 145; refine (add_any gs gp gc (n + 1) (mixC T) k _ (by omega) (mixC_length T) Hk.out hM hpW hcW).mono ?_; rintro e wx ⟨rfl, hAx, hgx⟩)
                go_roundw
                case rel =>
                  refine ⟨n + 1, by omega, by go_num, ?_, grownBy_trans hgW hgx⟩
                  rw [sealAt_mid _ _ _ h10, ← HSd.out, ← HT.out]
                  exact hAx
                case measure => simp [intOf]; omega
          · go_wp2_with (first
              | (refine ldB rfl 32 (.tmp 8) rfl gt rfl T ht 16 Try.underlying32 info32 HTl.out ?_)
              | (refine stB rfl 32 (.tmp 5) (.tmp 41) rfl gs rfl T rfl S hSU' 16 info32 HTl.out HSl.out ?_; intro wv hTv hgv
                 have hcV := Blk.grown hcU hgv (by simp [hn1.symm])
                 have hpV := hpU.grown hgv (by simp [hn2.symm])
                 have hgV := grownBy_trans hgU hgv)
              | (go_at_call 145; refine (add_any gs gp gc (n + 1) T k _ (by omega) HTl.out Hk.out hTv hpV hcV).mono ?_; rintro e wx ⟨rfl, hAx, hgx⟩))
            go_roundw
            case rel =>
              refine ⟨n + 1, by omega, by go_num, ?_, grownBy_trans hgV hgx⟩
              rw [sealAt_last _ _ _ h10, ← HSd.out, ← HT.out]
              exact hAx
            case measure => simp [intOf]; omega
    · have e10 : n = 10 := by omega
      subst e10
      have hrR := hrF.grown hg (by simp [hn3.symm])
      have hbR := hbw6.grown hg hw61 (fun x hx => by cases hx; exact hw62)
      rw [HZ.out] at hrR
      go_wp2_with (first
        | (refine ldB rfl 32 (.tmp 5) rfl gs rfl S hS 16 Try.underlying32 info32 HSl.out ?_)
        | (refine stB rfl 32 (.tmp 4) (.tmp 56) rfl r rfl S rfl _ hrR 16 info32 HSl.out (by simp) ?_; intro w7 hres hg7))
      exact bodyPost_ret (retB rfl r rfl S hres 16 Try.underlying32 info32 HSl.out) rfl ⟨by rw [HSd.out], hbR.grown hg7 hbR.size (fun x hx => by cases hx; exact hw63)⟩
end Go.Proofs.Ytillnpllcfleeaa
