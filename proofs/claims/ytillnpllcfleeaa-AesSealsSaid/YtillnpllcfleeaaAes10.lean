/- The reference of layer 8: a block sealed (function 43). -/
import Derived.Test.YtillnpllcfleeaaAes9
import Derived.Test.YtillnpllcfleeaaAes4
namespace Go.Proofs.Ytillnpllcfleeaa
open Go Go.RowKit

theorem calls_to {P : Program} {f : FuncId} {w : World} {args args' : Array Value} {Q : Ending → World → Prop} (e : args = args') (h : Calls P f args' w Q) : Calls P f args w Q := e ▸ h
theorem times2l (c : UInt8) (w : World) : Calls Try.prog 148 #[.int .u8 2, .int .u8 (u8v c)] w fun e w' => e = .returned (.int .u8 (u8v (times 2 c))) ∧ w' = w := by
  have h := times_any 2 c w
  have e : u8v 2 = 2 := by unfold u8v; rfl
  rwa [e] at h
theorem times3l (c : UInt8) (w : World) : Calls Try.prog 148 #[.int .u8 3, .int .u8 (u8v c)] w fun e w' => e = .returned (.int .u8 (u8v (times 3 c))) ∧ w' = w := by
  have h := times_any 3 c w
  have e : u8v 3 = 3 := by unfold u8v; rfl
  rwa [e] at h

set_option maxRecDepth 100000 in
set_option maxHeartbeats 4000000 in
theorem refSeal_any (As Ak Ab : Option Addr) (cs ck cb : Nat) (k b : List UInt8) (w : World) (hk : k.length = 176) (hb : b.length = 16) (hs : RdB w w.heap.size As sbox) (hkr : RdB w w.heap.size Ak k) (hbr : RdB w w.heap.size Ab b) :
    Calls Try.prog 43 #[.slice As 256 cs, .slice Ak 176 ck, .slice Ab 16 cb] w fun e w' => ∃ v, e = .returned v ∧ Own w' w.heap.size v (sealAt k b 10) ∧ Below w.heap.size w w' := by
  obtain ⟨gs, os, rfl, hgs, hcs⟩ := hs.all (by rw [sbox_length]; decide)
  obtain ⟨gk, ok, rfl, hgk, hck⟩ := hkr.all (by rw [hk]; decide)
  have htc : ∀ W, Below w.heap.size w W → ∀ x : UInt8, W.cell? ⟨gs, os + x.toNat, none⟩ = some (.int .u8 (u8v (sub x))) := fun W hW x => by
    obtain ⟨b, off, e, _, hc⟩ := (hs.below hW (Nat.le_refl _)).all (by rw [sbox_length]; decide)
    injection e with e
    injection e with e1 e2
    subst e1 e2
    rw [hc x.toNat (by rw [sbox_length]; exact x.toNat_lt), bAt_elem]
    rfl
  have hkc : ∀ W, Below w.heap.size w W → ∀ i, i < 176 → W.cell? ⟨gk, ok + i, none⟩ = some (.int .u8 (u8v (bAt k i))) := fun W hW i hi => by
    obtain ⟨b, off, e, _, hc⟩ := (hkr.below hW (Nat.le_refl _)).all (by rw [hk]; decide)
    injection e with e
    injection e with e1 e2
    subst e1 e2
    rw [hc i (by rw [hk]; exact hi), bAt_elem]
  clear hcs hck
  have Htc := Lib.hid htc; clear htc
  have Hkc := Lib.hid hkc; clear hkc
  have Hk := Lib.hid hk; clear hk
  have Hb := Lib.hid hb; clear hb
  clear hs hkr
  go_enter Try.func43, Try.ntmps43
  go_wp2_with (first
    | (refine mk80 rfl rfl ?_; intro g0 w1 h01 h02 hO0 hb1
       have hz1 := hb1.size
       have hr1 := hbr.below hb1 (Nat.le_refl _))
    | (refine app8d rfl (.tmp 19) (.tmp 20) rfl w.heap.size (.slice (some ⟨g0, 0, none⟩) 0 0) [] (by rfl) hO0 _ Ab 16 cb b (by rfl) hr1 Hb.out.symm (by rw [Hb.out]; decide) hz1 ?_; intro v1 w2 hO1 hg1 _ _))
  have hb2 : Below w.heap.size w w2 := hb1.grown hg1 hz1 (fun x hx => by have e : g0 = x := (by simpa [Value.ownBlock] using hx); omega)
  rw [List.nil_append] at hO1
  obtain ⟨g7, c7, rfl, hg7, hl7, hc7, hm7⟩ := hO1.loc (by rw [Hb.out]; decide)
  rw [Hb.out] at hO1 hc7 ⊢
  have hq1 := hO1
  clear hO0 hg1 hb1 hz1 hr1 h01 h02 hO1 hbr
  go_loopw [8] (fun i wr => ∃ j : Nat, j ≤ 16 ∧ i = .int .i64 j ∧ Own wr w.heap.size (.slice (some ⟨g7, 0, none⟩) 16 c7) (mixTo j (addK k 0 b) b) ∧ Below w.heap.size w wr) (fun i _ => 16 - (intOf i).toNat)
  case atStart => exact ⟨0, by omega, rfl, by rw [mixTo_zero]; exact hq1, hb2⟩
  case round =>
    clear hq1 hb2
    obtain ⟨j, hj, rfl, hO, hbel⟩ := hrel
    have hml : (mixTo j (addK k 0 b) b).length = 16 := by rw [mixTo_length _ _ _ (by rw [addK_length, Hb.out]), Hb.out]
    by_cases hlt : j < 16
    · have c1 : wr.cell? ⟨g7, j, none⟩ = some (.int .u8 (u8v (bAt b j))) := by
        rw [hO.at j (by rw [hml]; exact hlt), bAt_mixTo_old _ _ _ _ (by rw [addK_length, Hb.out]) (Nat.le_refl _)]
      have c2 := Hkc.out wr hbel j (by omega)
      have hfr := hO.frz j
      have j1 : (0 : Int) ≤ (j : Int) ∧ (j : Int) < 16 := by omega
      have j2 : (j : Int) < 176 := by omega
      clear hml
      go_wp2
      refine region_tail 12 (by kernel_rfl) (by kernel_rfl) ?_
      simp only [List.take_succ_cons, List.take_zero, List.drop_succ_cons, List.drop_zero]
      repeat still_step
      refine wpStill_nil ?_
      go_wp2
      have hP := hO.put j (bAt b j ^^^ bAt k j)
      rw [mixTo_set _ _ _ _ (by rw [addK_length, Hb.out]) (by rw [addK_length]; exact hlt) (by unfold addK; rw [tab_get _ _ _ hlt, Nat.mul_zero, Nat.zero_add])] at hP
      go_roundw
      case rel => exact ⟨j + 1, hlt, by go_num, hP, hbel.drew.grown (grownBy_setCell _ _ _) hbel.size (fun x hx => by cases hx; exact hg7)⟩
      case measure => simp [intOf]; omega
    · have e16 : j = 16 := by omega
      subst e16
      rw [mixTo_all 16 _ _ (addK_length _ _ _) Hb.out] at hO
      clear hml hlt hj
      have hq2 : Own wr w.heap.size (.slice (some ⟨g7, 0, none⟩) 16 c7) (sealAt k b 0) := hO
      have hb3 := hbel
      clear hO hbel
      obtain ⟨wa, rfl⟩ : ∃ wa : World, wa = wr := ⟨_, rfl⟩
      go_wp2
      simp only [Int.cast_ofNat_Int]
      go_loopw [9] (fun i wr => ∃ n : Nat, 1 ≤ n ∧ n ≤ 11 ∧ i = .int .i64 (n : Int) ∧ Own wr w.heap.size (.slice (some ⟨g7, 0, none⟩) 16 c7) (sealAt k b (n - 1)) ∧ Below w.heap.size w wr) (fun i _ => 11 - (intOf i).toNat)
      case atStart => exact ⟨1, by omega, by omega, rfl, hq2, hb3⟩
      case round =>
        clear hq2 hb3
        obtain ⟨n, hn1, hn2, rfl, hO, hbel⟩ := hrel
        obtain ⟨S, hS⟩ : ∃ S, S = sealAt k b (n - 1) := ⟨_, rfl⟩
        have hSl : S.length = 16 := by rw [hS]; exact sealAt_length _ _ _
        rw [← hS] at hO
        have HS := Lib.hid hS; clear hS
        have HSl := Lib.hid hSl; clear hSl
        by_cases hlt : n < 11
        · go_wp2_with (refine make8 rfl (.const (.int .i64 16)) (.const (.int .i64 16)) rfl .i64 .i64 16 16 16 rfl rfl rfl rfl (by decide) ?_; intro w3 hM hM1 hM2)
          obtain ⟨gx, hgx⟩ : ∃ gx, gx = wr.heap.size := ⟨_, rfl⟩
          have hO3 := hO.below hM1 (Nat.le_refl _)
          have hb3 := hbel.trans (hM1.mono hbel.size)
          have h7x : g7 ≠ gx := by have := (hO.bs).2; omega
          have hxw : w.heap.size ≤ gx := by rw [hgx]; exact hbel.size
          rw [← hgx] at hM ⊢
          obtain ⟨U, hU⟩ : ∃ U, U = subSh S := ⟨_, rfl⟩
          have hUl : U.length = 16 := by rw [hU]; exact subSh_length S
          have HU := Lib.hid hU; clear hU
          have HUl := Lib.hid hUl; clear hUl
          have hZl : (List.replicate 16 (0 : UInt8)).length = 16 := rfl
          obtain ⟨Z, hZ⟩ : ∃ Z, Z = List.replicate 16 (0 : UInt8) := ⟨_, rfl⟩
          rw [← hZ] at hM hZl
          have HZl := Lib.hid hZl; clear hZl hZ
          clear hO hbel hM1 hM2 hgx
          go_loopw [11] (fun i wr => ∃ a : Nat, a ≤ 4 ∧ i = .int .i64 (a : Int) ∧ BlB wr gx 5 (mixTo (4 * a) U Z) ∧ Own wr w.heap.size (.slice (some ⟨g7, 0, none⟩) 16 c7) S ∧ Below w.heap.size w wr) (fun i _ => 4 - (intOf i).toNat)
          case atStart => exact ⟨0, by omega, rfl, by rw [Nat.mul_zero, mixTo_zero]; exact hM, hO3, hb3⟩
          case round =>
            clear hM hO3 hb3
            obtain ⟨a, ha, rfl, hM, hO, hbel⟩ := hrel
            by_cases hlta : a < 4
            · obtain ⟨wb, rfl⟩ : ∃ wb : World, wb = wr := ⟨_, rfl⟩
              go_wp2
              go_loopw [12] (fun i wr => ∃ j : Nat, j ≤ 4 ∧ i = .int .i64 (j : Int) ∧ BlB wr gx 5 (mixTo (4 * a + j) U Z) ∧ Own wr w.heap.size (.slice (some ⟨g7, 0, none⟩) 16 c7) S ∧ Below w.heap.size w wr) (fun i _ => 4 - (intOf i).toNat)
              case atStart => exact ⟨0, by omega, rfl, hM, hO, hbel⟩
              case round =>
                clear hM hO hbel
                obtain ⟨j, hj, rfl, hM, hO, hbel⟩ := hrel
                by_cases hltj : j < 4
                · obtain ⟨a4, ea⟩ : ∃ x, x = 4 * a := ⟨_, rfl⟩
                  obtain ⟨m, em⟩ : ∃ x, x = a4 + j := ⟨_, rfl⟩
                  obtain ⟨aj, eaj⟩ : ∃ x, x = a + j := ⟨_, rfl⟩
                  obtain ⟨am, eam⟩ : ∃ x, x = aj % 4 := ⟨_, rfl⟩
                  obtain ⟨d4, ed⟩ : ∃ x, x = 4 * am := ⟨_, rfl⟩
                  obtain ⟨t, et⟩ : ∃ x, x = d4 + j := ⟨_, rfl⟩
                  have hwa : IntKind.i64.wrap (4 * (a : Int)) = (a4 : Int) := by rw [IntWalk.i64_in _ (by omega)]; omega
                  have hwb : IntKind.i64.wrap ((a4 : Int) + (j : Int)) = (m : Int) := by rw [IntWalk.i64_in _ (by omega)]; omega
                  have hwc : IntKind.i64.wrap ((a : Int) + (j : Int)) = (aj : Int) := by rw [IntWalk.i64_in _ (by omega)]; omega
                  have hwd : (aj : Int).tmod 4 = (am : Int) := by rw [Int.tmod_eq_emod_of_nonneg (by omega)]; omega
                  have hwe : IntKind.i64.wrap (4 * (am : Int)) = (d4 : Int) := by rw [IntWalk.i64_in _ (by omega)]; omega
                  have hwf : IntKind.i64.wrap ((d4 : Int) + (j : Int)) = (t : Int) := by rw [IntWalk.i64_in _ (by omega)]; omega
                  have i0 : (0 : Int) ≤ (m : Int) ∧ (m : Int) < 16 := by omega
                  have i1 : (0 : Int) ≤ (t : Int) ∧ (t : Int) < 16 := by omega
                  have hm16 : m < 16 := by omega
                  have ht16 : t < 16 := by omega
                  have hmt : (m + 4 * (m % 4)) % 16 = t := by omega
                  have hmj : 4 * a + j = m := by omega
                  have hmj1 : 4 * a + (j + 1) = m + 1 := by omega
                  have Hmj1 := Lib.hid hmj1; clear hmj1
                  rw [hmj] at hM
                  clear hmj ea em eaj eam ed et
                  obtain ⟨x, hx⟩ : ∃ x, x = bAt S t := ⟨_, rfl⟩
                  have hUm : U[m]? = some (sub x) := by
                    rw [bAt_get U m (by rw [HUl.out]; exact hm16), HU.out]
                    unfold subSh
                    rw [bAt_tab _ _ _ hm16, hmt, hx]
                  have HUm := Lib.hid hUm; clear hUm hmt
                  have hMl : (mixTo m U Z).length = 16 := by rw [mixTo_length _ _ _ (by rw [HUl.out, HZl.out]), HZl.out]
                  have c1 : wr.cell? ⟨g7, t, none⟩ = some (.int .u8 (u8v x)) := by rw [hx]; exact hO.at t (by rw [HSl.out]; exact ht16)
                  have c2 := Htc.out wr hbel x
                  have c3 := hM.at m (by rw [hMl]; exact hm16)
                  have hfr := Blk.frozen hM m
                  obtain ⟨m01, m02⟩ := u8v_lt x
                  have n0 : (u8v x).toNat = x.toNat := by unfold u8v; rfl
                  clear hMl hx
                  go_wp2
                  have hM2 := BlB.set hM m (sub x)
                  rw [mixTo_set _ _ _ _ (by rw [HUl.out, HZl.out]) (by rw [HUl.out]; exact hm16) HUm.out] at hM2
                  go_roundw
                  case rel => exact ⟨j + 1, hltj, by go_num, by rw [Hmj1.out]; exact hM2, hO.setCell (by simp [Value.ownBlock]; exact h7x) _, hbel.grown (grownBy_setCell _ _ _) hbel.size (fun x hx => by cases hx; exact hxw)⟩
                  case measure => simp [intOf]; omega
                · have e4 : j = 4 := by omega
                  subst e4
                  go_wp2
                  go_roundw
                  case rel => exact ⟨a + 1, hlta, by go_num, by rw [show 4 * (a + 1) = 4 * a + 4 by omega]; exact hM, hO, hbel⟩
                  case measure => simp [intOf]; omega
            · have e4 : a = 4 := by omega
              subst e4
              rw [show 4 * 4 = 16 from rfl, mixTo_all 16 _ _ HUl.out HZl.out] at hM
              clear hlta ha
              go_wp2
              obtain ⟨V, hV⟩ : ∃ V, V = if n < 10 then mixC U else U := ⟨_, rfl⟩
              have hVl : V.length = 16 := by rw [hV]; split <;> first | exact mixC_length U | exact HUl.out
              have HV := Lib.hid hV; clear hV
              have HVl := Lib.hid hVl; clear hVl
              have hM0 := hM
              clear hM
              simp only [Int.cast_ofNat_Int]
              go_loopw [13] (fun i wr => ∃ a : Nat, a ≤ 4 ∧ i = .int .i64 (a : Int) ∧ BlB wr gx 5 (mixTo (4 * a) V U) ∧ Own wr w.heap.size (.slice (some ⟨g7, 0, none⟩) 16 c7) S ∧ Below w.heap.size w wr) (fun i _ => 4 - (intOf i).toNat)
              case atStart => exact ⟨0, by omega, rfl, by rw [Nat.mul_zero, mixTo_zero]; exact hM0, hO, hbel⟩
              case round =>
                clear hM0 hO hbel
                obtain ⟨a, ha, rfl, hM, hO, hbel⟩ := hrel
                by_cases hgo : a < 4 ∧ n < 10
                · obtain ⟨hlta, h10⟩ := hgo
                  have hVe : V = mixC U := by rw [HV.out, if_pos h10]
                  have HVe := Lib.hid hVe; clear hVe
                  have hTl : (mixTo (4 * a) V U).length = 16 := by rw [mixTo_length _ _ _ (by rw [HVl.out, HUl.out]), HUl.out]
                  obtain ⟨m0, e0⟩ : ∃ x, x = 4 * a := ⟨_, rfl⟩
                  obtain ⟨m1, e1⟩ : ∃ x, x = m0 + 1 := ⟨_, rfl⟩
                  obtain ⟨m2, e2⟩ : ∃ x, x = m0 + 2 := ⟨_, rfl⟩
                  obtain ⟨m3, e3⟩ : ∃ x, x = m0 + 3 := ⟨_, rfl⟩
                  have hw0 : IntKind.i64.wrap (4 * (a : Int)) = (m0 : Int) := by rw [IntWalk.i64_in _ (by omega)]; omega
                  have hw1 : IntKind.i64.wrap ((m0 : Int) + 1) = (m1 : Int) := by rw [IntWalk.i64_in _ (by omega)]; omega
                  have hw2 : IntKind.i64.wrap ((m0 : Int) + 2) = (m2 : Int) := by rw [IntWalk.i64_in _ (by omega)]; omega
                  have hw3 : IntKind.i64.wrap ((m0 : Int) + 3) = (m3 : Int) := by rw [IntWalk.i64_in _ (by omega)]; omega
                  have i0 : (0 : Int) ≤ (m0 : Int) ∧ (m0 : Int) < 16 := by omega
                  have i1 : (0 : Int) ≤ (m1 : Int) ∧ (m1 : Int) < 16 := by omega
                  have i2 : (0 : Int) ≤ (m2 : Int) ∧ (m2 : Int) < 16 := by omega
                  have i3 : (0 : Int) ≤ (m3 : Int) ∧ (m3 : Int) < 16 := by omega
                  have hold : ∀ e, 4 * a ≤ e → e < 16 → wr.cell? ⟨gx, e, none⟩ = some (.int .u8 (u8v (bAt U e))) := fun e h1 h2 => by
                    rw [hM.at e (by rw [hTl]; exact h2), bAt_mixTo_old _ _ _ _ (by rw [HVl.out, HUl.out]) h1]
                  have c0 := hold m0 (by omega) (by omega)
                  have c1 := hold m1 (by omega) (by omega)
                  have c2 := hold m2 (by omega) (by omega)
                  have c3 := hold m3 (by omega) (by omega)
                  obtain ⟨x0, h0⟩ : ∃ x, x = bAt U m0 := ⟨_, rfl⟩
                  obtain ⟨x1, h1⟩ : ∃ x, x = bAt U m1 := ⟨_, rfl⟩
                  obtain ⟨x2, h2⟩ : ∃ x, x = bAt U m2 := ⟨_, rfl⟩
                  obtain ⟨x3, h3⟩ : ∃ x, x = bAt U m3 := ⟨_, rfl⟩
                  rw [← h0] at c0
                  rw [← h1] at c1
                  rw [← h2] at c2
                  rw [← h3] at c3
                  have E0 := Lib.hid e0; clear e0
                  have E1 := Lib.hid e1; clear e1
                  have E2 := Lib.hid e2; clear e2
                  have E3 := Lib.hid e3; clear e3
                  have H0 := Lib.hid h0; clear h0
                  have H1 := Lib.hid h1; clear h1
                  have H2 := Lib.hid h2; clear h2
                  have H3 := Lib.hid h3; clear h3
                  have f0 := Blk.frozen hM m0
                  have f1 := Blk.frozen hM m1
                  have f2 := Blk.frozen hM m2
                  have f3 := Blk.frozen hM m3
                  clear hold hTl
                  have n01 : m0 ≠ m1 := by have := E1.out; omega
                  have n02 : m0 ≠ m2 := by have := E2.out; omega
                  have n03 : m0 ≠ m3 := by have := E3.out; omega
                  have n12 : m1 ≠ m2 := by have := E1.out; have := E2.out; omega
                  have n13 : m1 ≠ m3 := by have := E1.out; have := E3.out; omega
                  have n23 : m2 ≠ m3 := by have := E2.out; have := E3.out; omega
                  go_wp2
                  go_quiet (fail)
                  go_wp2_with (first
                    | (go_at_call 148; refine calls_to (args' := #[.int .u8 2, .int .u8 (u8v _)]) (by with_reducible rfl) ?_; refine (times2l _ _).mono ?_; rintro e w' ⟨rfl, rfl⟩)
                    | (go_at_call 148; refine calls_to (args' := #[.int .u8 3, .int .u8 (u8v _)]) (by with_reducible rfl) ?_; refine (times3l _ _).mono ?_; rintro e w' ⟨rfl, rfl⟩))
                  have e0 := E0.out
                  have e1 := E1.out
                  have e2 := E2.out
                  have e3 := E3.out
                  have r0 : V[m0]? = some (times 2 x0 ^^^ times 3 x1 ^^^ x2 ^^^ x3) := by
                    rw [HVe.out]
                    unfold mixC
                    rw [tab_get _ _ _ (by omega)]
                    unfold mix1
                    rw [show 4 * (m0 / 4) + (m0 + 1) % 4 = m1 by omega, show 4 * (m0 / 4) + (m0 + 2) % 4 = m2 by omega, show 4 * (m0 / 4) + (m0 + 3) % 4 = m3 by omega, ← H0.out, ← H1.out, ← H2.out, ← H3.out, ← mixB_ref]
                  have r1 : V[m1]? = some (x0 ^^^ times 2 x1 ^^^ times 3 x2 ^^^ x3) := by
                    rw [HVe.out]
                    unfold mixC
                    rw [tab_get _ _ _ (by omega)]
                    unfold mix1
                    rw [show 4 * (m1 / 4) + (m1 + 1) % 4 = m2 by omega, show 4 * (m1 / 4) + (m1 + 2) % 4 = m3 by omega, show 4 * (m1 / 4) + (m1 + 3) % 4 = m0 by omega, ← H0.out, ← H1.out, ← H2.out, ← H3.out, ← mixB_ref]
                    exact congrArg some (by ac_rfl)
                  have r2 : V[m2]? = some (x0 ^^^ x1 ^^^ times 2 x2 ^^^ times 3 x3) := by
                    rw [HVe.out]
                    unfold mixC
                    rw [tab_get _ _ _ (by omega)]
                    unfold mix1
                    rw [show 4 * (m2 / 4) + (m2 + 1) % 4 = m3 by omega, show 4 * (m2 / 4) + (m2 + 2) % 4 = m0 by omega, show 4 * (m2 / 4) + (m2 + 3) % 4 = m1 by omega, ← H0.out, ← H1.out, ← H2.out, ← H3.out, ← mixB_ref]
                    exact congrArg some (by ac_rfl)
                  have r3 : V[m3]? = some (times 3 x0 ^^^ x1 ^^^ x2 ^^^ times 2 x3) := by
                    rw [HVe.out]
                    unfold mixC
                    rw [tab_get _ _ _ (by omega)]
                    unfold mix1
                    rw [show 4 * (m3 / 4) + (m3 + 1) % 4 = m0 by omega, show 4 * (m3 / 4) + (m3 + 2) % 4 = m1 by omega, show 4 * (m3 / 4) + (m3 + 3) % 4 = m2 by omega, ← H0.out, ← H1.out, ← H2.out, ← H3.out, ← mixB_ref]
                    exact congrArg some (by ac_rfl)
                  have hVU : V.length = U.length := by rw [HVl.out, HUl.out]
                  rw [← e0] at hM
                  have q0 := BlB.set (w := wr.drewN nq) hM m0 (times 2 x0 ^^^ times 3 x1 ^^^ x2 ^^^ x3)
                  rw [mixTo_set _ _ _ _ hVU (by rw [HVl.out]; omega) r0, show m0 + 1 = m1 by omega] at q0
                  have q1 := BlB.set q0 m1 (x0 ^^^ times 2 x1 ^^^ times 3 x2 ^^^ x3)
                  rw [mixTo_set _ _ _ _ hVU (by rw [HVl.out]; omega) r1, show m1 + 1 = m2 by omega] at q1
                  have q2 := BlB.set q1 m2 (x0 ^^^ x1 ^^^ times 2 x2 ^^^ times 3 x3)
                  rw [mixTo_set _ _ _ _ hVU (by rw [HVl.out]; omega) r2, show m2 + 1 = m3 by omega] at q2
                  have q3 := BlB.set q2 m3 (times 3 x0 ^^^ x1 ^^^ x2 ^^^ times 2 x3)
                  rw [mixTo_set _ _ _ _ hVU (by rw [HVl.out]; omega) r3, show m3 + 1 = 4 * (a + 1) by omega] at q3
                  have hg4 := grownBy_trans (grownBy_trans (grownBy_trans (grownBy_setCell (wr.drewN nq) ⟨gx, m0, none⟩ (.int .u8 (u8v (times 2 x0 ^^^ times 3 x1 ^^^ x2 ^^^ x3)))) (grownBy_setCell _ ⟨gx, m1, none⟩ (.int .u8 (u8v (x0 ^^^ times 2 x1 ^^^ times 3 x2 ^^^ x3))))) (grownBy_setCell _ ⟨gx, m2, none⟩ (.int .u8 (u8v (x0 ^^^ x1 ^^^ times 2 x2 ^^^ times 3 x3))))) (grownBy_setCell _ ⟨gx, m3, none⟩ (.int .u8 (u8v (times 3 x0 ^^^ x1 ^^^ x2 ^^^ times 2 x3))))
                  have hO4 := (hO.drewN nq).kept hg4 (.inr (by simp [Value.ownBlock]; exact h7x))
                  have hb4 := (below_drewN hbel nq).grown hg4 hbel.size (fun x hx => by cases hx; exact hxw)
                  go_roundw
                  case rel => exact ⟨a + 1, hlta, by go_num, q3, hO4, hb4⟩
                  case measure => simp [intOf]; omega
                · have hVU : mixTo (4 * a) V U = V := by
                    by_cases h10 : n < 10
                    · have e4 : a = 4 := by omega
                      subst e4
                      exact mixTo_all 16 _ _ HVl.out HUl.out
                    · rw [HV.out, if_neg h10]
                      unfold mixTo
                      exact List.take_append_drop _ _
                  rw [hVU] at hM
                  clear hVU
                  have hst : sealAt k b (n + 1 - 1) = addK k n V := by
                    obtain ⟨n', rfl⟩ : ∃ n', n = n' + 1 := ⟨n - 1, by omega⟩
                    rw [show n' + 1 + 1 - 1 = n' + 1 by omega, sealAt, HV.out, HU.out, HS.out, show n' + 1 - 1 = n' by omega]
                  have Hst := Lib.hid hst; clear hst
                  have hM9 := hM
                  have hO9 := hO
                  have hb9 := hbel
                  clear hM hO hbel
                  obtain ⟨wc, rfl⟩ : ∃ wc : World, wc = wr := ⟨_, rfl⟩
                  rcases (show (a < 4 ∧ ¬ n < 10) ∨ ¬ a < 4 by omega) with ⟨hz1, hz2⟩ | hz1
                  all_goals (
                    go_wp2
                    go_loopw [18] (fun i wr => ∃ j : Nat, j ≤ 16 ∧ i = .int .i64 (j : Int) ∧ Own wr w.heap.size (.slice (some ⟨g7, 0, none⟩) 16 c7) (mixTo j (addK k n V) S) ∧ BlB wr gx 5 V ∧ Below w.heap.size w wr) (fun i _ => 16 - (intOf i).toNat)
                    case atStart => exact ⟨0, by omega, rfl, by rw [mixTo_zero]; exact hO9, hM9, hb9⟩
                    case round =>
                      clear hO9 hM9 hb9
                      obtain ⟨j, hj, rfl, hO, hM, hbel⟩ := hrel
                      by_cases hltj : j < 16
                      · obtain ⟨t16, et⟩ : ∃ x, x = 16 * n := ⟨_, rfl⟩
                        obtain ⟨t, et2⟩ : ∃ x, x = t16 + j := ⟨_, rfl⟩
                        have hwa : IntKind.i64.wrap (16 * (n : Int)) = (t16 : Int) := by rw [IntWalk.i64_in _ (by omega)]; omega
                        have hwb : IntKind.i64.wrap ((t16 : Int) + (j : Int)) = (t : Int) := by rw [IntWalk.i64_in _ (by omega)]; omega
                        have i0 : (0 : Int) ≤ (t : Int) ∧ (t : Int) < 176 := by omega
                        have i1 : (0 : Int) ≤ (j : Int) ∧ (j : Int) < 16 := by omega
                        have hml : (mixTo j (addK k n V) S).length = 16 := by rw [mixTo_length _ _ _ (by rw [addK_length, HSl.out]), HSl.out]
                        have c1 := hM.at j (by rw [HVl.out]; exact hltj)
                        have c2 := Hkc.out wr hbel t (by omega)
                        have c3 := hO.at j (by rw [hml]; exact hltj)
                        have hfr := hO.frz j
                        have ht2 : t = 16 * n + j := by omega
                        have Ht2 := Lib.hid ht2; clear ht2
                        clear hml et et2
                        go_wp2
                        refine region_tail 15 (by kernel_rfl) (by kernel_rfl) ?_
                        simp only [List.take_succ_cons, List.take_zero, List.drop_succ_cons, List.drop_zero]
                        repeat still_step
                        refine wpStill_nil ?_
                        go_wp2
                        have hP := hO.put j (bAt V j ^^^ bAt k t)
                        rw [mixTo_set _ _ _ _ (by rw [addK_length, HSl.out]) (by rw [addK_length]; exact hltj) (by unfold addK; rw [tab_get _ _ _ hltj, Ht2.out])] at hP
                        go_roundw
                        case rel => exact ⟨j + 1, hltj, by go_num, hP, Blk.grown (Blk.drew hM) (grownBy_setCell _ _ _) (by simp; exact fun h => h7x h.symm), hbel.drew.grown (grownBy_setCell _ _ _) hbel.size (fun x hx => by cases hx; exact hg7)⟩
                        case measure => simp [intOf]; omega
                      · have e16 : j = 16 := by omega
                        subst e16
                        rw [mixTo_all 16 _ _ (addK_length _ _ _) HSl.out] at hO
                        go_wp2
                        go_roundw
                        case rel => exact ⟨n + 1, by omega, by omega, by go_num, by rw [Hst.out]; exact hO, hbel⟩
                        case measure => simp [intOf]; omega)
        · have e11 : n = 11 := by omega
          subst e11
          go_wp2
          go_ret
          refine ⟨_, rfl, ?_, hbel⟩
          rw [show sealAt k b 10 = S from HS.out.symm]
          exact hO
end Go.Proofs.Ytillnpllcfleeaa
