/- The reference's side of layer 6: the sum. -/
import Derived.Test.YtillnpllcfleeaaRef06f
import Derived.Test.YtillnpllcfleeaaMk
namespace Go.Proofs.Ytillnpllcfleeaa
open Go Go.RowKit

/-- .. at a world that is drawn on -/
theorem OwnW.len {w : World} {base : Nat} {A : Option Addr} {n c : Nat} {xs : List UInt32} (h : OwnW w base (.slice A n c) xs) : n = xs.length := h.cap.1
theorem rnd_def (s : St) (k w : UInt32) : rnd s k w = ⟨one s k w + two s, s.a, s.b, s.c, s.d + one s k w, s.e, s.f, s.g⟩ := rfl

theorem sub_not (x : UInt32) : 4294967295 - x = 4294967295 ^^^ x := by
  apply UInt32.toBitVec_inj.1
  rw [UInt32.toBitVec_sub, UInt32.toBitVec_xor]
  show BitVec.allOnes 32 - x.toBitVec = BitVec.allOnes 32 ^^^ x.toBitVec
  rw [BitVec.allOnes_sub_eq_not, BitVec.allOnes_xor]
theorem padded_length (m : List UInt8) : (padded m).length = m.length + 9 + noughts m.length := by
  unfold padded tail
  rw [List.length_append, List.length_cons, List.length_append, List.length_replicate, be_length]; omega
theorem padded_mod (m : List UInt8) : (padded m).length % 64 = 0 := by
  rw [padded_length]; unfold noughts; omega
theorem sha_length' (m : List UInt8) : (sha m).length = 32 := outB_length (absorbed (padded m)) 8 (by omega)
theorem ref_firstA (w : World) : Calls Try.prog 137 #[] w fun e w' => ∃ g, e = .returned (.slice (some ⟨g, 0, none⟩) 8 8) ∧ w.heap.size ≤ g ∧ Blk w' g 79 (w32s st0.list).toArray ∧ Below w.heap.size w w' :=
  (ref_first w).mono fun e w' ⟨he, hw⟩ => by subst hw; exact ⟨_, he, Nat.le_refl _, Blk.new _ _ _, (Below.refl _ _).alloc (Nat.le_refl _) _⟩
theorem ref_constantsA (w : World) : Calls Try.prog 138 #[] w fun e w' => ∃ g, e = .returned (.slice (some ⟨g, 0, none⟩) 64 64) ∧ w.heap.size ≤ g ∧ Blk w' g 79 (w32s kons).toArray ∧ Below w.heap.size w w' :=
  (ref_constants w).mono fun e w' ⟨he, hw⟩ => by subst hw; exact ⟨_, he, Nat.le_refl _, Blk.new _ _ _, (Below.refl _ _).alloc (Nat.le_refl _) _⟩

theorem flat_bytes (l : List UInt32) (q r : Nat) (hq : q < l.length) (hr : r < 4) : bAt (l.flatMap wordBytes) (4 * q + r) = bAt (wordBytes (wordAt l q)) r := by
  induction l generalizing q with
  | nil => simp at hq
  | cons x l ih =>
    rw [List.flatMap_cons]
    cases q with
    | zero => rw [Nat.mul_zero, Nat.zero_add, bAt_append_left _ _ _ (by simp [wordBytes]; omega)]; rfl
    | succ q =>
      rw [bAt_append_right _ _ _ (by simp [wordBytes]; omega)]
      have e : 4 * (q + 1) + r - (wordBytes x).length = 4 * q + r := by simp [wordBytes]; omega
      rw [e, ih q (by simpa using hq)]
      rfl
theorem word_byte (x : UInt32) (r : Nat) (hr : r < 4) : (shr x (24 - 8 * r)).toUInt8 = bAt (wordBytes x) r := by
  have h4 : r = 0 ∨ r = 1 ∨ r = 2 ∨ r = 3 := by omega
  have k : ∀ n m : Nat, 2 ^ n = m → m < 4294967296 → shr x n = x / UInt32.ofNat m := by
    intro n m e hm
    apply UInt32.toNat_inj.1
    rw [shr_toNat, UInt32.toNat_div, toNat_UInt32_lit hm, e]
  rcases h4 with rfl | rfl | rfl | rfl
  · rw [k 24 16777216 (by decide) (by decide)]; rfl
  · rw [k 16 65536 (by decide) (by decide)]; rfl
  · rw [k 8 256 (by decide) (by decide)]; rfl
  · rw [k 0 1 (by decide) (by decide)]
    show (x / 1).toUInt8 = x.toUInt8
    congr 1
    apply UInt32.toNat_inj.1
    rw [UInt32.toNat_div]
    exact Nat.div_one _
theorem sha_byte (m : List UInt8) (i : Nat) (h : i < 32) : (shr (wordAt (absorbed (padded m)).list (i / 4)) (24 - 8 * (i % 4))).toUInt8 = bAt (sha m) i := by
  unfold sha
  rw [word_byte _ _ (by omega), ← flat_bytes _ _ _ (by show i / 4 < 8; omega) (by omega)]
  congr 1; omega

set_option maxRecDepth 100000 in
set_option maxHeartbeats 1500000 in
theorem ref_sum (A : Option Addr) (bs : List UInt8) (c : Nat) (w : World) (hb : RdB w w.heap.size A bs) (hn : bs.length ≤ 1099511627776) :
    Calls Try.prog 34 #[.slice A bs.length c] w fun e w' => e = .returned (.agg (b8s (sha bs)).toArray) ∧ Below w.heap.size w w' := by
  obtain ⟨P, hP⟩ : ∃ P, P = padded bs := ⟨_, rfl⟩
  have hPl : P.length ≤ 2199023255552 := by rw [hP, padded_length]; unfold noughts; omega
  have hPm : P.length % 64 = 0 := by rw [hP]; exact padded_mod bs
  have HP := Lib.hid hP; clear hP
  have HPm := Lib.hid hPm; clear hPm
  go_enter Try.func34, Try.ntmps34
  obtain ⟨Z, hZ⟩ : ∃ Z, Z = (b8s (List.replicate 32 0)).toArray := ⟨_, rfl⟩
  have hz25 : ((Try.prog.info? 25).bind (·.zero)).map (·.cells) = some Z := by rw [hZ]; kernel_rfl
  have HZ := Lib.hid hZ; clear hZ
  have Hz25 := Lib.hid hz25; clear hz25
  go_wp2_with (first
    | (refine alloc_abs rfl 25 rfl Z Hz25.out ?_; intro r w0 hr1 hr2 hr hb0
       have hbw0 : Below w.heap.size w w0 := hb0)
    | (go_at_call 137; refine (ref_firstA _).mono ?_; rintro e w1 ⟨gh, rfl, hgh, hh, hb1⟩
       have hbw1 := hbw0.trans (hb1.mono hbw0.size)
       have hrA := hr.call hb1)
    | (go_at_call 138; refine (ref_constantsA _).mono ?_; rintro e w2 ⟨gk, rfl, hgk, hk, hb2⟩
       have hbw2 := hbw1.trans (hb2.mono hbw1.size)
       have hrB := hrA.call hb2
       have hhB := hh.call hb2)
    | (go_at_call 139; refine (ref_blocks A bs c _ ((hb.below hbw2 (Nat.le_refl _)).more hbw2.size) hn).mono ?_; rintro e w3 ⟨v5, rfl, ho, hb3⟩
       have hbw3 := hbw2.trans (hb3.mono hbw2.size)
       have hrC := hrB.call hb3
       have hhC := hhB.call hb3
       have hkC := hk.call hb3
       rw [← HP.out] at ho
       have hrl := hr.lt
       have hhl := hh.lt
       have hkl := hk.lt
       have hz1 := hb1.size
       have hz2 := hb2.size
       have hz3 := hb3.size
       clear hb0 hbw0 hb1 hbw1 hb2 hbw2 hb3 hr hrA hrB hh hhB hk))
  obtain ⟨A5, c5, rfl, hc5, hm5, hrd5⟩ := ho.form
  go_loopw [6] (fun i wr => ∃ j : Nat, 64 * j ≤ P.length ∧ i = .int .i64 ((64 * j : Nat) : Int) ∧ Blk wr gh 79 (w32s (bt st0 P j).list).toArray ∧ w3.grownBy wr (some gh)) (fun i _ => P.length - (intOf i).toNat)
  case atStart => exact ⟨0, by omega, rfl, hhC, grown_of_below (Below.refl _ _)⟩
  case round =>
    obtain ⟨j, hj, rfl, hh, hgr⟩ := hrel
    have hP := ho.kept hgr (.inr (ho.ne hhC (by decide)))
    have hkA := hkC.grown hgr (by simp; omega)
    have hz4 := hgr.size
    by_cases hlt : 64 * j < P.length
    · have hlt2 : 64 * (j + 1) ≤ P.length := by have := HPm.out; omega
      have hblk : RdB wr wr.heap.size (cutA A5 1 (64 * j) c5) (blk P j) := (hP.rd).cutlh (by omega) hc5
      have hbl := blk_length P j hlt2
      obtain ⟨S, hS⟩ : ∃ S, S = bt st0 P j := ⟨_, rfl⟩
      obtain ⟨b, hbk⟩ : ∃ b, b = blk P j := ⟨_, rfl⟩
      rw [← hS] at hh
      rw [← hbk] at hblk hbl
      have HS := Lib.hid hS; clear hS
      have Hbk := Lib.hid hbk; clear hbk
      have Hbl := Lib.hid hbl; clear hbl
      obtain ⟨wa, rfl⟩ : ∃ wa : World, wa = wr := ⟨_, rfl⟩
      go_wp2_with (first
        | (go_at_call 140; refine (ref_words _ b _ _ hblk Hbl.out).mono ?_; rintro e w4 ⟨v7, rfl, hw, hb4⟩
           have hhD := hh.call hb4
           have hkD := hkA.call hb4
           obtain ⟨g7, c7, rfl, hg7, hg7', hc7, hm7⟩ := hw.loc (by rw [sched_length]; omega)
           have hz5 := hb4.size)
        | (refine mkW0 rfl rfl ?_; intro g8 w5 hg8 hg8' hv0 hb5
           have hhE := hhD.call hb5
           have hkE := hkD.call hb5
           have hwE := hw.below hb5 (Nat.le_refl _)
           have hz6 := hb5.size)
        | (at_builtin; refine appW rfl (.tmp 33) (.tmp 34) rfl w4.heap.size _ [] rfl hv0 w5.heap.size _ 8 8 S.list rfl (RdW.arr hhE) rfl (by show 0 + 8 ≤ 17592186044416; omega) hz6 ?_; intro v8 w6 hv hg6 hat6
           have hb6 : Below w4.heap.size w5 w6 := below_of_grown hg6 hz6 (fun x hx => (hv0.lt x hx).1)
           have hz7 := hb6.size
           have hhF := hhE.below hb6 (by omega)
           have hkF := hkE.below hb6 (by omega)
           have hwF := hwE.kept hg6 (.inr (by show some g7 ≠ some g8; intro h; cases h; omega))
           clear hat6))
      have hbq : Below w4.heap.size w4 w6 := hb5.trans hb6
      have hwl := hw.len
      rw [sched_length] at hwl
      obtain ⟨Wd, hWd⟩ : ∃ Wd, Wd = sched b 48 := ⟨_, rfl⟩
      rw [← hWd] at hw
      have hWl : Wd.length = 64 := by rw [hWd, sched_length]
      rw [show (sched b 48).length = 64 from sched_length b 48]
      rw [hWl] at hw
      have HWd := Lib.hid hWd; clear hWd hwl
      rw [List.nil_append] at hv
      clear hb5 hb6 hhE hhF hkE hkF hwE hwF hv0 hg6 hz6 hz7 hkA hblk
      go_loopw [8, 9] (fun v8 i wr => ∃ t : Nat, t ≤ 64 ∧ i = .int .i64 t ∧ OwnW wr w4.heap.size v8 (rnds Wd S t).list ∧ Below w4.heap.size w4 wr) (fun _ i _ => 64 - (intOf i).toNat)
      case atStart => exact ⟨0, by omega, rfl, hv, hbq⟩
      case round =>
        clear hv hbq
        obtain ⟨t, ht, rfl, hv, hbq⟩ := hrel
        have hk := hkD.below hbq hkD.lt
        have hW := hw.below hbq (Nat.le_refl _)
        obtain ⟨V, hV⟩ : ∃ V, V = rnds Wd S t := ⟨_, rfl⟩
        rw [← hV] at hv
        have HV := Lib.hid hV; clear hV
        obtain ⟨g8, c8, rfl, hg8, hg8', hc8, hm8⟩ := hv.loc (by show 0 < 8; omega)
        have hc8' : 8 ≤ c8 := hc8
        clear hc8
        rw [show V.list.length = 8 from rfl] at hv ⊢
        by_cases hlt3 : t < 64
        · have v0 : wr.cell? ⟨g8, 0, none⟩ = some (.int .u32 (u32v V.a)) := hv.at 0 (by show 0 < 8; omega)
          have v1 : wr.cell? ⟨g8, 1, none⟩ = some (.int .u32 (u32v V.b)) := hv.at 1 (by show 1 < 8; omega)
          have v2 : wr.cell? ⟨g8, 2, none⟩ = some (.int .u32 (u32v V.c)) := hv.at 2 (by show 2 < 8; omega)
          have v4 : wr.cell? ⟨g8, 4, none⟩ = some (.int .u32 (u32v V.e)) := hv.at 4 (by show 4 < 8; omega)
          have v5 : wr.cell? ⟨g8, 5, none⟩ = some (.int .u32 (u32v V.f)) := hv.at 5 (by show 5 < 8; omega)
          have v6 : wr.cell? ⟨g8, 6, none⟩ = some (.int .u32 (u32v V.g)) := hv.at 6 (by show 6 < 8; omega)
          have v7 : wr.cell? ⟨g8, 7, none⟩ = some (.int .u32 (u32v V.h)) := hv.at 7 (by show 7 < 8; omega)
          have kt : wr.cell? ⟨gk, t, none⟩ = some (.int .u32 (u32v (wordAt kons t))) := by rw [hk.cell, w32s_hit _ _ hlt3]
          have wt : wr.cell? ⟨g7, t, none⟩ = some (.int .u32 (u32v (wordAt Wd t))) := hW.at t (by rw [hWl]; exact hlt3)
          have HWl := Lib.hid hWl; clear hWl
          have j0 : (0 : Int) ≤ (t : Int) ∧ (t : Int) < 64 := by omega
          go_wp2
          go_quiet (fail)
          go_wp2
          go_quiet (fail)
          go_wp2
          go_quiet ((go_at_call 141; exact quiet_add_same (turnI _ _ _ (by omega))))
          go_wp2
          go_quiet ((go_at_call 141; exact quiet_add_same (turnI _ _ _ (by omega))))
          obtain ⟨x1, hx1⟩ : ∃ x, x = one V (wordAt kons t) (wordAt Wd t) := ⟨_, rfl⟩
          obtain ⟨x2, hx2⟩ : ∃ x, x = two V := ⟨_, rfl⟩
          have e1 : V.h + (rotr V.e 6 ^^^ rotr V.e 11 ^^^ rotr V.e 25) + (V.e &&& V.f ^^^ 4294967295 - V.e &&& V.g) + wordAt kons t + wordAt Wd t = x1 := by rw [hx1, sub_not]; rfl
          have e2 : (rotr V.a 2 ^^^ rotr V.a 13 ^^^ rotr V.a 22) + (V.a &&& V.b ^^^ V.a &&& V.c ^^^ V.b &&& V.c) = x2 := by rw [hx2]; rfl
          simp only [e1, e2]
          clear e1 e2
          have Hx1 := Lib.hid hx1; clear hx1
          have Hx2 := Lib.hid hx2; clear hx2
          have h7 : (7 : Int) ≤ (c8 : Int) := by omega
          obtain ⟨T7, hT7⟩ : ∃ T, T = V.list.take 7 := ⟨_, rfl⟩
          have hT7l : T7.length = 7 := by rw [hT7]; rfl
          have HT7 := Lib.hid hT7; clear hT7
          have HT7l := Lib.hid hT7l; clear hT7l
          go_wp2_with (first
            | (refine mkW1 rfl (.tmp 127) rfl _ (x1 + x2) rfl rfl ?_; intro ga w7 hga hga' hv1 hb7
               have hb7' := below_undrewN hb7
               have hz7 : wr.heap.size ≤ w7.heap.size := hb7'.size
               have hR7 : RdW w7 w7.heap.size (some ⟨g8, 0, none⟩) T7 := by
                 rw [HT7.out]; exact (hv.below hb7' (Nat.le_refl _)).rd.cuth (by show 7 ≤ 8; omega)
               have hv1' : OwnW w7 w4.heap.size (.slice (some ⟨ga, 0, none⟩) 1 1) [x1 + x2] := hv1.wk hbq.size
               have hz7' : w4.heap.size ≤ w7.heap.size := Nat.le_trans hbq.size hz7
               clear hb7 hv1)
            | (at_builtin; refine appW rfl (.tmp 128) (.tmp 130) rfl w4.heap.size _ [x1 + x2] rfl hv1' w7.heap.size _ 7 c8 T7 rfl hR7 HT7l.out.symm (by rw [HT7l.out]; simp) hz7' ?_; intro v9 w8 hv9 hg8x hat8
               rw [HT7.out] at hv9
               obtain ⟨g9, c9, rfl, hg9, hg9', hc9, hm9⟩ := hv9.loc (by show 0 < 8; omega)
               have hl9 : ([x1 + x2] ++ V.list.take 7).length = 8 := rfl
               have f4 := hv9.frz 4
               have d4 : w8.cell? ⟨g9, 4, none⟩ = some (.int .u32 (u32v V.d)) := hv9.at 4 (by show 4 < 8; omega)
               have hb8 : Below w4.heap.size w7 w8 := below_of_grown hg8x hz7' (fun x hx => (hv1'.lt x hx).1)
               rw [hl9] at hv9 ⊢
               clear hl9 hg8x hat8))
          go_roundw
          case rel =>
            refine ⟨t + 1, by omega, by go_num, ?_, (((hbq.trans (hb7'.mono hbq.size)).trans hb8).setCell (p := ⟨g9, 4, none⟩) hg9 _)⟩
            have h := hv9.put 4 (V.d + x1)
            have e : (rnds Wd S (t + 1)).list = ([x1 + x2] ++ V.list.take 7).set 4 (V.d + x1) := by
              rw [rnds, ← HV.out, rnd_def, ← Hx1.out, ← Hx2.out]; rfl
            rw [e]
            exact h
          case measure => simp [intOf]; omega
        · have e64 : t = 64 := by omega
          subst e64
          have hh9 := hhD.below hbq hhD.lt
          have hgr9 : w3.grownBy wr (some gh) := grownBy_trans hgr (grown_of_below (hb4.trans (hbq.mono hz5)))
          have hz9 := hbq.size
          have hghl := hh9.lt
          have hgne : g8 ≠ gh := by have := hhD.lt; omega
          obtain ⟨w9, rfl⟩ : ∃ w9 : World, w9 = wr := ⟨_, rfl⟩
          have hlV : V.list.length = 8 := rfl
          have hlS : S.list.length = 8 := rfl
          have HlV := Lib.hid hlV; clear hlV
          have HlS := Lib.hid hlS; clear hlS
          clear hk hW hWl hw hc7 hm7 ht hlt3 hhD hkD hb4 hbq hh hP hm8 hc8' hg7 hg7'
          go_wp2
          simp only [Int.cast_ofNat_Int]
          go_loopw [14] (fun i wr => ∃ t : Nat, t ≤ 8 ∧ i = .int .i64 t ∧ Blk wr gh 79 (w32s (addTo t S.list V.list)).toArray ∧ w9.grownBy wr (some gh)) (fun i _ => 8 - (intOf i).toNat)
          case atStart => exact ⟨0, by omega, rfl, by rw [addTo_zero]; exact hh9, grown_of_below (Below.refl _ _)⟩
          case round =>
            clear hh9
            obtain ⟨t, ht, rfl, hG, hg9⟩ := hrel
            have hv9 := hv.kept hg9 (.inr (by intro h; cases h; exact hgne rfl))
            by_cases hlt4 : t < 8
            · have cG : wr.cell? ⟨gh, t, none⟩ = some (.int .u32 (u32v (wordAt S.list t))) := by
                rw [hG.cell, w32s_hit _ _ (by rw [addTo_length _ _ _ (by rw [HlS.out]; omega) (by rw [HlS.out, HlV.out]), HlS.out]; omega), addTo_at _ _ _ (by rw [HlS.out]; omega) (by rw [HlS.out, HlV.out])]
              have cV : wr.cell? ⟨g8, t, none⟩ = some (.int .u32 (u32v (wordAt V.list t))) := hv9.at t (by rw [HlV.out]; omega)
              have fG := hG.frozen t
              go_wp2
              go_region
              all_goals go_wp2
              go_roundw
              case rel =>
                refine ⟨t + 1, by omega, by go_num, ?_, grownBy_set (grownBy_drew hg9) _ _⟩
                have h := (hG.set t (.int .u32 (u32v (wordAt S.list t + wordAt V.list t))))
                rw [w32s_set, addTo_set _ _ _ (by rw [HlS.out]; omega) (by rw [HlS.out, HlV.out])] at h
                exact h
              case measure => simp [intOf]; omega
            · have e8 : t = 8 := by omega
              subst e8
              go_wp2
              go_roundw
              case rel =>
                refine ⟨j + 1, hlt2, by go_num, ?_, grownBy_trans hgr9 hg9⟩
                have e : bt st0 P (j + 1) = S.add V := by rw [bt, ← HS.out, ← Hbk.out, taken, ← HWd.out, ← HV.out]
                rw [e, ← addTo_all]
                exact hG
              case measure => simp [intOf]; omega
    · have ej : 64 * j = P.length := by omega
      have hz9 := hgr.size
      have hrD := hrC.grown hgr (by simp; omega)
      have hbW : Below w.heap.size w wr := hbw3.grown hgr hbw3.size (fun x hx => by cases hx; omega)
      obtain ⟨F, hF⟩ : ∃ F, F = bt st0 P j := ⟨_, rfl⟩
      rw [← hF] at hh
      have hFa : F = absorbed (padded bs) := by
        rw [hF, ← HP.out]; unfold absorbed; rw [← ej, Nat.mul_div_cancel_left _ (by decide : 0 < 64)]; rfl
      have HF := Lib.hid hFa; clear hFa hF
      have Hej := Lib.hid ej; clear ej
      clear hhC hkC hgr hkA ho hP
      obtain ⟨w9, rfl⟩ : ∃ w9 : World, w9 = wr := ⟨_, rfl⟩
      go_wp2_with (refine alloc_abs rfl 25 rfl Z Hz25.out ?_; intro g10 wA hg10 hg10' hO hbA)
      have hhA := hh.call hbA
      have hrA := hrD.call hbA
      have hbwA := hbW.trans (hbA.mono hbW.size)
      have hbW' := hbW.size
      rw [HZ.out] at hO
      clear hh hrD hbW
      go_loopw [16] (fun i wr => ∃ t : Nat, t ≤ 32 ∧ i = .int .i64 t ∧ BlB wr g10 25 (mixTo t (sha bs) (List.replicate 32 0)) ∧ wA.grownBy wr (some g10)) (fun i _ => 32 - (intOf i).toNat)
      case atStart => exact ⟨0, by omega, rfl, by rw [mixTo_zero]; exact hO, grown_of_below (Below.refl _ _)⟩
      case round =>
        clear hO
        obtain ⟨t, ht, rfl, hO, hgA⟩ := hrel
        have hhR := hhA.grown hgA (by have := hhA.lt; simp; omega)
        by_cases hlt4 : t < 32
        · have hix : wr.cell? ⟨gh, t / 4, none⟩ = some (.int .u32 (u32v (wordAt F.list (t / 4)))) := by rw [hhR.cell, w32s_hit _ _ (by show t / 4 < 8; omega)]
          have hsb := sha_byte bs t hlt4
          rw [← HF.out] at hsb
          have hol : (mixTo t (sha bs) (List.replicate 32 0)).length = 32 := by rw [mixTo_length _ _ _ (by rw [sha_length']; simp)]; simp
          have hcO := hO.at t (by rw [hol]; exact hlt4)
          have hfO := Blk.frozen hO t
          have Hsb := Lib.hid hsb; clear hsb
          have Hol := Lib.hid hol; clear hol
          generalize hX : wordAt F.list (t / 4) = X at *
          have HX := Lib.hid hX; clear hX
          go_wp2_with (go_at_call 142; refine (shiftI X (24 - 8 * ((t % 4 : Nat) : Int)) _ (by omega)).mono ?_; rintro e w' ⟨rfl, rfl⟩)
          go_roundw
          case rel =>
            have e24 : (24 - 8 * ((t % 4 : Nat) : Int)).toNat = 24 - 8 * (t % 4) := by omega
            refine ⟨t + 1, by omega, by go_num, ?_, ?_⟩
            · have h := hO.set t (bAt (sha bs) t)
              rw [mixTo_set t (sha bs) (List.replicate 32 0) _ (by rw [sha_length']; simp) (by rw [sha_length']; omega) (bAt_get _ _ (by rw [sha_length']; omega)), ← Hsb.out] at h
              exact h
            · exact grownBy_set hgA _ _
          case measure => simp [intOf]; omega
        · have e32 : t = 32 := by omega
          subst e32
          rw [mixTo_all 32 _ _ (sha_length' bs) (by simp)] at hO
          have hrR := hrA.grown hgA (by simp; omega)
          have hbR := hbwA.grown hgA hbwA.size (fun x hx => by cases hx; have := hbW'; omega)
          have hll := sha_length' bs
          have Hll := Lib.hid hll; clear hll
          generalize hD : sha bs = D at *
          have HD := Lib.hid hD; clear hD
          rw [HZ.out] at hrR
          go_wp2_with (first
            | (refine ldB rfl 25 (.tmp 15) rfl g10 rfl D hO 32 Try.underlying25 info25 Hll.out ?_)
            | (refine stB rfl 25 (.tmp 2) (.tmp 172) rfl r rfl D rfl _ hrR 32 info25 Hll.out (by simp) ?_; intro w7 hres hg7))
          refine bodyPost_ret (retB rfl r rfl D hres 32 Try.underlying25 info25 Hll.out) rfl ⟨by rw [HD.out], ?_⟩
          exact hbR.grown hg7 hbR.size (fun x hx => by cases hx; exact hr1)
end Go.Proofs.Ytillnpllcfleeaa
