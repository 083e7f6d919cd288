/- Layer 10, walks: the reference's keys. -/
import Derived.Test.YtillnpllcfleeaaKey3
namespace Go.Proofs.Ytillnpllcfleeaa
open Go Go.RowKit

theorem mixTo_put (k : Nat) (l z : List UInt8) (h : l.length = z.length) (hk : k < l.length) : (mixTo k l z).set k (bAt l k) = mixTo (k + 1) l z := mixTo_set k l z _ h hk (bAt_get _ _ hk)
theorem zero32' : ((Try.prog.info? 32).bind (·.zero)).map (·.cells) = some (b8s (List.replicate 16 0)).toArray := by kernel_rfl

set_option maxRecDepth 100000 in
set_option maxHeartbeats 4000000 in
theorem first_row (A : Option Addr) (l : List UInt8) (c : Nat) (w : World) (hr : RdB w w.heap.size A l) (hl : l.length = 16) :
    Calls Try.prog 161 #[.slice A 16 c, .int .i64 16] w fun e w' => e = .returned (.agg (b8s l).toArray) ∧ Below w.heap.size w w' := by
  have zero32 := zero32'
  obtain ⟨Z, hZ⟩ : ∃ z, z = (b8s (List.replicate 16 0)).toArray := ⟨_, rfl⟩
  have hzZ := zero32
  rw [← hZ] at hzZ
  have HZ := Lib.hid hZ; clear hZ
  have HzZ := Lib.hid hzZ; clear hzZ
  clear zero32
  obtain ⟨b, off, rfl, hb, hc⟩ := hr.all (by omega)
  have cc : ∀ k, k < 16 → ∀ W, Below w.heap.size w W → W.cell? ⟨b, off + k, none⟩ = some (.int .u8 (u8v (bAt l k))) := fun k hk W hW => by
    rw [hW.cell (p := ⟨b, off + k, none⟩) hb, hc k (by omega), bAt_elem l k (by omega)]
  obtain ⟨N, hN⟩ : ∃ z, z = List.replicate 16 (0 : UInt8) := ⟨_, rfl⟩
  have lN : N.length = 16 := by rw [hN]; rfl
  rw [← hN] at HZ
  have Hl := Lib.hid hl; clear hl
  have Hc := Lib.hid hc; clear hc
  have Hcc := Lib.hid cc; clear cc
  have HN := Lib.hid hN; clear hN
  have HlN := Lib.hid lN; clear lN
  go_enter Try.func161, Try.ntmps161
  go_wp2_with (first
    | (refine allocAt 4 rfl rfl 32 rfl Z HzZ.out ?_; intro g4 w4 hg4 hg4' hr4 hb4
       rw [HZ.out] at hr4)
    | (refine allocAt 5 rfl rfl 32 rfl Z HzZ.out ?_; intro g5 w5 hg5 hg5' hr5 hb5
       rw [HZ.out] at hr5
       have x5 := hb4.trans (hb5.mono hb4.size)
       have hr4' := Blk.call hr4 hb5))
  have hg4l := hr4.lt
  go_loopw [6] (fun i wr => ∃ k : Nat, k ≤ 16 ∧ i = .int .i64 k ∧ BlB wr g5 32 (mixTo k l N) ∧ Below w4.heap.size w4 wr) (fun i _ => 16 - (intOf i).toNat)
  case atStart => exact ⟨0, by omega, rfl, by rw [mixTo_zero]; exact hr5, hb5⟩
  case round =>
    obtain ⟨k, hk, rfl, hB, hbel⟩ := hrel
    by_cases hlt : k < 16
    · have c1 := hB.at k (by rw [mixTo_length _ _ _ (by rw [Hl.out, HlN.out]), HlN.out]; exact hlt)
      have f1 := Blk.frozen hB k
      have c2 := Hcc.out k hlt wr (hb4.trans (hbel.mono hb4.size))
      have hset := hB.set k (bAt l k)
      rw [mixTo_put k l N (by rw [Hl.out, HlN.out]) (by rw [Hl.out]; exact hlt)] at hset
      have Hset := Lib.hid hset; clear hset
      go_wp2
      go_roundw
      case rel => exact ⟨k + 1, by omega, by go_num, Hset.out, hbel.setCell (p := ⟨g5, k, none⟩) hg5 _⟩
      case measure => simp [intOf]; omega
    · have e : k = 16 := by omega
      subst e
      rw [mixTo_all 16 l N Hl.out HlN.out] at hB
      have hR := Blk.call hr4 hbel
      go_wp2_with (first
        | (refine ldB rfl 32 (.tmp 5) rfl g5 rfl l hB 16 Try.underlying32 inf32 Hl.out ?_)
        | (refine stB rfl 32 (.tmp 4) (.tmp 24) rfl g4 rfl l rfl _ hR 16 inf32 Hl.out HlN.out ?_; intro w6 hr6 hg6))
      refine bodyPost_ret (retB rfl g4 rfl l hr6 16 Try.underlying32 inf32 Hl.out) rfl ⟨rfl, ?_⟩
      exact (hb4.trans (hbel.mono hb4.size)).grown hg6 (Nat.le_trans hb4.size hbel.size) (fun x hx => by cases hx; exact hg4)

set_option maxRecDepth 100000 in
set_option maxHeartbeats 4000000 in
theorem all_row (A : Option Addr) (l : List UInt8) (c : Nat) (w : World) (hr : RdB w w.heap.size A l) (hl : l.length = 32) :
    Calls Try.prog 162 #[.slice A 32 c] w fun e w' => e = .returned (.agg (b8s l).toArray) ∧ Below w.heap.size w w' := by
  obtain ⟨Z, hZ⟩ : ∃ z, z = (b8s (List.replicate 32 0)).toArray := ⟨_, rfl⟩
  have hzZ := zero25
  rw [← hZ] at hzZ
  have HZ := Lib.hid hZ; clear hZ
  have HzZ := Lib.hid hzZ; clear hzZ
  obtain ⟨b, off, rfl, hb, hc⟩ := hr.all (by omega)
  have cc : ∀ k, k < 32 → ∀ W, Below w.heap.size w W → W.cell? ⟨b, off + k, none⟩ = some (.int .u8 (u8v (bAt l k))) := fun k hk W hW => by
    rw [hW.cell (p := ⟨b, off + k, none⟩) hb, hc k (by omega), bAt_elem l k (by omega)]
  obtain ⟨N, hN⟩ : ∃ z, z = List.replicate 32 (0 : UInt8) := ⟨_, rfl⟩
  have lN : N.length = 32 := by rw [hN]; rfl
  rw [← hN] at HZ
  have Hl := Lib.hid hl; clear hl
  have Hc := Lib.hid hc; clear hc
  have Hcc := Lib.hid cc; clear cc
  have HN := Lib.hid hN; clear hN
  have HlN := Lib.hid lN; clear lN
  go_enter Try.func162, Try.ntmps162
  go_wp2_with (first
    | (refine allocAt 2 rfl rfl 25 rfl Z HzZ.out ?_; intro g4 w4 hg4 hg4' hr4 hb4
       rw [HZ.out] at hr4)
    | (refine allocAt 3 rfl rfl 25 rfl Z HzZ.out ?_; intro g5 w5 hg5 hg5' hr5 hb5
       rw [HZ.out] at hr5
       have x5 := hb4.trans (hb5.mono hb4.size)
       have hr4' := Blk.call hr4 hb5))
  have hg4l := hr4.lt
  go_loopw [4] (fun i wr => ∃ k : Nat, k ≤ 32 ∧ i = .int .i64 k ∧ BlB wr g5 25 (mixTo k l N) ∧ Below w4.heap.size w4 wr) (fun i _ => 32 - (intOf i).toNat)
  case atStart => exact ⟨0, by omega, rfl, by rw [mixTo_zero]; exact hr5, hb5⟩
  case round =>
    obtain ⟨k, hk, rfl, hB, hbel⟩ := hrel
    by_cases hlt : k < 32
    · have c1 := hB.at k (by rw [mixTo_length _ _ _ (by rw [Hl.out, HlN.out]), HlN.out]; exact hlt)
      have f1 := Blk.frozen hB k
      have c2 := Hcc.out k hlt wr (hb4.trans (hbel.mono hb4.size))
      have hset := hB.set k (bAt l k)
      rw [mixTo_put k l N (by rw [Hl.out, HlN.out]) (by rw [Hl.out]; exact hlt)] at hset
      have Hset := Lib.hid hset; clear hset
      go_wp2
      go_roundw
      case rel => exact ⟨k + 1, by omega, by go_num, Hset.out, hbel.setCell (p := ⟨g5, k, none⟩) hg5 _⟩
      case measure => simp [intOf]; omega
    · have e : k = 32 := by omega
      subst e
      rw [mixTo_all 32 l N Hl.out HlN.out] at hB
      have hR := Blk.call hr4 hbel
      go_wp2_with (first
        | (refine ldB rfl 25 (.tmp 3) rfl g5 rfl l hB 32 Try.underlying25 info25 Hl.out ?_)
        | (refine stB rfl 25 (.tmp 2) (.tmp 21) rfl g4 rfl l rfl _ hR 32 info25 Hl.out HlN.out ?_; intro w6 hr6 hg6))
      refine bodyPost_ret (retB rfl g4 rfl l hr6 32 Try.underlying25 info25 Hl.out) rfl ⟨rfl, ?_⟩
      exact (hb4.trans (hbel.mono hb4.size)).grown hg6 (Nat.le_trans hb4.size hbel.size) (fun x hx => by cases hx; exact hg4)

theorem KS.set_iv (K : KS) (h : K.Ok) (k : Nat) (hk : k < 12) (x : UInt8) : K.cells.set (48 + k) (.int .u8 (u8v x)) = ({ K with iv := K.iv.set k x } : KS).cells := by
  unfold KS.cells
  rw [← List.append_assoc, List.set_append_right _ _ (by simp [b8s_length, h.sec, h.key]), List.set_append_left _ _ (by simp [b8s_length, h.sec, h.key, h.iv]; omega), ← List.append_assoc, b8s_put]
  simp [b8s_length, h.sec, h.key]
theorem KS.at_iv (K : KS) (h : K.Ok) (k : Nat) (hk : k < 12) : K.cells[48 + k]? = some (.int .u8 (u8v (bAt K.iv k))) := by
  unfold KS.cells
  rw [← List.append_assoc, List.getElem?_append_right (by simp [b8s_length, h.sec, h.key]), List.getElem?_append_left (by simp [b8s_length, h.sec, h.key, h.iv]; omega), b8s_get]
  have e : 48 + k - (b8s K.sec ++ b8s K.key).length = k := by simp [b8s_length, h.sec, h.key]
  rw [e, bAt_get _ _ (by rw [h.iv]; exact hk)]; rfl

set_option maxRecDepth 100000 in
set_option maxHeartbeats 8000000 in
theorem refof_keys (s : List UInt8) (w : World) (hs : s.length = 32) :
    Calls Try.prog 57 #[.agg (b8s s).toArray] w fun e w' => e = .returned (.agg (keysOf s).cells.toArray) ∧ Below w.heap.size w w' := by
  obtain ⟨Z, hZ⟩ : ∃ z, z = (KS.cells ⟨List.replicate 32 0, List.replicate 16 0, List.replicate 12 0, List.replicate 16 0, 0⟩).toArray := ⟨_, rfl⟩
  have hz := zero54
  rw [← hZ] at hz
  have lz : (KS.cells ⟨List.replicate 32 0, List.replicate 16 0, List.replicate 12 0, List.replicate 16 0, 0⟩).length = 77 := KS.cells_length _ ⟨by simp, by simp, by simp, by simp⟩
  obtain ⟨Z0, hZ0⟩ : ∃ z, z = (KS.cells ⟨List.replicate 32 0, List.replicate 16 0, List.replicate 12 0, List.replicate 16 0, 0⟩) := ⟨_, rfl⟩
  rw [← hZ0] at lz hZ
  obtain ⟨X1, hX1⟩ : ∃ z, z = labelOut s sQuicKey [] 16 := ⟨_, rfl⟩
  obtain ⟨X2, hX2⟩ : ∃ z, z = labelOut s sQuicIv [] 12 := ⟨_, rfl⟩
  obtain ⟨X3, hX3⟩ : ∃ z, z = labelOut s sQuicHp [] 16 := ⟨_, rfl⟩
  have l1 : X1.length = 16 := by rw [hX1]; exact labelOut_length _ _ _ _
  have l2 : X2.length = 12 := by rw [hX2]; exact labelOut_length _ _ _ _
  have l3 : X3.length = 16 := by rw [hX3]; exact labelOut_length _ _ _ _
  have k1 := reflabel_n s sQuicKey hs (by decide) ⟨#[113, 117, 105, 99, 32, 107, 101, 121]⟩ rfl 16 16 rfl (by decide) (by decide)
  have k2 := reflabel_n s sQuicIv hs (by decide) ⟨#[113, 117, 105, 99, 32, 105, 118]⟩ rfl 12 12 rfl (by decide) (by decide)
  have k3 := reflabel_n s sQuicHp hs (by decide) ⟨#[113, 117, 105, 99, 32, 104, 112]⟩ rfl 16 16 rfl (by decide) (by decide)
  rw [← hX1] at k1
  rw [← hX2] at k2
  rw [← hX3] at k3
  have hbd := run_build54_1 s hs
  have o1 : KS.Ok ⟨s, List.replicate 16 0, List.replicate 12 0, List.replicate 16 0, 0⟩ := ⟨hs, by simp, by simp, by simp⟩
  have o2 : KS.Ok ⟨s, X1, List.replicate 12 0, List.replicate 16 0, 0⟩ := ⟨hs, l1, by simp, by simp⟩
  have o3 : KS.Ok ⟨s, X1, List.replicate 12 0, X3, 0⟩ := ⟨hs, l1, by simp, l3⟩
  have p1 := KS.put_key _ o1 X1 l1
  have p2 := KS.put_hp _ o2 X3 l3
  have q1 := KS.cells_length _ o1
  have q2 := KS.cells_length _ o2
  have q3 := KS.cells_length _ o3
  have hK : keysOf s = ⟨s, X1, X2, X3, 0⟩ := by rw [hX1, hX2, hX3]; rfl
  have lK : (KS.mk s X1 X2 X3 0).cells.length = 77 := KS.cells_length _ ⟨hs, l1, l2, l3⟩
  obtain ⟨N, hN⟩ : ∃ z, z = List.replicate 12 (0 : UInt8) := ⟨_, rfl⟩
  have lN : N.length = 12 := by rw [hN]; rfl
  obtain ⟨N6, hN6⟩ : ∃ z, z = List.replicate 16 (0 : UInt8) := ⟨_, rfl⟩
  rw [← hN, ← hN6] at hbd p1 q1
  rw [← hN] at p2 q2 q3
  rw [← hN6] at p2 q2
  have Hs := Lib.hid hs; clear hs
  have HX1 := Lib.hid hX1; clear hX1
  have HX2 := Lib.hid hX2; clear hX2
  have HX3 := Lib.hid hX3; clear hX3
  have Hl1 := Lib.hid l1; clear l1
  have Hl2 := Lib.hid l2; clear l2
  have Hl3 := Lib.hid l3; clear l3
  have Hk1 := Lib.hid k1; clear k1
  have Hk2 := Lib.hid k2; clear k2
  have Hk3 := Lib.hid k3; clear k3
  have HZ := Lib.hid hZ; clear hZ
  have Hz := Lib.hid hz; clear hz
  have HZ0 := Lib.hid hZ0; clear hZ0
  have Hlz := Lib.hid lz; clear lz
  have HK := Lib.hid hK; clear hK
  have Hbd := Lib.hid hbd; clear hbd
  have Hp1 := Lib.hid p1; clear p1
  have Hp2 := Lib.hid p2; clear p2
  have Hq1 := Lib.hid q1; clear q1
  have Hq2 := Lib.hid q2; clear q2
  have Hq3 := Lib.hid q3; clear q3
  have HlK := Lib.hid lK; clear lK
  have HN := Lib.hid hN; clear hN
  have HlN := Lib.hid lN; clear lN
  have HN6 := Lib.hid hN6; clear hN6
  go_enter Try.func57, Try.ntmps57
  go_wp2_with (first
    | (refine box_abs rfl 25 (.tmp 0) rfl (b8s s).toArray rfl ?_; intro g1 w1 hg1 hg1' hr1 hb1)
    | (refine allocAt 2 rfl rfl 54 rfl Z Hz.out ?_; intro g2 w2 hg2 hg2' hr2 hb2
       rw [HZ.out] at hr2
       have x2 := hb1.trans (hb2.mono hb1.size)
       have ha := Blk.call hr1 hb2
       have y2 := Below.refl w2.heap.size w2)
    | (refine build_abs rfl 54 [(0, .tmp 6)] rfl [(0, .agg (b8s s).toArray)] rfl _ Hbd.out ?_)
    | (refine allocAt 3 rfl rfl 54 rfl Z Hz.out ?_; intro g3 w3 hg3 hg3' hr3 hb3
       rw [HZ.out] at hr3
       have ha3 := Blk.call ha hb3)
    | (refine stW rfl 54 (.tmp 3) (.tmp 7) rfl g3 rfl (KS.cells ⟨s, N6, N, N6, 0⟩) rfl _ hr3 77 info54 Hq1.out Hlz.out (KS.cells_one _) ?_; intro w4 hr4 hg4
       have y4 := hb3.grown hg4 hb3.size (fun x hx => by cases hx; exact hg3)
       have ha4 := Blk.call ha y4)
    | (go_at_call 51; refine callsOf (args' := #[.agg (b8s s).toArray, .string ⟨#[113, 117, 105, 99, 32, 107, 101, 121]⟩, .slice none 0 0, .int .i64 16]) (by with_reducible rfl) ?_; refine (Hk1.out _).mono ?_; rintro e w5 ⟨v5, rfl, hO5, hb5⟩
       obtain ⟨g5, c5, rfl, hg5, hg5', hc5, hm5⟩ := hO5.loc (by rw [Hl1.out]; decide)
       rw [Hl1.out] at hO5 ⊢)
    | (go_at_call 161; have _t := hO5; refine (first_row _ X1 _ _ hO5.rd Hl1.out).mono ?_; rintro e w6 ⟨rfl, hb6⟩
       clear hO5
       have y6 := y4.trans ((hb5.trans (hb6.mono hb5.size)).mono y4.size)
       have hr6 : BlV w6 g3 54 _ := Blk.call hr4 (hb5.trans (hb6.mono hb5.size)))
    | (refine stV rfl 32 (.tmp 11) (.tmp 10) rfl g3 32 rfl (b8s X1) rfl 54 _ hr6 16 inf32 (by rw [b8s_length, Hl1.out]) (b8s_one _) (by rw [Hq1.out]; decide) ?_; intro w7 hr7 hg7
       rw [Hp1.out] at hr7
       have y7 := y6.grown hg7 y6.size (fun x hx => by cases hx; exact hg3)
       have ha7 := Blk.call ha y7)
    | (go_at_call 51; refine callsOf (args' := #[.agg (b8s s).toArray, .string ⟨#[113, 117, 105, 99, 32, 104, 112]⟩, .slice none 0 0, .int .i64 16]) (by with_reducible rfl) ?_; refine (Hk3.out _).mono ?_; rintro e w8 ⟨v8, rfl, hO8, hb8⟩
       obtain ⟨g8, c8, rfl, hg8, hg8', hc8, hm8⟩ := hO8.loc (by rw [Hl3.out]; decide)
       rw [Hl3.out] at hO8 ⊢)
    | (go_at_call 161; refine (first_row _ X3 _ _ hO8.rd Hl3.out).mono ?_; rintro e w9 ⟨rfl, hb9⟩
       have y9 := y7.trans ((hb8.trans (hb9.mono hb8.size)).mono y7.size)
       have hr9 : BlV w9 g3 54 _ := Blk.call hr7 (hb8.trans (hb9.mono hb8.size)))
    | (refine stV rfl 32 (.tmp 15) (.tmp 14) rfl g3 60 rfl (b8s X3) rfl 54 _ hr9 16 inf32 (by rw [b8s_length, Hl3.out]) (b8s_one _) (by rw [Hq2.out]; decide) ?_; intro w10 hr10 hg10
       rw [Hp2.out] at hr10
       have y10 := y9.grown hg10 y9.size (fun x hx => by cases hx; exact hg3)
       have ha10 := Blk.call ha y10)
    | (go_at_call 51; refine callsOf (args' := #[.agg (b8s s).toArray, .string ⟨#[113, 117, 105, 99, 32, 105, 118]⟩, .slice none 0 0, .int .i64 12]) (by with_reducible rfl) ?_; refine (Hk2.out _).mono ?_; rintro e w11 ⟨v11, rfl, hO11, hb11⟩
       obtain ⟨g11, c11, rfl, hg11, hg11', hc11, hm11⟩ := hO11.loc (by rw [Hl2.out]; decide)
       rw [Hl2.out] at hO11 ⊢
       have y11 := y10.trans (hb11.mono y10.size)
       have hr11 : BlV w11 g3 54 _ := Blk.call hr10 hb11)
    | (refine ldB rfl 25 (.tmp 1) rfl g1 rfl s ha10 32 Try.underlying25 info25 Hs.out ?_)
    | (refine ldB rfl 25 (.tmp 1) rfl g1 rfl s ha7 32 Try.underlying25 info25 Hs.out ?_)
    | (refine ldB rfl 25 (.tmp 1) rfl g1 rfl s ha4 32 Try.underlying25 info25 Hs.out ?_)
    | (refine ldB rfl 25 (.tmp 1) rfl g1 rfl s ha 32 Try.underlying25 info25 Hs.out ?_))
  have hR11 := Blk.call hr2 y11
  have x11 := x2.trans (y11.mono x2.size)
  have hg3l : g3 < w10.heap.size := hr10.lt
  have hg2l : g2 < w2.heap.size := hr2.lt
  have n23 : g2 ≠ g3 := by omega
  have n113 : g11 ≠ g3 := by omega
  have z01 := hb1.size
  have z12 := hb2.size
  clear ha ha3 ha4 ha7 ha10 hr3 hr4 hr6 hr7 hr9 hO8 hb2 hb3 hb5 hb6 hb8 hb9 hg4 hg7 hg10 y4 y6 y7 y9 y10 y2 hr2 hr1 x2
  have o4 : ∀ k, k ≤ 12 → KS.Ok ⟨s, X1, mixTo k X2 N, X3, 0⟩ := fun k _ => ⟨Hs.out, Hl1.out, by rw [mixTo_length _ _ _ (by rw [Hl2.out, HlN.out]), HlN.out], Hl3.out⟩
  have Ho4 := Lib.hid o4; clear o4
  go_loopw [5] (fun i wr => ∃ k : Nat, k ≤ 12 ∧ i = .int .i64 k ∧ BlV wr g3 54 (KS.cells ⟨s, X1, mixTo k X2 N, X3, 0⟩) ∧ w11.grownBy wr (some g3)) (fun i _ => 12 - (intOf i).toNat)
  case atStart => exact ⟨0, by omega, rfl, by rw [mixTo_zero]; exact hr11, grown_of_below (Below.refl _ _)⟩
  case round =>
    obtain ⟨k, hk, rfl, hB, hbel⟩ := hrel
    by_cases hlt : k < 12
    · have c1 := BlV.at hB (48 + k)
      rw [KS.at_iv _ (Ho4.out k hk) k hlt] at c1
      have f1 := Blk.frozen hB (48 + k)
      have c2 := (hO11.kept hbel (.inr (by intro e; exact n113 (by injection e)))).at k (by rw [Hl2.out]; exact hlt)
      have hset := hB.set (48 + k) (.int .u8 (u8v (bAt X2 k)))
      rw [KS.set_iv _ (Ho4.out k hk) k hlt, mixTo_put k X2 N (by rw [Hl2.out, HlN.out]) (by rw [Hl2.out]; exact hlt)] at hset
      have Hset := Lib.hid hset; clear hset
      go_wp2
      go_roundw
      case rel => exact ⟨k + 1, by omega, by go_num, Hset.out, grownBy_trans hbel (grownBy_setCell wr ⟨g3, 48 + k, none⟩ _)⟩
      case measure => simp [intOf]; omega
    · have e : k = 12 := by omega
      subst e
      rw [mixTo_all 12 X2 N Hl2.out HlN.out] at hB
      have hR := Blk.grown hR11 hbel (fun e => by cases e; exact n23 rfl)
      have qa := BlV.rangeOf hB 0 (KS.cells ⟨s, X1, X2, X3, 0⟩) (by rw [List.drop_zero, List.take_of_length_le (Nat.le_refl _)])
      go_wp2_with (first
        | (refine ldV rfl 54 (.tmp 3) rfl g3 0 rfl (KS.cells ⟨s, X1, X2, X3, 0⟩) qa _ rfl Try.underlying54 77 info54 HlK.out ?_)
        | (refine stW rfl 54 (.tmp 2) (.tmp 29) rfl g2 rfl (KS.cells ⟨s, X1, X2, X3, 0⟩) rfl _ hR 77 info54 HlK.out Hlz.out (KS.cells_one _) ?_; intro w12 hr12 hg12))
      refine bodyPost_ret (retV rfl g2 rfl _ hr12 77 _ rfl Try.underlying54 info54 HlK.out) rfl ⟨by rw [HK.out], ?_⟩
      have xr := x11.grown hbel x11.size (fun x hx => by cases hx; omega)
      exact xr.grown hg12 xr.size (fun x hx => by cases hx; omega)

set_option maxRecDepth 100000 in
set_option maxHeartbeats 8000000 in
theorem refnext_keys (K : KS) (w : World) (hK : K.Ok) :
    Calls Try.prog 59 #[.agg K.cells.toArray] w fun e w' => e = .returned (.agg (keysNext K).cells.toArray) ∧ Below w.heap.size w w' := by
  obtain ⟨Z, hZ⟩ : ∃ z, z = (KS.cells ⟨List.replicate 32 0, List.replicate 16 0, List.replicate 12 0, List.replicate 16 0, 0⟩).toArray := ⟨_, rfl⟩
  have hz := zero54
  rw [← hZ] at hz
  have lz : (KS.cells ⟨List.replicate 32 0, List.replicate 16 0, List.replicate 12 0, List.replicate 16 0, 0⟩).length = 77 := KS.cells_length _ ⟨by simp, by simp, by simp, by simp⟩
  obtain ⟨Z0, hZ0⟩ : ∃ z, z = (KS.cells ⟨List.replicate 32 0, List.replicate 16 0, List.replicate 12 0, List.replicate 16 0, 0⟩) := ⟨_, rfl⟩
  rw [← hZ0] at lz hZ
  obtain ⟨X, hX⟩ : ∃ z, z = labelOut K.sec sQuicKu [] 32 := ⟨_, rfl⟩
  have lX : X.length = 32 := by rw [hX]; exact labelOut_length _ _ _ _
  have k1 := reflabel_n K.sec sQuicKu hK.sec (by decide) ⟨#[113, 117, 105, 99, 32, 107, 117]⟩ rfl 32 32 rfl (by decide) (by decide)
  rw [← hX] at k1
  have k2 := fun W => refof_keys X W lX
  obtain ⟨N, hN⟩ : ∃ z, z = keysOf X := ⟨_, rfl⟩
  have oN : N.Ok := by rw [hN]; exact keysOf_ok X lX
  rw [← hN] at k2
  have o2 : ({ N with hp := K.hp } : KS).Ok := ⟨oN.sec, oN.key, oN.iv, hK.hp⟩
  have e1 := N.put_hp oN K.hp hK.hp
  have e2 := ({ N with hp := K.hp } : KS).set_ph o2 (K.ph + 1)
  have hM : keysNext K = ⟨N.sec, N.key, N.iv, K.hp, K.ph + 1⟩ := by rw [hN, hX]; rfl
  obtain ⟨M, hMe⟩ : ∃ z, z = KS.mk N.sec N.key N.iv K.hp (K.ph + 1) := ⟨_, rfl⟩
  have oM : M.Ok := by rw [hMe]; exact ⟨oN.sec, oN.key, oN.iv, hK.hp⟩
  rw [← hMe] at e2 hM
  have lN := N.cells_length oN
  have lM := M.cells_length oM
  have aph := K.at_ph hK
  have cs := K.cut_sec hK
  have ch := K.cut_hp hK
  have i25 := hK.sec
  have i32 := hK.hp
  have HZ := Lib.hid hZ; clear hZ
  have Hz := Lib.hid hz; clear hz
  have Hlz := Lib.hid lz; clear lz
  have HX := Lib.hid hX; clear hX
  have HlX := Lib.hid lX; clear lX
  have Hk1 := Lib.hid k1; clear k1
  have Hk2 := Lib.hid k2; clear k2
  have He1 := Lib.hid e1; clear e1
  have He2 := Lib.hid e2; clear e2
  have HM := Lib.hid hM; clear hM
  have HMe := Lib.hid hMe; clear hMe
  have HlN := Lib.hid lN; clear lN
  have HlM := Lib.hid lM; clear lM
  have Haph := Lib.hid aph; clear aph
  have Hcs := Lib.hid cs; clear cs
  have Hch := Lib.hid ch; clear ch
  have HZ0 := Lib.hid hZ0; clear hZ0
  have HN := Lib.hid hN; clear hN
  have Hi25 := Lib.hid i25; clear i25
  have Hi32 := Lib.hid i32; clear i32
  go_enter Try.func59, Try.ntmps59
  go_wp2_with (first
    | (refine box_abs rfl 54 (.tmp 0) rfl K.cells.toArray rfl ?_; intro g1 w1 hg1 hg1' hr1 hb1
       have q1 := BlV.rangeOf hr1 0 _ Hcs.out)
    | (refine allocAt 2 rfl rfl 54 rfl Z Hz.out ?_; intro g2 w2 hg2 hg2' hr2 hb2
       rw [HZ.out] at hr2
       have x2 := hb1.trans (hb2.mono hb1.size)
       have q2 := rangeAt_below q1 hb2 hg1')
    | (refine ldV rfl 25 (.tmp 4) rfl g1 0 rfl (b8s K.sec) q2 _ rfl Try.underlying25 32 info25 (by rw [b8s_length, Hi25.out]) ?_)
    | (go_at_call 51; refine (Hk1.out _).mono ?_; rintro e w3 ⟨v3, rfl, hO3, hb3⟩
       obtain ⟨g3, c3, rfl, hg3, hg3', hc3, hm3⟩ := hO3.loc (by rw [HlX.out]; decide)
       rw [HlX.out] at hO3 ⊢)
    | (go_at_call 162; refine (all_row _ X _ _ hO3.rd HlX.out).mono ?_; rintro e w3b ⟨rfl, hb3b⟩
       have y3 := hb3.trans (hb3b.mono hb3.size))
    | (go_at_call 57; refine (Hk2.out _).mono ?_; rintro e w4 ⟨rfl, hb4⟩
       have y4 := y3.trans (hb4.mono y3.size))
    | (refine allocAt 3 rfl rfl 54 rfl Z Hz.out ?_; intro g5 w5 hg5 hg5' hr5 hb5
       rw [HZ.out] at hr5
       have y5 := y4.trans (hb5.mono y4.size))
    | (refine stW rfl 54 (.tmp 3) (.tmp 8) rfl g5 rfl N.cells rfl _ hr5 77 info54 HlN.out Hlz.out (KS.cells_one _) ?_; intro w6 hr6 hg6
       have y6 := y5.grown hg6 y5.size (fun x hx => by cases hx; exact Nat.le_trans y4.size hg5)
       have q6 := rangeAt_below (BlV.rangeOf (Blk.call hr1 hb2) 60 _ Hch.out) y6 (Nat.lt_of_lt_of_le hg1' hb2.size))
    | (refine ldV rfl 32 (.tmp 9) rfl g1 60 rfl (b8s K.hp) q6 _ rfl Try.underlying32 16 inf32 (by rw [b8s_length, Hi32.out]) ?_)
    | (refine stV rfl 32 (.tmp 11) (.tmp 10) rfl g5 60 rfl (b8s K.hp) rfl 54 N.cells hr6 16 inf32 (by rw [b8s_length, Hi32.out]) (b8s_one _) (by rw [HlN.out]; decide) ?_; intro w7 hr7 hg7
       rw [He1.out] at hr7
       have y7 := y6.grown hg7 y6.size (fun x hx => by cases hx; exact Nat.le_trans y4.size hg5)
       have c7 : w7.cell? ⟨g1, 76, none⟩ = some (.int .u64 (u64v K.ph)) := by rw [BlV.at (Blk.call (Blk.call hr1 hb2) y7)]; exact Haph.out
       have f8 := Blk.frozen hr7 76
       have c8 := BlV.at hr7 76
       rw [KS.at_ph _ o2] at c8
       have hset := BlV.set hr7 76 (.int .u64 (u64v (K.ph + 1)))
       rw [He2.out] at hset
       have Hset := Lib.hid hset; clear hset
       have qa := Lib.hid (BlV.rangeOf Hset.out 0 M.cells (by rw [List.drop_zero, List.take_of_length_le (Nat.le_refl _)]))
       have hR8 : Blk (w7.setCell ⟨g5, 76, none⟩ (.int .u64 (u64v (K.ph + 1)))) g2 54 Z0.toArray := Blk.far (Blk.call hr2 y7) (fun e => by have e : g2 = g5 := e; have := hr2.lt; have := y4.size; omega) _)
    | (refine ldV rfl 54 (.tmp 3) rfl g5 0 rfl M.cells qa.out _ rfl Try.underlying54 77 info54 HlM.out ?_)
    | (refine stW rfl 54 (.tmp 2) (.tmp 16) rfl g2 rfl M.cells rfl _ hR8 77 info54 HlM.out Hlz.out (KS.cells_one _) ?_; intro w10 hr10 hg10))
  refine bodyPost_ret (retV rfl g2 rfl _ hr10 77 _ rfl Try.underlying54 info54 HlM.out) rfl ⟨by rw [HM.out], ?_⟩
  have y8 := y7.setCell (p := ⟨g5, 76, none⟩) (Nat.le_trans y4.size hg5) (.int .u64 (u64v (K.ph + 1)))
  have x8 := x2.trans (y8.mono x2.size)
  exact x8.grown hg10 x8.size (fun x hx => by cases hx; exact Nat.le_trans hb1.size hg2)
end Go.Proofs.Ytillnpllcfleeaa
