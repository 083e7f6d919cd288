/- Layer 10, walks: the keys of a secret. -/
import Derived.Test.YtillnpllcfleeaaKey1
namespace Go.Proofs.Ytillnpllcfleeaa
open Go Go.RowKit

theorem label_n (s lab : List UInt8) (hs : s.length = 32) (hl : lab.length ≤ 249) (S : ByteArray) (hS : strOf lab = S) (n : Nat) (z : Int) (hz : z = (n : Int)) (h1 : 1 ≤ n) (h2 : n ≤ 8160) (W : World) :
    Calls Try.prog 50 #[.agg (b8s s).toArray, .string S, .slice none 0 0, .int .i64 z] W fun e w' => ∃ v, e = .returned v ∧ Own w' W.heap.size v (labelOut s lab [] n) ∧ Below W.heap.size W w' := by
  subst hS hz
  exact label_yes s lab [] _ n W hs hl (Sl.nil _ _) (by decide) h1 h2
theorem reflabel_n (s lab : List UInt8) (hs : s.length = 32) (hl : lab.length ≤ 249) (S : ByteArray) (hS : strOf lab = S) (n : Nat) (z : Int) (hz : z = (n : Int)) (h1 : 1 ≤ n) (h2 : n ≤ 8160) (W : World) :
    Calls Try.prog 51 #[.agg (b8s s).toArray, .string S, .slice none 0 0, .int .i64 z] W fun e w' => ∃ v, e = .returned v ∧ Own w' W.heap.size v (labelOut s lab [] n) ∧ Below W.heap.size W w' := by
  subst hS hz
  exact reflabel_yes s lab [] _ n W hs hl (Sl.nil _ _) (by decide) h1 h2

set_option maxRecDepth 100000 in
set_option maxHeartbeats 4000000 in
theorem secret_any (s lab : List UInt8) (S : ByteArray) (w : World) (hs : s.length = 32) (hl : lab.length ≤ 249) (hS : strOf lab = S) :
    Calls Try.prog 160 #[.agg (b8s s).toArray, .string S] w fun e w' => e = .returned (.agg (b8s (labelOut s lab [] 32)).toArray) ∧ Below w.heap.size w w' := by
  obtain ⟨Z, hZ⟩ : ∃ z, z = (b8s (List.replicate 32 0)).toArray := ⟨_, rfl⟩
  have hzZ := zero25
  rw [← hZ] at hzZ
  have HZ := Lib.hid hZ; clear hZ
  have HzZ := Lib.hid hzZ; clear hzZ
  obtain ⟨X, hX⟩ : ∃ z, z = labelOut s lab [] 32 := ⟨_, rfl⟩
  have lX : X.length = 32 := by rw [hX]; exact labelOut_length _ _ _ _
  have k1 := label_n s lab hs hl S hS 32 32 rfl (by decide) (by decide)
  rw [← hX] at k1
  have hpt := fun p c W => run_arrayAt Try.underlying25 p 32 c (by decide) W
  clear hS
  have Hs := Lib.hid hs; clear hs
  have HX := Lib.hid hX; clear hX
  have HlX := Lib.hid lX; clear lX
  have Hk1 := Lib.hid k1; clear k1
  go_enter Try.func160, Try.ntmps160
  go_wp2_with (first
    | (refine box_abs rfl 25 (.tmp 0) rfl (b8s s).toArray rfl ?_; intro g1 w1 hg1 hg1' hr1 hb1)
    | (refine allocAt 4 rfl rfl 25 rfl Z HzZ.out ?_; intro g2 w2 hg2 hg2' hr2 hb2
       rw [HZ.out] at hr2
       have x2 := hb1.trans (hb2.mono hb1.size)
       have hr1' := Blk.call hr1 hb2)
    | (refine ldB rfl 25 (.tmp 2) rfl g1 rfl s hr1' 32 Try.underlying25 info25 Hs.out ?_)
    | (go_at_call 50; refine (Hk1.out _).mono ?_; rintro e w3 ⟨v3, rfl, hS3, hb3⟩
       obtain ⟨b3, o3, c3, rfl, hb3', hc3, hm3, hg3⟩ := hS3.sl.loc (by rw [HlX.out]; decide)
       rw [HlX.out]
       have x3 := x2.trans (hb3.mono x2.size)
       have hr3 := Blk.call hr2 hb3)
    | (refine ldV rfl 25 (.tmp 8) rfl b3 o3 rfl (b8s X) hg3 _ rfl Try.underlying25 32 info25 (by rw [b8s_length, HlX.out]) ?_)
    | (refine stB rfl 25 (.tmp 4) (.tmp 9) rfl g2 rfl X rfl _ hr3 32 info25 HlX.out (by simp) ?_; intro w4 hr4 hg4))
  refine bodyPost_ret (retB rfl g2 rfl X hr4 32 Try.underlying25 info25 HlX.out) rfl ⟨by rw [HX.out], ?_⟩
  exact x3.grown hg4 x3.size (fun x hx => by cases hx; exact Nat.le_trans hb1.size hg2)

theorem salt_any (w : World) : Calls Try.prog 159 #[] w fun e w' => ∃ v, e = .returned v ∧ Own w' w.heap.size v keySalt ∧ Below w.heap.size w w' := by
  go_enter Try.func159, Try.ntmps159
  go_wp2_with (refine lit8 rfl 20 [(0, .const (.int .u8 56)), (1, .const (.int .u8 118)), (2, .const (.int .u8 44)), (3, .const (.int .u8 247)), (4, .const (.int .u8 245)), (5, .const (.int .u8 89)), (6, .const (.int .u8 52)), (7, .const (.int .u8 179)), (8, .const (.int .u8 77)), (9, .const (.int .u8 23)), (10, .const (.int .u8 154)), (11, .const (.int .u8 230)), (12, .const (.int .u8 164)), (13, .const (.int .u8 200)), (14, .const (.int .u8 12)), (15, .const (.int .u8 173)), (16, .const (.int .u8 204)), (17, .const (.int .u8 187)), (18, .const (.int .u8 127)), (19, .const (.int .u8 10))] rfl [56, 118, 44, 247, 245, 89, 52, 179, 77, 23, 154, 230, 164, 200, 12, 173, 204, 187, 127, 10] keySalt rfl rfl rfl (by decide) ?_; intro g1 w1 hg1 hg1' hO1 hb1)
  go_ret
  exact ⟨_, rfl, hO1, hb1⟩

set_option maxRecDepth 100000 in
set_option maxHeartbeats 8000000 in
theorem of_keys (s : List UInt8) (w : World) (hs : s.length = 32) :
    Calls Try.prog 55 #[.agg (b8s s).toArray] w fun e w' => e = .returned (.agg (keysOf s).cells.toArray) ∧ Below w.heap.size w w' := by
  obtain ⟨Z, hZ⟩ : ∃ z, z = (KS.cells ⟨List.replicate 32 0, List.replicate 16 0, List.replicate 12 0, List.replicate 16 0, 0⟩).toArray := ⟨_, rfl⟩
  have hz := zero54
  rw [← hZ] at hz
  obtain ⟨X1, hX1⟩ : ∃ z, z = labelOut s sQuicKey [] 16 := ⟨_, rfl⟩
  obtain ⟨X2, hX2⟩ : ∃ z, z = labelOut s sQuicIv [] 12 := ⟨_, rfl⟩
  obtain ⟨X3, hX3⟩ : ∃ z, z = labelOut s sQuicHp [] 16 := ⟨_, rfl⟩
  have l1 : X1.length = 16 := by rw [hX1]; exact labelOut_length _ _ _ _
  have l2 : X2.length = 12 := by rw [hX2]; exact labelOut_length _ _ _ _
  have l3 : X3.length = 16 := by rw [hX3]; exact labelOut_length _ _ _ _
  have k1 := label_n s sQuicKey hs (by decide) ⟨#[113, 117, 105, 99, 32, 107, 101, 121]⟩ rfl 16 16 rfl (by decide) (by decide)
  have k2 := label_n s sQuicIv hs (by decide) ⟨#[113, 117, 105, 99, 32, 105, 118]⟩ rfl 12 12 rfl (by decide) (by decide)
  have k3 := label_n s sQuicHp hs (by decide) ⟨#[113, 117, 105, 99, 32, 104, 112]⟩ rfl 16 16 rfl (by decide) (by decide)
  rw [← hX1] at k1
  rw [← hX2] at k2
  rw [← hX3] at k3
  have hpt := fun p c W => run_arrayAt Try.underlying32 p 16 c (by decide) W
  have hpt2 := fun p c W => run_arrayAt Try.underlying51 p 12 c (by decide) W
  have hbd := run_build54 s X1 X2 X3 hs l1 l2 l3
  have hK : keysOf s = ⟨s, X1, X2, X3, 0⟩ := by rw [hX1, hX2, hX3]; rfl
  have hok : KS.Ok ⟨s, X1, X2, X3, 0⟩ := ⟨hs, l1, l2, l3⟩
  obtain ⟨K, hKe⟩ : ∃ z, z = KS.mk s X1 X2 X3 0 := ⟨_, rfl⟩
  rw [← hKe] at hbd hK hok
  have Hs := Lib.hid hs; clear hs
  have HX1 := Lib.hid hX1; clear hX1
  have HX2 := Lib.hid hX2; clear hX2
  have HX3 := Lib.hid hX3; clear hX3
  have Hl1 := Lib.hid l1; clear l1
  have Hl2 := Lib.hid l2; clear l2
  have Hl3 := Lib.hid l3; clear l3
  have Hk1 := Lib.hid k1; clear k1
  have Hk2 := Lib.hid k2; clear k2
  have Hk3 := Lib.hid k3; clear k3
  have HZ := Lib.hid hZ; clear hZ
  have Hz := Lib.hid hz; clear hz
  have HK := Lib.hid hK; clear hK
  have HKe := Lib.hid hKe; clear hKe
  have Hbd := Lib.hid hbd; clear hbd
  go_enter Try.func55, Try.ntmps55
  go_wp2_with (first
    | (refine box_abs rfl 25 (.tmp 0) rfl (b8s s).toArray rfl ?_; intro g1 w1 hg1 hg1' hr1 hb1)
    | (refine allocAt 2 rfl rfl 54 rfl Z Hz.out ?_; intro g2 w2 hg2 hg2' hr2 hb2
       rw [HZ.out] at hr2
       have x2 := hb1.trans (hb2.mono hb1.size)
       have hr1' := Blk.call hr1 hb2))
  refine wp_region_og g2 (.q 0 <| .q 1 <| .q 5 <| .q 9 <| .b 2 (.q 3 <| .q 4 <| .b 6 (.q 7 <| .q 8 <| .b 10 (.q 11 <| .q 12 <| .q 13 <| .b 14 (.done) <| .e) <| .e) <| .e) <| .e) (by kernel_rfl) (by kernel_rfl) (by kernel_rfl) ?_
  intro W3 hW3
  have x3 := x2.trans (hW3.mono x2.size)
  have hr3 := Blk.call hr1' hW3
  have hR3 := Blk.call hr2 hW3
  have hn12 : some g1 ≠ some g2 := fun e => by cases e; omega
  have hg1w := hr3.lt
  have hg2w := hR3.lt
  simp only [tw, List.getElem?_cons_succ, List.getElem?_cons_zero]
  iterate 4 (first
    | (refine wpTz_skip (by rfl) ?_; simp only [Act.put, List.setIfInBounds_toArray, List.set_cons_zero, List.set_cons_succ])
    | (refine wpTz_load 25 (.tmp 1) rfl g1 0 rfl (b8s s) _ (by rfl) (fun W hS => BlB.rng (Blk.grown hr3 hS hn12)) Try.underlying25 rfl (info25.trans (congrArg some (by rw [b8s_length, Hs.out]))) ?_; simp only [Act.put, List.setIfInBounds_toArray, List.set_cons_zero, List.set_cons_succ])
    | (refine wpTz_q (v := ?_) (by rfl) (fun W hW => ?_) ?_
       rotate_left
       · (try dsimp only at hW); first | (go_simp; done) | (go_simp; with_reducible rfl)
       simp only [Act.put, List.setIfInBounds_toArray, List.set_cons_zero, List.set_cons_succ]))
  refine wpTz_b (fun KK hKK => ?_) wpTz_e
  go_wp2_with (go_at_call 50; refine callsOf (args' := #[.agg (b8s s).toArray, .string ⟨#[113, 117, 105, 99, 32, 107, 101, 121]⟩, .slice none 0 0, .int .i64 16]) (by with_reducible rfl) ?_; refine (Hk1.out _).mono ?_; rintro e w4 ⟨v4, rfl, hO4, hb4⟩)
  obtain ⟨g4, c4, rfl, hg4, hg4', hc4, hm4⟩ := hO4.loc (by rw [Hl1.out]; decide)
  rw [Hl1.out] at hO4 ⊢
  have q4 := hO4.rng
  refine wpTz_ong hKK (grown_of_below hb4) ?_
  clear hKK KK
  iterate 2 (first
    | (refine wpTz_skip (by rfl) ?_; simp only [Act.put, List.setIfInBounds_toArray, List.set_cons_zero, List.set_cons_succ])
    | (refine wpTz_load 32 (.tmp 6) rfl g4 0 rfl (b8s X1) _ (by rfl) (fun W hS => rangeAt_grown q4 hS hg4' (fun e => by cases e; omega)) Try.underlying32 rfl (inf32.trans (congrArg some (by rw [b8s_length, Hl1.out]))) ?_; simp only [Act.put, List.setIfInBounds_toArray, List.set_cons_zero, List.set_cons_succ])
    | (refine wpTz_q (v := ?_) (by rfl) (fun W hW => ?_) ?_
       rotate_left
       · (try dsimp only at hW); first | (go_simp; done) | (go_simp; with_reducible rfl)
       simp only [Act.put, List.setIfInBounds_toArray, List.set_cons_zero, List.set_cons_succ]))
  refine wpTz_b (fun KK hKK => ?_) wpTz_e
  go_wp2_with (go_at_call 50; refine callsOf (args' := #[.agg (b8s s).toArray, .string ⟨#[113, 117, 105, 99, 32, 105, 118]⟩, .slice none 0 0, .int .i64 12]) (by with_reducible rfl) ?_; refine (Hk2.out _).mono ?_; rintro e w5 ⟨v5, rfl, hO5, hb5⟩)
  obtain ⟨g5, c5, rfl, hg5, hg5', hc5, hm5⟩ := hO5.loc (by rw [Hl2.out]; decide)
  rw [Hl2.out] at hO5 ⊢
  have q5 := hO5.rng
  have z4 := hb4.size
  refine wpTz_ong hKK (grown_of_below hb5) ?_
  clear hKK KK
  iterate 2 (first
    | (refine wpTz_skip (by rfl) ?_; simp only [Act.put, List.setIfInBounds_toArray, List.set_cons_zero, List.set_cons_succ])
    | (refine wpTz_load 51 (.tmp 10) rfl g5 0 rfl (b8s X2) _ (by rfl) (fun W hS => rangeAt_grown q5 hS hg5' (fun e => by cases e; omega)) Try.underlying51 rfl (info51.trans (congrArg some (by rw [b8s_length, Hl2.out]))) ?_; simp only [Act.put, List.setIfInBounds_toArray, List.set_cons_zero, List.set_cons_succ])
    | (refine wpTz_q (v := ?_) (by rfl) (fun W hW => ?_) ?_
       rotate_left
       · (try dsimp only at hW); first | (go_simp; done) | (go_simp; with_reducible rfl)
       simp only [Act.put, List.setIfInBounds_toArray, List.set_cons_zero, List.set_cons_succ]))
  refine wpTz_b (fun KK hKK => ?_) wpTz_e
  go_wp2_with (go_at_call 50; refine callsOf (args' := #[.agg (b8s s).toArray, .string ⟨#[113, 117, 105, 99, 32, 104, 112]⟩, .slice none 0 0, .int .i64 16]) (by with_reducible rfl) ?_; refine (Hk3.out _).mono ?_; rintro e w6 ⟨v6, rfl, hO6, hb6⟩)
  obtain ⟨g6, c6, rfl, hg6, hg6', hc6, hm6⟩ := hO6.loc (by rw [Hl3.out]; decide)
  rw [Hl3.out] at hO6 ⊢
  have q6 := hO6.rng
  have z5 := hb5.size
  have y6 := hb4.trans ((hb5.trans (hb6.mono hb5.size)).mono hb4.size)
  have hR6 := Blk.call hR3 y6
  have x6 := x3.trans (y6.mono x3.size)
  refine wpTz_ong hKK (grown_of_below hb6) ?_
  clear hKK KK
  iterate 2 (first
    | (refine wpTz_skip (by rfl) ?_; simp only [Act.put, List.setIfInBounds_toArray, List.set_cons_zero, List.set_cons_succ])
    | (refine wpTz_load 32 (.tmp 14) rfl g6 0 rfl (b8s X3) _ (by rfl) (fun W hS => rangeAt_grown q6 hS hg6' (fun e => by cases e; omega)) Try.underlying32 rfl (inf32.trans (congrArg some (by rw [b8s_length, Hl3.out]))) ?_; simp only [Act.put, List.setIfInBounds_toArray, List.set_cons_zero, List.set_cons_succ])
    | (refine wpTz_q (v := ?_) (by rfl) (fun W hW => ?_) ?_
       rotate_left
       · (try dsimp only at hW); first | (go_simp; done) | (go_simp; with_reducible rfl)
       simp only [Act.put, List.setIfInBounds_toArray, List.set_cons_zero, List.set_cons_succ]))
  refine wpTz_build (by rfl) 54 [(0, .tmp 3), (1, .tmp 7), (2, .tmp 11), (3, .tmp 15)] rfl [(0, .agg (b8s s).toArray), (1, .agg (b8s X1).toArray), (2, .agg (b8s X2).toArray), (3, .agg (b8s X3).toArray)] rfl _ Hbd.out ?_
  simp only [Act.put, List.setIfInBounds_toArray, List.set_cons_zero, List.set_cons_succ]
  refine wpTz_b (fun KK hKK => ?_) wpTz_e
  go_wp2_with (refine stW (by rfl) 54 (.tmp 2) (.tmp 16) (by rfl) g2 (by rfl) K.cells (by rfl) _ hR6 77 info54 (KS.cells_length _ hok) (KS.cells_length _ ⟨by simp, by simp, by simp, by simp⟩) (KS.cells_one _) ?_; intro w7 hr7 hg7)
  refine wpTz_ong hKK hg7 ?_
  clear hKK KK
  refine wpTz_done ?_
  go_wp2
  refine bodyPost_ret (retV rfl g2 rfl _ hr7 77 _ rfl Try.underlying54 info54 (KS.cells_length _ hok)) rfl ⟨by rw [HK.out], ?_⟩
  exact x6.grown hg7 x6.size (fun x hx => by cases hx; exact Nat.le_trans hb1.size hg2)
end Go.Proofs.Ytillnpllcfleeaa
