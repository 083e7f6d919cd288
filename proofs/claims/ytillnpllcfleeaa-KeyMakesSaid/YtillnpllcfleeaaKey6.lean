/- Law 10: what is known by examples. -/
import Derived.Test.YtillnpllcfleeaaKey5
namespace Go.Proofs.Ytillnpllcfleeaa
open Go Go.RowKit

def kCid : List UInt8 := [131, 148, 200, 240, 62, 81, 87, 8]
theorem kC1 : (firstClient kCid).key = [31, 54, 150, 19, 221, 118, 213, 70, 119, 48, 239, 203, 227, 177, 162, 45] := by decide +kernel
theorem kC2 : (firstClient kCid).iv = [250, 4, 75, 47, 66, 163, 253, 59, 70, 251, 37, 92] := by decide +kernel
theorem kC3 : (firstClient kCid).hp = [159, 80, 68, 158, 4, 160, 232, 16, 40, 58, 30, 153, 51, 173, 237, 210] := by decide +kernel
theorem kS1 : (firstServer kCid).key = [207, 58, 83, 49, 101, 60, 54, 76, 136, 240, 243, 121, 182, 6, 126, 55] := by decide +kernel
theorem kS2 : (firstServer kCid).iv = [10, 193, 73, 60, 161, 144, 88, 83, 176, 187, 160, 62] := by decide +kernel
theorem kS3 : (firstServer kCid).hp = [194, 6, 184, 217, 185, 240, 243, 118, 68, 67, 11, 73, 14, 234, 163, 20] := by decide +kernel
theorem firstClient_ok (cid : List UInt8) : (firstClient cid).Ok := keysOf_ok _ (labelOut_length _ _ _ _)
theorem firstServer_ok (cid : List UInt8) : (firstServer cid).Ok := keysOf_ok _ (labelOut_length _ _ _ _)
theorem RdB.ofRange {w : World} {b off : Nat} {l : List UInt8} (hr : w.rangeAt b off (b8s l)) (hb : b < w.heap.size) : RdB w w.heap.size (some ⟨b, off, none⟩) l :=
  ⟨by rw [b8s_length, Nat.mul_one], fun _ => ⟨b, off, rfl, hb, hr⟩⟩

set_option maxRecDepth 100000 in
set_option maxHeartbeats 8000000 in
theorem known10 (w : World) : Calls Try.prog 52 #[] w fun e w' => e = .returned (.bool true) ∧ Below w.heap.size w w' := by
  obtain ⟨Z, hZ⟩ : ∃ z, z = (KS.cells ⟨List.replicate 32 0, List.replicate 16 0, List.replicate 12 0, List.replicate 16 0, 0⟩).toArray := ⟨_, rfl⟩
  have hz := zero54
  rw [← hZ] at hz
  have lz : (KS.cells ⟨List.replicate 32 0, List.replicate 16 0, List.replicate 12 0, List.replicate 16 0, 0⟩).length = 77 := KS.cells_length _ ⟨by simp, by simp, by simp, by simp⟩
  obtain ⟨Z0, hZ0⟩ : ∃ z, z = (KS.cells ⟨List.replicate 32 0, List.replicate 16 0, List.replicate 12 0, List.replicate 16 0, 0⟩) := ⟨_, rfl⟩
  rw [← hZ0] at lz hZ
  have kk := fun (u : Value) (W : World) (h : Sl W W.heap.size u kCid) => initial_keys u kCid W h (by decide)
  have oC := firstClient_ok kCid
  have oD := firstServer_ok kCid
  have c1 := kC1
  have c2 := kC2
  have c3 := kC3
  have d1 := kS1
  have d2 := kS2
  have d3 := kS3
  obtain ⟨C, hC⟩ : ∃ z, z = firstClient kCid := ⟨_, rfl⟩
  obtain ⟨D, hD⟩ : ∃ z, z = firstServer kCid := ⟨_, rfl⟩
  rw [← hC] at oC c1 c2 c3
  rw [← hD] at oD d1 d2 d3
  rw [← hC, ← hD] at kk
  have lC := C.cells_length oC
  have lD := D.cells_length oD
  have a1 := C.cut_key oC
  have a2 := C.cut_iv oC
  have a3 := C.cut_hp oC
  have b1 := D.cut_key oD
  have b2 := D.cut_iv oD
  have b3 := D.cut_hp oD
  have HZ := Lib.hid hZ; clear hZ
  have Hz := Lib.hid hz; clear hz
  have HZ0 := Lib.hid hZ0; clear hZ0
  have Hlz := Lib.hid lz; clear lz
  have Hkk := Lib.hid kk; clear kk
  have HC := Lib.hid hC; clear hC
  have HD := Lib.hid hD; clear hD
  have HlC := Lib.hid lC; clear lC
  have HlD := Lib.hid lD; clear lD
  have Ha1 := Lib.hid a1; clear a1
  have Ha2 := Lib.hid a2; clear a2
  have Ha3 := Lib.hid a3; clear a3
  have Hb1 := Lib.hid b1; clear b1
  have Hb2 := Lib.hid b2; clear b2
  have Hb3 := Lib.hid b3; clear b3
  have Hc1 := Lib.hid c1; clear c1
  have Hc2 := Lib.hid c2; clear c2
  have Hc3 := Lib.hid c3; clear c3
  have Hd1 := Lib.hid d1; clear d1
  have Hd2 := Lib.hid d2; clear d2
  have Hd3 := Lib.hid d3; clear d3
  go_enter Try.func52, Try.ntmps52
  go_wp2_with (first
    | (refine lit8 rfl 8 [(0, .const (.int .u8 131)), (1, .const (.int .u8 148)), (2, .const (.int .u8 200)), (3, .const (.int .u8 240)), (4, .const (.int .u8 62)), (5, .const (.int .u8 81)), (6, .const (.int .u8 87)), (7, .const (.int .u8 8))] rfl [131, 148, 200, 240, 62, 81, 87, 8] kCid rfl rfl rfl (by decide) ?_; intro g1 w1 hg1 hg1' hO1 hb1)
    | (go_at_call 56; refine (Hkk.out _ _ hO1.sl).mono ?_; rintro e w2 ⟨rfl, hb2⟩
       have x2 := hb1.trans (hb2.mono hb1.size))
    | (refine allocAt 1 rfl rfl 54 rfl Z Hz.out ?_; intro g3 w3 hg3 hg3' hr3 hb3
       rw [HZ.out] at hr3
       have x3 := x2.trans (hb3.mono x2.size))
    | (refine allocAt 2 rfl rfl 54 rfl Z Hz.out ?_; intro g4 w4 hg4 hg4' hr4 hb4
       rw [HZ.out] at hr4
       have hr3' := Blk.call hr3 hb4
       have n34 : g3 ≠ g4 := by omega
       have x4 := x3.trans (hb4.mono x3.size))
    | (refine stW rfl 54 (.tmp 1) (.tmp 6) rfl g3 rfl C.cells rfl _ hr3' 77 info54 HlC.out Hlz.out (KS.cells_one _) ?_; intro w5 hr5 hg5
       have hr4' := Blk.grown hr4 hg5 (fun e => by cases e; exact n34 rfl)
       have x5 := x4.grown hg5 x4.size (fun x hx => by cases hx; exact Nat.le_trans x2.size hg3))
    | (refine stW rfl 54 (.tmp 2) (.tmp 7) rfl g4 rfl D.cells rfl _ hr4' 77 info54 HlD.out Hlz.out (KS.cells_one _) ?_; intro w6 hr6 hg6
       have hr5' : BlV w6 g3 54 C.cells := Blk.grown hr5 hg6 (fun e => by cases e; exact n34 rfl)
       have x6 := x5.grown hg6 x5.size (fun x hx => by cases hx; exact Nat.le_trans x3.size hg4)
       have s1 := fun W => cutP_all Try.underlying32 W g3 32
       have s2 := fun W => cutP_all Try.underlying51 W g3 48
       have s3 := fun W => cutP_all Try.underlying32 W g3 60
       have s4 := fun W => cutP_all Try.underlying32 W g4 32
       have s5 := fun W => cutP_all Try.underlying51 W g4 48
       have s6 := fun W => cutP_all Try.underlying32 W g4 60
       have t1 := to_str (RdB.ofRange (BlV.rangeOf hr5' 32 _ Ha1.out) hr5'.lt) 16 16 oC.key.symm _ (congrArg strOf Hc1.out)
       have t2 := to_str (RdB.ofRange (BlV.rangeOf hr5' 48 _ Ha2.out) hr5'.lt) 12 12 oC.iv.symm _ (congrArg strOf Hc2.out)
       have t3 := to_str (RdB.ofRange (BlV.rangeOf hr5' 60 _ Ha3.out) hr5'.lt) 16 16 oC.hp.symm _ (congrArg strOf Hc3.out)
       have t4 := to_str (RdB.ofRange (BlV.rangeOf hr6 32 _ Hb1.out) hr6.lt) 16 16 oD.key.symm _ (congrArg strOf Hd1.out)
       have t5 := to_str (RdB.ofRange (BlV.rangeOf hr6 48 _ Hb2.out) hr6.lt) 12 12 oD.iv.symm _ (congrArg strOf Hd2.out)
       have t6 := to_str (RdB.ofRange (BlV.rangeOf hr6 60 _ Hb3.out) hr6.lt) 16 16 oD.hp.symm _ (congrArg strOf Hd3.out)
       simp only [strOf] at t1 t2 t3 t4 t5 t6))
  go_ret
  exact ⟨rfl, x6⟩
end Go.Proofs.Ytillnpllcfleeaa
