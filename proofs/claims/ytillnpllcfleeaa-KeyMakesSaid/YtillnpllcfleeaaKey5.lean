/- Layer 10, walks: the reference's first keys, and its token. -/
import Derived.Test.YtillnpllcfleeaaKey4
namespace Go.Proofs.Ytillnpllcfleeaa
open Go Go.RowKit

set_option maxRecDepth 100000 in
set_option maxHeartbeats 8000000 in
theorem refinit_client (u : Value) (cid : List UInt8) (w : World) (hu : Sl w w.heap.size u cid) (hn : cid.length ≤ 549755813888) :
    Calls Try.prog 60 #[u, .int .i64 0] w fun e w' => e = .returned (.agg (firstClient cid).cells.toArray) ∧ Below w.heap.size w w' := by
  obtain ⟨Z, hZ⟩ : ∃ z, z = (KS.cells ⟨List.replicate 32 0, List.replicate 16 0, List.replicate 12 0, List.replicate 16 0, 0⟩).toArray := ⟨_, rfl⟩
  have hz := zero54
  rw [← hZ] at hz
  have lz : (KS.cells ⟨List.replicate 32 0, List.replicate 16 0, List.replicate 12 0, List.replicate 16 0, 0⟩).length = 77 := KS.cells_length _ ⟨by simp, by simp, by simp, by simp⟩
  obtain ⟨Z0, hZ0⟩ : ∃ z, z = (KS.cells ⟨List.replicate 32 0, List.replicate 16 0, List.replicate 12 0, List.replicate 16 0, 0⟩) := ⟨_, rfl⟩
  rw [← hZ0] at lz hZ
  obtain ⟨Y, hY⟩ : ∃ z, z = (b8s (List.replicate 32 0)).toArray := ⟨_, rfl⟩
  have hzY := zero25
  rw [← hY] at hzY
  have HY := Lib.hid hY; clear hY
  have HzY := Lib.hid hzY; clear hzY
  obtain ⟨P, hP⟩ : ∃ z, z = mac keySalt cid := ⟨_, rfl⟩
  have lP : P.length = 32 := by rw [hP]; exact mac_length _ _
  obtain ⟨X, hX⟩ : ∃ z, z = labelOut P sClientIn [] 32 := ⟨_, rfl⟩
  have lX : X.length = 32 := by rw [hX]; exact labelOut_length _ _ _ _
  have k1 := reflabel_n P sClientIn lP (by decide) ⟨#[99, 108, 105, 101, 110, 116, 32, 105, 110]⟩ rfl 32 32 rfl (by decide) (by decide)
  rw [← hX] at k1
  have k2 := fun W => refof_keys X W lX
  obtain ⟨C, hC⟩ : ∃ z, z = keysOf X := ⟨_, rfl⟩
  have oC : C.Ok := by rw [hC]; exact keysOf_ok X lX
  have lC := C.cells_length oC
  have eC : firstClient cid = C := by rw [hC, hX, hP]; rfl
  rw [← hC] at k2
  have HZ := Lib.hid hZ; clear hZ
  have Hz := Lib.hid hz; clear hz
  have HZ0 := Lib.hid hZ0; clear hZ0
  have Hlz := Lib.hid lz; clear lz
  have HP := Lib.hid hP; clear hP
  have HlP := Lib.hid lP; clear lP
  have HX := Lib.hid hX; clear hX
  have HlX := Lib.hid lX; clear lX
  have Hk1 := Lib.hid k1; clear k1
  have Hk2 := Lib.hid k2; clear k2
  have HC := Lib.hid hC; clear hC
  have HlC := Lib.hid lC; clear lC
  have HeC := Lib.hid eC; clear eC
  go_enter Try.func60, Try.ntmps60
  go_wp2_with (first
    | (refine allocAt 4 rfl rfl 54 rfl Z Hz.out ?_; intro g2 w2 hg2 hg2' hr2 hb2
       rw [HZ.out] at hr2
       have hu2 := (hu.below hb2 (Nat.le_refl _)).more hb2.size)
    | (refine lit8 rfl 20 [(0, .const (.int .u8 56)), (1, .const (.int .u8 118)), (2, .const (.int .u8 44)), (3, .const (.int .u8 247)), (4, .const (.int .u8 245)), (5, .const (.int .u8 89)), (6, .const (.int .u8 52)), (7, .const (.int .u8 179)), (8, .const (.int .u8 77)), (9, .const (.int .u8 23)), (10, .const (.int .u8 154)), (11, .const (.int .u8 230)), (12, .const (.int .u8 164)), (13, .const (.int .u8 200)), (14, .const (.int .u8 12)), (15, .const (.int .u8 173)), (16, .const (.int .u8 204)), (17, .const (.int .u8 187)), (18, .const (.int .u8 127)), (19, .const (.int .u8 10))] rfl [56, 118, 44, 247, 245, 89, 52, 179, 77, 23, 154, 230, 164, 200, 12, 173, 204, 187, 127, 10] keySalt rfl rfl rfl (by decide) ?_; intro g3 w3 hg3 hg3' hO3 hb3
       have hu3 := (hu2.below hb3 (Nat.le_refl _)).more hb3.size)
    | (go_at_call 45; refine (refmac_any _ _ keySalt cid _ hO3.sl hu3 (by decide) hn).mono ?_; rintro e w4 ⟨rfl, hb4⟩
       rw [← HP.out]
       have y4 := hb3.trans (hb4.mono hb3.size))
    | (refine allocAt 6 rfl rfl 25 rfl Y HzY.out ?_; intro g5 w5 hg5 hg5' hr5 hb5
       rw [HY.out] at hr5
       have y5 := y4.trans (hb5.mono y4.size))
    | (refine stB rfl 25 (.tmp 6) (.tmp 11) rfl g5 rfl P rfl _ hr5 32 info25 HlP.out (by simp) ?_; intro w6 hr6 hg6
       have y6 := y5.grown hg6 y5.size (fun x hx => by cases hx; exact Nat.le_trans y4.size hg5))
    | (refine ldB rfl 25 (.tmp 6) rfl g5 rfl P hr6 32 Try.underlying25 info25 HlP.out ?_)
    | (go_at_call 51; refine (Hk1.out _).mono ?_; rintro e w7 ⟨v7, rfl, hO7, hb7⟩
       obtain ⟨g7, c7, rfl, hg7, hg7', hc7, hm7⟩ := hO7.loc (by rw [HlX.out]; decide)
       rw [HlX.out] at hO7 ⊢)
    | (go_at_call 162; refine (all_row _ X _ _ hO7.rd HlX.out).mono ?_; rintro e w8 ⟨rfl, hb8⟩
       have y8 := y6.trans ((hb7.trans (hb8.mono hb7.size)).mono y6.size))
    | (go_at_call 57; refine (Hk2.out _).mono ?_; rintro e w9 ⟨rfl, hb9⟩
       have y9 := y8.trans (hb9.mono y8.size)
       have hR := Blk.call hr2 y9)
    | (refine stW rfl 54 (.tmp 4) (.tmp 18) rfl g2 rfl C.cells rfl _ hR 77 info54 HlC.out Hlz.out (KS.cells_one _) ?_; intro w10 hr10 hg10))
  refine bodyPost_ret (retV rfl g2 rfl _ hr10 77 _ rfl Try.underlying54 info54 HlC.out) rfl ⟨by rw [HeC.out], ?_⟩
  have x9 := hb2.trans (y9.mono hb2.size)
  exact x9.grown hg10 x9.size (fun x hx => by cases hx; exact hg2)

set_option maxRecDepth 100000 in
set_option maxHeartbeats 8000000 in
theorem refinit_server (u : Value) (cid : List UInt8) (w : World) (hu : Sl w w.heap.size u cid) (hn : cid.length ≤ 549755813888) :
    Calls Try.prog 60 #[u, .int .i64 1] w fun e w' => e = .returned (.agg (firstServer cid).cells.toArray) ∧ Below w.heap.size w w' := by
  obtain ⟨Z, hZ⟩ : ∃ z, z = (KS.cells ⟨List.replicate 32 0, List.replicate 16 0, List.replicate 12 0, List.replicate 16 0, 0⟩).toArray := ⟨_, rfl⟩
  have hz := zero54
  rw [← hZ] at hz
  have lz : (KS.cells ⟨List.replicate 32 0, List.replicate 16 0, List.replicate 12 0, List.replicate 16 0, 0⟩).length = 77 := KS.cells_length _ ⟨by simp, by simp, by simp, by simp⟩
  obtain ⟨Z0, hZ0⟩ : ∃ z, z = (KS.cells ⟨List.replicate 32 0, List.replicate 16 0, List.replicate 12 0, List.replicate 16 0, 0⟩) := ⟨_, rfl⟩
  rw [← hZ0] at lz hZ
  obtain ⟨Y, hY⟩ : ∃ z, z = (b8s (List.replicate 32 0)).toArray := ⟨_, rfl⟩
  have hzY := zero25
  rw [← hY] at hzY
  have HY := Lib.hid hY; clear hY
  have HzY := Lib.hid hzY; clear hzY
  obtain ⟨P, hP⟩ : ∃ z, z = mac keySalt cid := ⟨_, rfl⟩
  have lP : P.length = 32 := by rw [hP]; exact mac_length _ _
  obtain ⟨X, hX⟩ : ∃ z, z = labelOut P sServerIn [] 32 := ⟨_, rfl⟩
  have lX : X.length = 32 := by rw [hX]; exact labelOut_length _ _ _ _
  have k1 := reflabel_n P sServerIn lP (by decide) ⟨#[115, 101, 114, 118, 101, 114, 32, 105, 110]⟩ rfl 32 32 rfl (by decide) (by decide)
  rw [← hX] at k1
  have k2 := fun W => refof_keys X W lX
  obtain ⟨C, hC⟩ : ∃ z, z = keysOf X := ⟨_, rfl⟩
  have oC : C.Ok := by rw [hC]; exact keysOf_ok X lX
  have lC := C.cells_length oC
  have eC : firstServer cid = C := by rw [hC, hX, hP]; rfl
  rw [← hC] at k2
  have HZ := Lib.hid hZ; clear hZ
  have Hz := Lib.hid hz; clear hz
  have HZ0 := Lib.hid hZ0; clear hZ0
  have Hlz := Lib.hid lz; clear lz
  have HP := Lib.hid hP; clear hP
  have HlP := Lib.hid lP; clear lP
  have HX := Lib.hid hX; clear hX
  have HlX := Lib.hid lX; clear lX
  have Hk1 := Lib.hid k1; clear k1
  have Hk2 := Lib.hid k2; clear k2
  have HC := Lib.hid hC; clear hC
  have HlC := Lib.hid lC; clear lC
  have HeC := Lib.hid eC; clear eC
  go_enter Try.func60, Try.ntmps60
  go_wp2_with (first
    | (refine allocAt 4 rfl rfl 54 rfl Z Hz.out ?_; intro g2 w2 hg2 hg2' hr2 hb2
       rw [HZ.out] at hr2
       have hu2 := (hu.below hb2 (Nat.le_refl _)).more hb2.size)
    | (refine lit8 rfl 20 [(0, .const (.int .u8 56)), (1, .const (.int .u8 118)), (2, .const (.int .u8 44)), (3, .const (.int .u8 247)), (4, .const (.int .u8 245)), (5, .const (.int .u8 89)), (6, .const (.int .u8 52)), (7, .const (.int .u8 179)), (8, .const (.int .u8 77)), (9, .const (.int .u8 23)), (10, .const (.int .u8 154)), (11, .const (.int .u8 230)), (12, .const (.int .u8 164)), (13, .const (.int .u8 200)), (14, .const (.int .u8 12)), (15, .const (.int .u8 173)), (16, .const (.int .u8 204)), (17, .const (.int .u8 187)), (18, .const (.int .u8 127)), (19, .const (.int .u8 10))] rfl [56, 118, 44, 247, 245, 89, 52, 179, 77, 23, 154, 230, 164, 200, 12, 173, 204, 187, 127, 10] keySalt rfl rfl rfl (by decide) ?_; intro g3 w3 hg3 hg3' hO3 hb3
       have hu3 := (hu2.below hb3 (Nat.le_refl _)).more hb3.size)
    | (go_at_call 45; refine (refmac_any _ _ keySalt cid _ hO3.sl hu3 (by decide) hn).mono ?_; rintro e w4 ⟨rfl, hb4⟩
       rw [← HP.out]
       have y4 := hb3.trans (hb4.mono hb3.size))
    | (refine allocAt 6 rfl rfl 25 rfl Y HzY.out ?_; intro g5 w5 hg5 hg5' hr5 hb5
       rw [HY.out] at hr5
       have y5 := y4.trans (hb5.mono y4.size))
    | (refine stB rfl 25 (.tmp 6) (.tmp 11) rfl g5 rfl P rfl _ hr5 32 info25 HlP.out (by simp) ?_; intro w6 hr6 hg6
       have y6 := y5.grown hg6 y5.size (fun x hx => by cases hx; exact Nat.le_trans y4.size hg5))
    | (refine ldB rfl 25 (.tmp 6) rfl g5 rfl P hr6 32 Try.underlying25 info25 HlP.out ?_)
    | (go_at_call 51; refine (Hk1.out _).mono ?_; rintro e w7 ⟨v7, rfl, hO7, hb7⟩
       obtain ⟨g7, c7, rfl, hg7, hg7', hc7, hm7⟩ := hO7.loc (by rw [HlX.out]; decide)
       rw [HlX.out] at hO7 ⊢)
    | (go_at_call 162; refine (all_row _ X _ _ hO7.rd HlX.out).mono ?_; rintro e w8 ⟨rfl, hb8⟩
       have y8 := y6.trans ((hb7.trans (hb8.mono hb7.size)).mono y6.size))
    | (go_at_call 57; refine (Hk2.out _).mono ?_; rintro e w9 ⟨rfl, hb9⟩
       have y9 := y8.trans (hb9.mono y8.size)
       have hR := Blk.call hr2 y9)
    | (refine stW rfl 54 (.tmp 4) (.tmp 18) rfl g2 rfl C.cells rfl _ hR 77 info54 HlC.out Hlz.out (KS.cells_one _) ?_; intro w10 hr10 hg10))
  refine bodyPost_ret (retV rfl g2 rfl _ hr10 77 _ rfl Try.underlying54 info54 HlC.out) rfl ⟨by rw [HeC.out], ?_⟩
  have x9 := hb2.trans (y9.mono hb2.size)
  exact x9.grown hg10 x9.size (fun x hx => by cases hx; exact hg2)

set_option maxRecDepth 100000 in
set_option maxHeartbeats 8000000 in
theorem reftoken_any (s : List UInt8) (u : Value) (cid : List UInt8) (w : World) (hs : s.length = 32) (hu : Sl w w.heap.size u cid) (hn : cid.length ≤ 549755813888) :
    Calls Try.prog 62 #[.agg (b8s s).toArray, u] w fun e w' => e = .returned (.agg (b8s (resetTok s cid)).toArray) ∧ Below w.heap.size w w' := by
  have zero66 : ((Try.prog.info? 66).bind (·.zero)).map (·.cells) = some (b8s (List.replicate 16 0)).toArray := by kernel_rfl
  obtain ⟨Y, hY⟩ : ∃ z, z = (b8s (List.replicate 32 0)).toArray := ⟨_, rfl⟩
  have hzY := zero25
  rw [← hY] at hzY
  have HY := Lib.hid hY; clear hY
  have HzY := Lib.hid hzY; clear hzY
  obtain ⟨Z, hZ⟩ : ∃ z, z = (b8s (List.replicate 16 0)).toArray := ⟨_, rfl⟩
  have hzZ := zero66
  rw [← hZ] at hzZ
  have HZ := Lib.hid hZ; clear hZ
  have HzZ := Lib.hid hzZ; clear hzZ
  clear zero66
  obtain ⟨M, hM⟩ : ∃ z, z = mac s cid := ⟨_, rfl⟩
  have lM : M.length = 32 := by rw [hM]; exact mac_length _ _
  have eT : resetTok s cid = M.take 16 := by rw [hM]; rfl
  have lT : (M.take 16).length = 16 := take16 M (by omega)
  obtain ⟨T, hT⟩ : ∃ z, z = M.take 16 := ⟨_, rfl⟩
  rw [← hT] at eT lT
  have gT : ∀ k, k < 16 → bAt M k = bAt T k := fun k hk => by rw [hT, bAt_take _ _ _ hk]
  obtain ⟨N, hN⟩ : ∃ z, z = List.replicate 16 (0 : UInt8) := ⟨_, rfl⟩
  have lN : N.length = 16 := by rw [hN]; rfl
  rw [← hN] at HZ
  have HM := Lib.hid hM; clear hM
  have HlM := Lib.hid lM; clear lM
  have HeT := Lib.hid eT; clear eT
  have HlT := Lib.hid lT; clear lT
  have Hs := Lib.hid hs; clear hs
  have HT := Lib.hid hT; clear hT
  have HgT := Lib.hid gT; clear gT
  have HN := Lib.hid hN; clear hN
  have HlN := Lib.hid lN; clear lN
  go_enter Try.func62, Try.ntmps62
  go_wp2_with (first
    | (refine box_abs rfl 25 (.tmp 0) rfl (b8s s).toArray rfl ?_; intro g1 w1 hg1 hg1' hr1 hb1)
    | (refine allocAt 4 rfl rfl 66 rfl Z HzZ.out ?_; intro g2 w2 hg2 hg2' hr2 hb2
       rw [HZ.out] at hr2
       have x2 := hb1.trans (hb2.mono hb1.size)
       have hr1' := Blk.call hr1 hb2
       have hu2 := (hu.below x2 (Nat.le_refl _)).more x2.size))
  have hg2l := hr2.lt
  go_loopw [5, 6] (fun v5 i wr => ∃ k : Nat, k ≤ 32 ∧ i = .int .i64 k ∧ Own wr w2.heap.size v5 (s.take k) ∧ Below w2.heap.size w2 wr) (fun _ i _ => 32 - (intOf i).toNat)
  case atStart => exact ⟨0, by omega, rfl, Own.nil _ _, Below.refl _ _⟩
  case round =>
    obtain ⟨k, hk2, rfl, hO, hbel⟩ := hrel
    by_cases hlt : k < 32
    · have hts := take_bAt s k (by rw [Hs.out]; exact hlt)
      have cR := BlB.at (Blk.call hr1' hbel) k (by rw [Hs.out]; exact hlt)
      have hl : (s.take k).length = k := by rw [List.length_take, Hs.out]; omega
      obtain ⟨X, hX⟩ : ∃ z, z = s.take k := ⟨_, rfl⟩
      rw [← hX] at hts hl hO
      have Hts := Lib.hid hts; clear hts
      have Hl := Lib.hid hl; clear hl
      have HX := Lib.hid hX; clear hX
      go_wp2_with (first
        | (refine mk81 rfl (.tmp 17) rfl _ _ rfl rfl ?_; intro g6 w6 hg6 hg6' hO6 hb6
           have hO' := hO.below hb6 (Nat.le_refl _)
           have x6 := hbel.trans (hb6.mono hbel.size))
        | (at_builtin; refine app8 rfl (.tmp 14) (.tmp 18) rfl w2.heap.size _ X rfl hO' _ _ _ _ _ rfl hO6.rd rfl (by rw [Hl.out]; simp; omega) x6.size ?_; intro v7 w7 hO7 hg7 hat7
           have x7 := x6.grown hg7 x6.size (fun x hx => (hO'.lt x hx).1)))
      go_roundw
      case rel => exact ⟨k + 1, by omega, by go_num, by rw [Hts.out]; exact hO7, x7⟩
      case measure => simp [intOf]; omega
    · have e : k = 32 := by omega
      subst e
      rw [List.take_of_length_le (by rw [Hs.out]; omega)] at hO
      have hur := (hu2.below hbel (Nat.le_refl _)).more hbel.size
      have xr := x2.trans (hbel.mono x2.size)
      go_wp2_with (first
        | (go_at_call 45; refine (refmac_any _ _ s cid _ hO.sl hur (by rw [Hs.out]; omega) hn).mono ?_; rintro e w8 ⟨rfl, hb8⟩
           rw [← HM.out])
        | (refine allocAt 7 rfl rfl 25 rfl Y HzY.out ?_; intro g9 w9 hg9 hg9' hr9 hb9
           rw [HY.out] at hr9
           have y9 := hb8.trans (hb9.mono hb8.size))
        | (refine stB rfl 25 (.tmp 7) (.tmp 22) rfl g9 rfl M rfl _ hr9 32 info25 HlM.out (by simp) ?_; intro w10 hr10 hg10
           have y10 := y9.grown hg10 y9.size (fun x hx => by cases hx; exact Nat.le_trans hb8.size hg9))
        | (refine allocAt 8 rfl rfl 66 rfl Z HzZ.out ?_; intro g11 w11 hg11 hg11' hr11 hb11
           rw [HZ.out] at hr11
           have y11 := y10.trans (hb11.mono y10.size)
           have hr10' := Blk.call hr10 hb11
           have hR11 := Blk.call (Blk.call hr2 hbel) y11
           have x11 := xr.trans (y11.mono xr.size)))
      have z910 := hr10.lt
      have zr10 := y10.size
      clear hO hur hb8 hb9 hr9 hg10 hr10 y9 y10
      try simp only [Int.cast_ofNat_Int]
      have z10 := hb11.size
      have z2 : g2 < w10.heap.size := Nat.lt_of_lt_of_le hg2l (Nat.le_trans hbel.size zr10)
      go_loopw [9] (fun i wr => ∃ k : Nat, k ≤ 16 ∧ i = .int .i64 k ∧ BlB wr g11 66 (mixTo k T N) ∧ Below w10.heap.size w11 wr) (fun i _ => 16 - (intOf i).toNat)
      case atStart => exact ⟨0, by omega, rfl, by rw [mixTo_zero]; exact hr11, Below.refl _ _⟩
      case round =>
        clear hbel
        obtain ⟨k, hk, rfl, hB, hbel⟩ := hrel
        by_cases hlt : k < 16
        · have c1 := hB.at k (by rw [mixTo_length _ _ _ (by rw [HlT.out, HlN.out]), HlN.out]; exact hlt)
          have f1 := Blk.frozen hB k
          have c2 := BlB.at (Blk.below hr10' hbel (by omega)) k (by rw [HlM.out]; omega)
          rw [HgT.out k hlt] at c2
          have hset := hB.set k (bAt T k)
          rw [mixTo_put k T N (by rw [HlT.out, HlN.out]) (by rw [HlT.out]; exact hlt)] at hset
          have Hset := Lib.hid hset; clear hset
          go_wp2
          go_roundw
          case rel => exact ⟨k + 1, by omega, by go_num, Hset.out, hbel.setCell (p := ⟨g11, k, none⟩) hg11 _⟩
          case measure => simp [intOf]; omega
        · have e : k = 16 := by omega
          subst e
          rw [mixTo_all 16 T N HlT.out HlN.out] at hB
          have hR := Blk.below hR11 hbel z2
          go_wp2_with (first
            | (refine ldB rfl 66 (.tmp 8) rfl g11 rfl T hB 16 Try.underlying66 info66 HlT.out ?_)
            | (refine stB rfl 66 (.tmp 4) (.tmp 32) rfl g2 rfl T rfl _ hR 16 info66 HlT.out HlN.out ?_; intro w12 hr12 hg12))
          refine bodyPost_ret (retB rfl g2 rfl T hr12 16 Try.underlying66 info66 HlT.out) rfl ⟨by rw [HeT.out], ?_⟩
          have xx := x11.trans (hbel.mono (by have := x11.size; have := xr.size; have := y11.size; omega))
          exact xx.grown hg12 xx.size (fun x hx => by cases hx; exact Nat.le_trans hb1.size hg2)
end Go.Proofs.Ytillnpllcfleeaa
