/- Layer 10, walks: the next keys, the first ones, a token. -/
import Derived.Test.YtillnpllcfleeaaKey2
namespace Go.Proofs.Ytillnpllcfleeaa
open Go Go.RowKit

theorem splice_all {α : Type} (l m : List α) (h : l.length = m.length) : splice l 0 m = m := by
  unfold splice
  rw [List.take_zero, List.nil_append, Nat.zero_add, List.drop_of_length_le (by omega), List.append_nil]

set_option maxRecDepth 100000 in
set_option maxHeartbeats 8000000 in
theorem next_keys (K : KS) (w : World) (hK : K.Ok) :
    Calls Try.prog 58 #[.agg K.cells.toArray] w fun e w' => e = .returned (.agg (keysNext K).cells.toArray) ∧ Below w.heap.size w w' := by
  obtain ⟨Z, hZ⟩ : ∃ z, z = (KS.cells ⟨List.replicate 32 0, List.replicate 16 0, List.replicate 12 0, List.replicate 16 0, 0⟩).toArray := ⟨_, rfl⟩
  have hz := zero54
  rw [← hZ] at hz
  have lz : (KS.cells ⟨List.replicate 32 0, List.replicate 16 0, List.replicate 12 0, List.replicate 16 0, 0⟩).length = 77 := KS.cells_length _ ⟨by simp, by simp, by simp, by simp⟩
  obtain ⟨Z0, hZ0⟩ : ∃ z, z = (KS.cells ⟨List.replicate 32 0, List.replicate 16 0, List.replicate 12 0, List.replicate 16 0, 0⟩) := ⟨_, rfl⟩
  rw [← hZ0] at lz hZ
  obtain ⟨X, hX⟩ : ∃ z, z = labelOut K.sec sQuicKu [] 32 := ⟨_, rfl⟩
  have lX : X.length = 32 := by rw [hX]; exact labelOut_length _ _ _ _
  have k1 : ∀ W, Calls Try.prog 160 #[.agg (b8s K.sec).toArray, .string ⟨#[113, 117, 105, 99, 32, 107, 117]⟩] W fun e w' => e = .returned (.agg (b8s X).toArray) ∧ Below W.heap.size W w' := fun W => by
    rw [hX]; exact secret_any K.sec sQuicKu _ W hK.sec (by decide) rfl
  have k2 := fun W => of_keys X W lX
  obtain ⟨N, hN⟩ : ∃ z, z = keysOf X := ⟨_, rfl⟩
  have oN : N.Ok := by rw [hN]; exact keysOf_ok X lX
  rw [← hN] at k2
  have o2 : ({ N with hp := K.hp } : KS).Ok := ⟨oN.sec, oN.key, oN.iv, hK.hp⟩
  have e1 := N.put_hp oN K.hp hK.hp
  have e2 := ({ N with hp := K.hp } : KS).set_ph o2 (K.ph + 1)
  have e3 := N.set_ph oN (K.ph + 1)
  have o3 : ({ N with ph := K.ph + 1 } : KS).Ok := ⟨oN.sec, oN.key, oN.iv, oN.hp⟩
  have e4 := ({ N with ph := K.ph + 1 } : KS).put_hp o3 K.hp hK.hp
  have hM : keysNext K = ⟨N.sec, N.key, N.iv, K.hp, K.ph + 1⟩ := by rw [hN, hX]; rfl
  obtain ⟨M, hMe⟩ : ∃ z, z = KS.mk N.sec N.key N.iv K.hp (K.ph + 1) := ⟨_, rfl⟩
  have oM : M.Ok := by rw [hMe]; exact ⟨oN.sec, oN.key, oN.iv, hK.hp⟩
  rw [← hMe] at e2 e4 hM
  have lK := K.cells_length hK
  have lN := N.cells_length oN
  have lM := M.cells_length oM
  have aph := K.at_ph hK
  have cs := K.cut_sec hK
  have ch := K.cut_hp hK
  have i25 := hK.sec
  have i32 := hK.hp
  have HZ := Lib.hid hZ; clear hZ
  have Hz := Lib.hid hz; clear hz
  have Hlz := Lib.hid lz; clear lz
  have HX := Lib.hid hX; clear hX
  have HlX := Lib.hid lX; clear lX
  have Hk1 := Lib.hid k1; clear k1
  have Hk2 := Lib.hid k2; clear k2
  have He1 := Lib.hid e1; clear e1
  have He2 := Lib.hid e2; clear e2
  have He3 := Lib.hid e3; clear e3
  have He4 := Lib.hid e4; clear e4
  have HM := Lib.hid hM; clear hM
  have HMe := Lib.hid hMe; clear hMe
  have HlK := Lib.hid lK; clear lK
  have HlN := Lib.hid lN; clear lN
  have HlM := Lib.hid lM; clear lM
  have Haph := Lib.hid aph; clear aph
  have Hcs := Lib.hid cs; clear cs
  have Hch := Lib.hid ch; clear ch
  have HZ0 := Lib.hid hZ0; clear hZ0
  have HN := Lib.hid hN; clear hN
  have Hi25 := Lib.hid i25; clear i25
  have Hi32 := Lib.hid i32; clear i32
  go_enter Try.func58, Try.ntmps58
  go_wp2_with (first
    | (refine box_abs rfl 54 (.tmp 0) rfl K.cells.toArray rfl ?_; intro g1 w1 hg1 hg1' hr1 hb1
       have q1 := BlV.rangeOf hr1 0 _ Hcs.out)
    | (refine allocAt 2 rfl rfl 54 rfl Z Hz.out ?_; intro g2 w2 hg2 hg2' hr2 hb2
       rw [HZ.out] at hr2
       have x2 := hb1.trans (hb2.mono hb1.size)
       have q2 := rangeAt_below q1 hb2 hg1')
    | (refine ldV rfl 25 (.tmp 4) rfl g1 0 rfl (b8s K.sec) q2 _ rfl Try.underlying25 32 info25 (by rw [b8s_length, Hi25.out]) ?_)
    | (go_at_call 160; refine (Hk1.out _).mono ?_; rintro e w3 ⟨rfl, hb3⟩
       have y3 := hb3)
    | (go_at_call 55; refine (Hk2.out _).mono ?_; rintro e w4 ⟨rfl, hb4⟩
       have y4 := y3.trans (hb4.mono y3.size))
    | (refine allocAt 3 rfl rfl 54 rfl Z Hz.out ?_; intro g5 w5 hg5 hg5' hr5 hb5
       rw [HZ.out] at hr5
       have y5 := y4.trans (hb5.mono y4.size))
    | (refine stW rfl 54 (.tmp 3) (.tmp 7) rfl g5 rfl N.cells rfl _ hr5 77 info54 HlN.out Hlz.out (KS.cells_one _) ?_; intro w6 hr6 hg6
       have y6 := y5.grown hg6 y5.size (fun x hx => by cases hx; exact Nat.le_trans y4.size hg5)))
  have hr1' := Blk.call (Blk.call hr1 hb2) y6
  have hr2' := Blk.call hr2 y6
  have x6 := x2.trans (y6.mono x2.size)
  have hg2l := hr2.lt
  have hg5l := hr6.lt
  have z24 := y4.size
  have z01 := hb1.size
  clear q1 q2 hr1 hr2 hr5 hb2 hb3 hb4 hb5 hg6 y3 y4 y5 y6 x2
  refine wp_region_og g5 (.q 0 <| .q 1 <| .q 2 <| .q 3 <| .q 4 <| .q 5 <| .b 6 (.q 7 <| .b 8 (.done) <| .e) <| .e) (by kernel_rfl) (by kernel_rfl) (by kernel_rfl) ?_
  intro W7 hW7
  have x7 := x6.trans (hW7.mono x6.size)
  have hr7 := Blk.call hr1' hW7
  have hR7 := Blk.call hr2' hW7
  have hS7 : BlV W7 g5 54 N.cells := Blk.call hr6 hW7
  have z7 := hW7.size
  have n15 : some g1 ≠ some g5 := fun e => by cases e; omega
  have q7 := BlV.rangeOf hr7 60 _ Hch.out
  have c76 : ∀ W, W7.grownBy W (some g5) → W.cell? ⟨g1, 76, none⟩ = some (.int .u64 (u64v K.ph)) := fun W h => by
    rw [grown_cell h ⟨g1, 76, none⟩ (by show g1 < W7.heap.size; omega) n15, BlV.at hr7]; exact Haph.out
  clear hr1' hr2' hr6
  simp only [tw, List.getElem?_cons_succ, List.getElem?_cons_zero]
  iterate 6 (first
    | (refine wpTz_skip (by rfl) ?_; simp only [Act.put, List.setIfInBounds_toArray, List.set_cons_zero, List.set_cons_succ])
    | (refine wpTz_load 32 (.tmp 8) rfl g1 60 rfl (b8s K.hp) _ (by rfl) (fun W hS => rangeAt_grown q7 hS (by omega) n15) Try.underlying32 rfl (inf32.trans (congrArg some (by rw [b8s_length, Hi32.out]))) ?_; simp only [Act.put, List.setIfInBounds_toArray, List.set_cons_zero, List.set_cons_succ])
    | (refine wpTz_q (v := ?_) (by rfl) (fun W hW => ?_) ?_
       rotate_left
       · (try dsimp only at hW); first | (go_simp; done) | (go_simp; with_reducible rfl)
       simp only [Act.put, List.setIfInBounds_toArray, List.set_cons_zero, List.set_cons_succ]))
  refine wpTz_b (fun KK hKK => ?_) wpTz_e
  go_wp2_with (refine stV (by rfl) 32 (.tmp 13) (.tmp 9) (by rfl) g5 60 (by rfl) (b8s K.hp) (by rfl) 54 N.cells hS7 16 inf32 (by rw [b8s_length, Hi32.out]) (b8s_one _) (by rw [HlN.out]; decide) ?_; intro w8 hr8 hg8)
  rw [He1.out] at hr8
  have f8 := Blk.frozen hr8 76
  have c8 := BlV.at hr8 76
  rw [KS.at_ph _ o2] at c8
  have hset := hr8.set 76 (.int .u64 (u64v (K.ph + 1)))
  rw [He2.out] at hset
  have Hset := Lib.hid hset; clear hset
  refine wpTz_ong hKK hg8 ?_
  clear hKK KK
  clear c76
  iterate 1 (first
    | (refine wpTz_skip (by rfl) ?_; simp only [Act.put, List.setIfInBounds_toArray, List.set_cons_zero, List.set_cons_succ])
    | (refine wpTz_q (v := ?_) (by rfl) (fun W hW => ?_) ?_
       rotate_left
       · (try dsimp only at hW); first | (go_simp; done) | (go_simp; with_reducible rfl)
       simp only [Act.put, List.setIfInBounds_toArray, List.set_cons_zero, List.set_cons_succ]))
  refine wpTz_b (fun KK hKK => ?_) wpTz_e
  go_wp2
  refine wpTz_ong hKK (grownBy_setCell w8 ⟨g5, 76, none⟩ _) ?_
  clear hKK KK
  refine wpTz_done ?_
  have x8 := x7.grown (grownBy_trans hg8 (grownBy_setCell w8 ⟨g5, 76, none⟩ (.int .u64 (u64v (K.ph + 1))))) x7.size (fun x hx => by cases hx; show w.heap.size ≤ g5; omega)
  have hR8 : Blk (w8.setCell ⟨g5, 76, none⟩ (.int .u64 (u64v (K.ph + 1)))) g2 54 Z0.toArray := Blk.far (Blk.grown hR7 hg8 (fun e => by cases e; omega)) (fun e => by have e : g2 = g5 := e; omega) _
  generalize hW9 : (w8.setCell ⟨g5, 76, none⟩ (.int .u64 (u64v (K.ph + 1)))) = w9 at *
  clear hW9
  have hset9 := Hset.out
  have qa := BlV.rangeOf hset9 0 M.cells (by rw [List.drop_zero, List.take_of_length_le (Nat.le_refl _)])
  go_wp2_with (first
    | (refine ldV rfl 54 (.tmp 3) rfl g5 0 rfl M.cells qa _ rfl Try.underlying54 77 info54 HlM.out ?_)
    | (refine stW rfl 54 (.tmp 2) (.tmp 15) rfl g2 rfl M.cells rfl _ hR8 77 info54 HlM.out Hlz.out (KS.cells_one _) ?_; intro w10 hr10 hg10))
  refine bodyPost_ret (retV rfl g2 rfl _ hr10 77 _ rfl Try.underlying54 info54 HlM.out) rfl ⟨by rw [HM.out], ?_⟩
  exact x8.grown hg10 x8.size (fun x hx => by cases hx; exact Nat.le_trans hb1.size hg2)

set_option maxRecDepth 100000 in
set_option maxHeartbeats 8000000 in
theorem initial_keys (u : Value) (cid : List UInt8) (w : World) (hu : Sl w w.heap.size u cid) (hn : cid.length ≤ 549755813888) :
    Calls Try.prog 56 #[u] w fun e w' => e = .returned (.tuple #[.agg (firstClient cid).cells.toArray, .agg (firstServer cid).cells.toArray]) ∧ Below w.heap.size w w' := by
  obtain ⟨Z, hZ⟩ : ∃ z, z = (KS.cells ⟨List.replicate 32 0, List.replicate 16 0, List.replicate 12 0, List.replicate 16 0, 0⟩).toArray := ⟨_, rfl⟩
  have hz := zero54
  rw [← hZ] at hz
  have lz : (KS.cells ⟨List.replicate 32 0, List.replicate 16 0, List.replicate 12 0, List.replicate 16 0, 0⟩).length = 77 := KS.cells_length _ ⟨by simp, by simp, by simp, by simp⟩
  obtain ⟨Z0, hZ0⟩ : ∃ z, z = (KS.cells ⟨List.replicate 32 0, List.replicate 16 0, List.replicate 12 0, List.replicate 16 0, 0⟩) := ⟨_, rfl⟩
  rw [← hZ0] at lz hZ
  obtain ⟨Y, hY⟩ : ∃ z, z = (b8s (List.replicate 32 0)).toArray := ⟨_, rfl⟩
  have hzY := zero25
  rw [← hY] at hzY
  have HY := Lib.hid hY; clear hY
  have HzY := Lib.hid hzY; clear hzY
  obtain ⟨P, hP⟩ : ∃ z, z = mac keySalt cid := ⟨_, rfl⟩
  have lP : P.length = 32 := by rw [hP]; exact mac_length _ _
  obtain ⟨X1, hX1⟩ : ∃ z, z = labelOut P sClientIn [] 32 := ⟨_, rfl⟩
  obtain ⟨X2, hX2⟩ : ∃ z, z = labelOut P sServerIn [] 32 := ⟨_, rfl⟩
  have lX1 : X1.length = 32 := by rw [hX1]; exact labelOut_length _ _ _ _
  have lX2 : X2.length = 32 := by rw [hX2]; exact labelOut_length _ _ _ _
  have k1 : ∀ W, Calls Try.prog 160 #[.agg (b8s P).toArray, .string ⟨#[99, 108, 105, 101, 110, 116, 32, 105, 110]⟩] W fun e w' => e = .returned (.agg (b8s X1).toArray) ∧ Below W.heap.size W w' := fun W => by
    rw [hX1]; exact secret_any P sClientIn _ W lP (by decide) rfl
  have k2 : ∀ W, Calls Try.prog 160 #[.agg (b8s P).toArray, .string ⟨#[115, 101, 114, 118, 101, 114, 32, 105, 110]⟩] W fun e w' => e = .returned (.agg (b8s X2).toArray) ∧ Below W.heap.size W w' := fun W => by
    rw [hX2]; exact secret_any P sServerIn _ W lP (by decide) rfl
  have k3 := fun W => of_keys X1 W lX1
  have k4 := fun W => of_keys X2 W lX2
  obtain ⟨C, hC⟩ : ∃ z, z = keysOf X1 := ⟨_, rfl⟩
  obtain ⟨D, hD⟩ : ∃ z, z = keysOf X2 := ⟨_, rfl⟩
  have oC : C.Ok := by rw [hC]; exact keysOf_ok X1 lX1
  have oD : D.Ok := by rw [hD]; exact keysOf_ok X2 lX2
  have lC := C.cells_length oC
  have lD := D.cells_length oD
  have eC : firstClient cid = C := by rw [hC, hX1, hP]; rfl
  have eD : firstServer cid = D := by rw [hD, hX2, hP]; rfl
  rw [← hC] at k3
  rw [← hD] at k4
  have HZ := Lib.hid hZ; clear hZ
  have Hz := Lib.hid hz; clear hz
  have HZ0 := Lib.hid hZ0; clear hZ0
  have Hlz := Lib.hid lz; clear lz
  have HP := Lib.hid hP; clear hP
  have HlP := Lib.hid lP; clear lP
  have HX1 := Lib.hid hX1; clear hX1
  have HX2 := Lib.hid hX2; clear hX2
  have HlX1 := Lib.hid lX1; clear lX1
  have HlX2 := Lib.hid lX2; clear lX2
  have Hk1 := Lib.hid k1; clear k1
  have Hk2 := Lib.hid k2; clear k2
  have Hk3 := Lib.hid k3; clear k3
  have Hk4 := Lib.hid k4; clear k4
  have HC := Lib.hid hC; clear hC
  have HD := Lib.hid hD; clear hD
  have HlC := Lib.hid lC; clear lC
  have HlD := Lib.hid lD; clear lD
  have HeC := Lib.hid eC; clear eC
  have HeD := Lib.hid eD; clear eD
  go_enter Try.func56, Try.ntmps56
  go_wp2_with (first
    | (refine allocAt 2 rfl rfl 54 rfl Z Hz.out ?_; intro g2 w2 hg2 hg2' hr2 hb2
       rw [HZ.out] at hr2)
    | (refine allocAt 3 rfl rfl 54 rfl Z Hz.out ?_; intro g3 w3 hg3 hg3' hr3 hb3
       rw [HZ.out] at hr3
       have hr2' := Blk.call hr2 hb3
       have x3 := hb2.trans (hb3.mono hb2.size)
       have hu3 := (hu.below x3 (Nat.le_refl _)).more x3.size)
    | (go_at_call 159; refine (salt_any _).mono ?_; rintro e w4 ⟨v4, rfl, hO4, hb4⟩
       have hu4 := (hu3.below hb4 (Nat.le_refl _)).more hb4.size)
    | (go_at_call 47; refine (extract_any _ _ keySalt cid _ hO4.sl hu4 (by decide) hn).mono ?_; rintro e w5 ⟨rfl, hb5⟩
       rw [← HP.out]
       have y5 := hb4.trans (hb5.mono hb4.size))
    | (refine allocAt 4 rfl rfl 25 rfl Y HzY.out ?_; intro g6 w6 hg6 hg6' hr6 hb6
       rw [HY.out] at hr6
       have y6 := y5.trans (hb6.mono y5.size))
    | (refine stB rfl 25 (.tmp 4) (.tmp 7) rfl g6 rfl P rfl _ hr6 32 info25 HlP.out (by simp) ?_; intro w7 hr7 hg7
       have y7 := y6.grown hg7 y6.size (fun x hx => by cases hx; exact Nat.le_trans y5.size hg6)))
  have x7 := x3.trans (y7.mono x3.size)
  have hR2 := Blk.call hr2' y7
  have hR3 := Blk.call hr3 y7
  have z35 := y5.size
  have z2 := hb2.size
  have n62 : g6 ≠ g2 := by have := hr2'.lt; omega
  have n63 : g6 ≠ g3 := by omega
  have n23 : g2 ≠ g3 := by omega
  clear hr2 hr3 hr2' hu3 hO4 hb2 hb3 hb4 hb5 hb6 hu4 hr6 hg7 y5 y6 y7 x3 hu
  refine wp_region_oz (fun W => Below w.heap.size w W ∧ BlB W g6 25 P) (.q 0 <| .q 3 <| .b 1 (.b 2 (.b 4 (.b 5 (.b 6 (.b 7 (.done) <| .e) <| .e) <| .e) <| .e) <| .e) <| .e) (by kernel_rfl) (by kernel_rfl) (by kernel_rfl) ⟨x7.drew, hr7⟩ ?_
  simp only [tw, List.getElem?_cons_succ, List.getElem?_cons_zero]
  iterate 2 (first
    | (refine wpTz_skip (by rfl) ?_; simp only [Act.put, List.setIfInBounds_toArray, List.set_cons_zero, List.set_cons_succ])
    | (refine wpTz_load 25 (.tmp 4) rfl g6 0 rfl (b8s P) _ (by rfl) (fun W hS => BlB.rng hS.2) Try.underlying25 rfl (info25.trans (congrArg some (by rw [b8s_length, HlP.out]))) ?_; simp only [Act.put, List.setIfInBounds_toArray, List.set_cons_zero, List.set_cons_succ])
    | (refine wpTz_q (v := ?_) (by rfl) (fun W hW => ?_) ?_
       rotate_left
       · (try dsimp only at hW); first | (go_simp; done) | (go_simp; with_reducible rfl)
       simp only [Act.put, List.setIfInBounds_toArray, List.set_cons_zero, List.set_cons_succ]))
  refine wpTz_b (fun KK hKK => ?_) wpTz_e
  go_wp2_with (go_at_call 160; refine callsOf (args' := #[.agg (b8s P).toArray, .string ⟨#[99, 108, 105, 101, 110, 116, 32, 105, 110]⟩]) (by with_reducible rfl) ?_; refine (Hk1.out _).mono ?_; rintro e w8 ⟨rfl, hb8⟩
               have y8 := (bdrew w7).trans hb8)
  refine hKK _ _ _ (fun _ h => h) ⟨x7.trans (y8.mono x7.size), Blk.call hr7 y8⟩ ?_
  clear hKK KK
  refine wpTz_b (fun KK hKK => ?_) wpTz_e
  go_wp2_with (go_at_call 55; refine callsOf (args' := #[.agg (b8s X1).toArray]) (by with_reducible rfl) ?_; refine (Hk3.out _).mono ?_; rintro e w9 ⟨rfl, hb9⟩
               have y9 := y8.trans (hb9.mono y8.size))
  refine hKK _ _ _ (fun _ h => h) ⟨x7.trans (y9.mono x7.size), Blk.call hr7 y9⟩ ?_
  clear hKK KK
  refine wpTz_b (fun KK hKK => ?_) wpTz_e
  go_wp2_with (go_at_call 160; refine callsOf (args' := #[.agg (b8s P).toArray, .string ⟨#[115, 101, 114, 118, 101, 114, 32, 105, 110]⟩]) (by with_reducible rfl) ?_; refine (Hk2.out _).mono ?_; rintro e w10 ⟨rfl, hb10⟩
               have y10 := y9.trans (hb10.mono y9.size))
  refine hKK _ _ _ (fun _ h => h) ⟨x7.trans (y10.mono x7.size), Blk.call hr7 y10⟩ ?_
  clear hKK KK
  refine wpTz_b (fun KK hKK => ?_) wpTz_e
  go_wp2_with (go_at_call 55; refine callsOf (args' := #[.agg (b8s X2).toArray]) (by with_reducible rfl) ?_; refine (Hk4.out _).mono ?_; rintro e w11 ⟨rfl, hb11⟩
               have y11 := y10.trans (hb11.mono y10.size)
               have hA2 := Blk.call hR2 y11
               have hA3 := Blk.call hR3 y11
               have hA6 := Blk.call hr7 y11
               have x11 := x7.trans (y11.mono x7.size))
  refine hKK _ _ _ (fun _ h => h) ⟨x11, hA6⟩ ?_
  clear hKK KK
  refine wpTz_b (fun KK hKK => ?_) wpTz_e
  go_wp2_with (refine stW (by rfl) 54 (.tmp 2) (.tmp 10) (by rfl) g2 (by rfl) C.cells (by rfl) Z0 hA2 77 info54 HlC.out Hlz.out (KS.cells_one _) ?_; intro w12 hr12 hg12)
  have x12 := x11.grown hg12 x11.size (fun x hx => by cases hx; exact hg2)
  have hA3' := Blk.grown hA3 hg12 (fun e => by cases e; exact n23 rfl)
  have hA6' := Blk.grown hA6 hg12 (fun e => by cases e; exact n62 rfl)
  refine hKK _ _ _ (fun _ h => h) ⟨x12, hA6'⟩ ?_
  clear hKK KK
  refine wpTz_b (fun KK hKK => ?_) wpTz_e
  go_wp2_with (refine stW (by rfl) 54 (.tmp 3) (.tmp 13) (by rfl) g3 (by rfl) D.cells (by rfl) Z0 hA3' 77 info54 HlD.out Hlz.out (KS.cells_one _) ?_; intro w13 hr13 hg13)
  have x13 := x12.grown hg13 x12.size (fun x hx => by cases hx; omega)
  have hF2 := Blk.grown hr12 hg13 (fun e => by cases e; exact n23 rfl)
  refine hKK _ _ _ (fun _ h => h) ⟨x13, Blk.grown hA6' hg13 (fun e => by cases e; exact n63 rfl)⟩ ?_
  clear hKK KK
  refine wpTz_done ?_
  go_wp2
  refine bodyPost_ret (retV2 rfl g2 g3 rfl rfl _ _ hF2 hr13 77 77 _ _ rfl rfl Try.underlying54 Try.underlying54 info54 info54 HlC.out HlD.out) rfl ⟨by rw [HeC.out, HeD.out], x13⟩

theorem take16 (l : List UInt8) (h : 16 ≤ l.length) : (l.take 16).length = 16 := by rw [List.length_take]; omega
set_option maxRecDepth 100000 in
set_option maxHeartbeats 4000000 in
theorem token_any (s : List UInt8) (u : Value) (cid : List UInt8) (w : World) (hs : s.length = 32) (hu : Sl w w.heap.size u cid) (hn : cid.length ≤ 549755813888) :
    Calls Try.prog 61 #[.agg (b8s s).toArray, u] w fun e w' => e = .returned (.agg (b8s (resetTok s cid)).toArray) ∧ Below w.heap.size w w' := by
  have zero66 : ((Try.prog.info? 66).bind (·.zero)).map (·.cells) = some (b8s (List.replicate 16 0)).toArray := by kernel_rfl
  obtain ⟨Y, hY⟩ : ∃ z, z = (b8s (List.replicate 32 0)).toArray := ⟨_, rfl⟩
  have hzY := zero25
  rw [← hY] at hzY
  have HY := Lib.hid hY; clear hY
  have HzY := Lib.hid hzY; clear hzY
  obtain ⟨Z, hZ⟩ : ∃ z, z = (b8s (List.replicate 16 0)).toArray := ⟨_, rfl⟩
  have hzZ := zero66
  rw [← hZ] at hzZ
  have HZ := Lib.hid hZ; clear hZ
  have HzZ := Lib.hid hzZ; clear hzZ
  clear zero66
  obtain ⟨M, hM⟩ : ∃ z, z = mac s cid := ⟨_, rfl⟩
  have lM : M.length = 32 := by rw [hM]; exact mac_length _ _
  have eT : resetTok s cid = M.take 16 := by rw [hM]; rfl
  have lT : (M.take 16).length = 16 := take16 M (by omega)
  obtain ⟨T, hT⟩ : ∃ z, z = M.take 16 := ⟨_, rfl⟩
  rw [← hT] at eT lT
  have hpt := fun p c W => run_arrayAt Try.underlying66 p 16 c (by decide) W
  have ecut := fun W g => cutP_h Try.underlying25 W g 0 16 16 .i64 rfl (by decide) (by decide)
  have HM := Lib.hid hM; clear hM
  have HlM := Lib.hid lM; clear lM
  have HeT := Lib.hid eT; clear eT
  have HlT := Lib.hid lT; clear lT
  have Hs := Lib.hid hs; clear hs
  have HT := Lib.hid hT; clear hT
  go_enter Try.func61, Try.ntmps61
  go_wp2_with (first
    | (refine box_abs rfl 25 (.tmp 0) rfl (b8s s).toArray rfl ?_; intro g1 w1 hg1 hg1' hr1 hb1)
    | (refine allocAt 4 rfl rfl 66 rfl Z HzZ.out ?_; intro g2 w2 hg2 hg2' hr2 hb2
       rw [HZ.out] at hr2
       have x2 := hb1.trans (hb2.mono hb1.size)
       have hr1' := Blk.call hr1 hb2
       have hu2 := (hu.below x2 (Nat.le_refl _)).more x2.size)
    | (refine mkL1 rfl (.tmp 7) rfl cid hu2 ?_; intro g3 w3 hg3 hg3' hO3 hb3
       have hs3 : Sl w3 w3.heap.size (.slice (some ⟨g1, 0, none⟩) 32 32) s := Sl.mk (BlB.all (Blk.call hr1' hb3)) Hs.out.symm (by rw [Hs.out]; omega) (by unfold maxLen; omega))
    | (go_at_call 46; refine (mac_of _ s [cid] cid (List.append_nil _) _ _ _ _ _ hs3 hO3 hb3.size (by rw [Hs.out]; omega) (Nat.le_of_ble_eq_true rfl) hn).mono ?_; rintro e w4 ⟨rfl, hb4⟩
       rw [← HM.out]
       have y4 := hb3.trans (hb4.mono hb3.size))
    | (refine allocAt 5 rfl rfl 25 rfl Y HzY.out ?_; intro g5 w5 hg5 hg5' hr5 hb5
       rw [HY.out] at hr5
       have y5 := y4.trans (hb5.mono y4.size))
    | (refine stB rfl 25 (.tmp 5) (.tmp 9) rfl g5 rfl M rfl _ hr5 32 info25 HlM.out (by simp) ?_; intro w6 hr6 hg6
       have y6 := y5.grown hg6 y5.size (fun x hx => by cases hx; exact Nat.le_trans y4.size hg5)
       have hr2' := Blk.call hr2 y6
       have x6 := x2.trans (y6.mono x2.size)
       have q6 := rangeAt_take (BlB.rng hr6) 16
       rw [← HT.out] at q6)
    | (refine ldV rfl 66 (.tmp 11) rfl g5 0 rfl (b8s T) q6 _ rfl Try.underlying66 16 info66 (by rw [b8s_length, HlT.out]) ?_)
    | (refine stB rfl 66 (.tmp 4) (.tmp 12) rfl g2 rfl T rfl _ hr2' 16 info66 HlT.out (by simp) ?_; intro w7 hr7 hg7))
  refine bodyPost_ret (retB rfl g2 rfl T hr7 16 Try.underlying66 info66 HlT.out) rfl ⟨by rw [HeT.out], ?_⟩
  exact x6.grown hg7 x6.size (fun x hx => by cases hx; exact Nat.le_trans hb1.size hg2)
end Go.Proofs.Ytillnpllcfleeaa
