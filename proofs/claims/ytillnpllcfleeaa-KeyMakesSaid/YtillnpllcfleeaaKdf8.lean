/- Law 07: what is known by examples. -/
import Derived.Test.YtillnpllcfleeaaKdf7
namespace Go.Proofs.Ytillnpllcfleeaa
open Go Go.RowKit

theorem kmac : mac (List.replicate 20 11) [72, 105, 32, 84, 104, 101, 114, 101] = [176, 52, 76, 97, 216, 219, 56, 83, 92, 168, 175, 206, 175, 11, 241, 43, 136, 29, 194, 0, 201, 131, 61, 167, 38, 233, 55, 108, 46, 50, 207, 247] := by decide +kernel
def kPrk : List UInt8 := [7, 119, 9, 54, 44, 46, 50, 223, 13, 220, 63, 13, 196, 123, 186, 99, 144, 182, 199, 59, 181, 15, 156, 49, 34, 236, 132, 74, 215, 194, 179, 229]
theorem kext : mac (riseL 0 13) (List.replicate 22 11) = kPrk := by decide +kernel
theorem kexp : expand kPrk (riseL 240 10) 42 = [60, 178, 95, 37, 250, 172, 213, 122, 144, 67, 79, 100, 208, 54, 47, 42, 45, 45, 10, 144, 207, 26, 90, 76, 93, 176, 45, 86, 236, 196, 197, 191, 52, 0, 114, 8, 213, 184, 135, 24, 88, 101] := by decide +kernel

/-- bytes as a string, told by what they are -/
theorem to_str {w : World} {B : Nat} {A : Option Addr} {bs : List UInt8} (h : RdB w B A bs) (n c : Nat) (hn : n = bs.length) (S : ByteArray) (hS : strOf bs = S) : (convert 28 9 (.slice A n c)).run Try.prog w = .ok (.string S) w := by
  subst hn
  subst hS
  exact run_to_string h c
set_option maxRecDepth 100000 in
set_option maxHeartbeats 4000000 in
theorem known07 (w : World) : Calls Try.prog 44 #[] w fun e w' => e = .returned (.bool true) ∧ Below w.heap.size w w' := by
  obtain ⟨Z, hZ⟩ : ∃ z, z = (b8s (List.replicate 32 0)).toArray := ⟨_, rfl⟩
  have hzZ := zero25
  rw [← hZ] at hzZ
  have HZ := Lib.hid hZ; clear hZ
  have HzZ := Lib.hid hzZ; clear hzZ
  obtain ⟨R1, hR1⟩ : ∃ z, z = mac (List.replicate 20 11) [72, 105, 32, 84, 104, 101, 114, 101] := ⟨_, rfl⟩
  have lR1 : R1.length = 32 := by rw [hR1, kmac]; rfl
  have lK : kPrk.length = 32 := rfl
  obtain ⟨PK, hPK⟩ : ∃ z, z = kPrk := ⟨_, rfl⟩
  rw [← hPK] at lK
  have hext := kext
  rw [← hPK] at hext
  obtain ⟨X1, hX1⟩ : ∃ z, z = expand PK (riseL 240 10) 42 := ⟨_, rfl⟩
  have hs1 : strOf R1 = ⟨#[176, 52, 76, 97, 216, 219, 56, 83, 92, 168, 175, 206, 175, 11, 241, 43, 136, 29, 194, 0, 201, 131, 61, 167, 38, 233, 55, 108, 46, 50, 207, 247]⟩ := by rw [hR1, kmac]; rfl
  have hs2 : strOf (PK.take 4) = ⟨#[7, 119, 9, 54]⟩ := by rw [hPK]; rfl
  have hs3 : strOf X1 = ⟨#[60, 178, 95, 37, 250, 172, 213, 122, 144, 67, 79, 100, 208, 54, 47, 42, 45, 45, 10, 144, 207, 26, 90, 76, 93, 176, 45, 86, 236, 196, 197, 191, 52, 0, 114, 8, 213, 184, 135, 24, 88, 101]⟩ := by rw [hX1, hPK, kexp]; rfl
  have lX1 : X1.length = 42 := by rw [hX1]; exact expand_length _ _ _
  have hc1 : ∀ W, Calls Try.prog 149 #[.int .u8 11, .int .i64 20] W fun e w' => ∃ v, e = .returned v ∧ Own w' W.heap.size v (List.replicate 20 11) ∧ Below W.heap.size W w' := fun W => same_any 11 20 W (by decide)
  have hc2 : ∀ W, Calls Try.prog 149 #[.int .u8 11, .int .i64 22] W fun e w' => ∃ v, e = .returned v ∧ Own w' W.heap.size v (List.replicate 22 11) ∧ Below W.heap.size W w' := fun W => same_any 11 22 W (by decide)
  have hc3 : ∀ W, Calls Try.prog 150 #[.int .u8 0, .int .i64 13] W fun e w' => ∃ v, e = .returned v ∧ Own w' W.heap.size v (riseL 0 13) ∧ Below W.heap.size W w' := fun W => rise_any 0 13 W (by decide)
  have hc4 : ∀ W, Calls Try.prog 150 #[.int .u8 240, .int .i64 10] W fun e w' => ∃ v, e = .returned v ∧ Own w' W.heap.size v (riseL 240 10) ∧ Below W.heap.size W w' := fun W => rise_any 240 10 W (by decide)
  have hc5 : ∀ W (u : Value), Sl W W.heap.size u (riseL 240 10) → Calls Try.prog 48 #[.agg (b8s PK).toArray, u, .int .i64 42] W fun e w' => ∃ v, e = .returned v ∧ Own w' W.heap.size v X1 ∧ Below W.heap.size W w' := fun W u hu => by
    rw [hX1]; exact expand_yes PK (riseL 240 10) u 42 W lK hu (by decide) (by decide) (by decide)
  have Hc1 := Lib.hid hc1; clear hc1
  have Hc2 := Lib.hid hc2; clear hc2
  have Hc3 := Lib.hid hc3; clear hc3
  have Hc4 := Lib.hid hc4; clear hc4
  have Hc5 := Lib.hid hc5; clear hc5
  have Hs1 := Lib.hid hs1; clear hs1
  have Hs2 := Lib.hid hs2; clear hs2
  have Hs3 := Lib.hid hs3; clear hs3
  have HR1 := Lib.hid hR1; clear hR1
  have HPK := Lib.hid hPK; clear hPK
  have HX1 := Lib.hid hX1; clear hX1
  have HlR1 := Lib.hid lR1; clear lR1
  have HlK := Lib.hid lK; clear lK
  have HlX1 := Lib.hid lX1; clear lX1
  have Hext := Lib.hid hext; clear hext
  go_enter Try.func44, Try.ntmps44
  go_wp2_with (first
    | (go_at_call 149; refine callsOf (args' := #[.int .u8 11, .int .i64 20]) (by with_reducible rfl) ?_; refine (Hc1.out _).mono ?_; rintro e w1 ⟨v1, rfl, hO1, hb1⟩)
    | (refine litC rfl rfl 8 [(0, .const (.int .u8 72)), (1, .const (.int .u8 105)), (2, .const (.int .u8 32)), (3, .const (.int .u8 84)), (4, .const (.int .u8 104)), (5, .const (.int .u8 101)), (6, .const (.int .u8 114)), (7, .const (.int .u8 101))] rfl 5 rfl [72, 105, 32, 84, 104, 101, 114, 101] [72, 105, 32, 84, 104, 101, 114, 101] rfl rfl rfl (by decide) (fun _ => rfl) ?_; intro g2 w2 hg2 hg2' hr2 hb2
       have hx2 : Sl w2 w2.heap.size v1 (List.replicate 20 11) := (hO1.sl.below hb2 (Nat.le_refl _)).more hb2.size
       have x2 := hb1.trans (hb2.mono hb1.size))
    | (refine mkL1 rfl (.tmp 6) rfl _ (Sl.mk hr2 rfl (by decide) (by decide)) ?_; intro g3 w3 hg3 hg3' hO3 hb3
       have hx3 : Sl w3 w3.heap.size v1 (List.replicate 20 11) := (hx2.below hb3 (Nat.le_refl _)).more hb3.size
       have x3 := x2.trans (hb3.mono x2.size))
    | (go_at_call 46; refine (mac_of v1 _ _ _ (List.append_nil _) _ _ _ _ _ hx3 hO3 hb3.size (by decide) (by decide) (by decide)).mono ?_; rintro e w4 ⟨rfl, hb4⟩
       rw [← HR1.out]
       have x4 := x3.trans (hb4.mono x3.size))
    | (refine allocAt 1 rfl rfl 25 rfl Z HzZ.out ?_; intro g5 w5 hg5 hg5' hr5 hb5
       rw [HZ.out] at hr5
       have x5 := x4.trans (hb5.mono x4.size))
    | (refine stB rfl 25 (.tmp 1) (.tmp 8) rfl g5 rfl R1 rfl _ hr5 32 info25 HlR1.out (by simp) ?_; intro w6 hr6 hg6
       have x6 := x5.grown hg6 x5.size (fun x hx => by cases hx; exact Nat.le_trans x4.size hg5))
    | (go_at_call 150; refine callsOf (args' := #[.int .u8 0, .int .i64 13]) (by with_reducible rfl) ?_; refine (Hc3.out _).mono ?_; rintro e w7 ⟨v7, rfl, hO7, hb7⟩
       have x7 := x6.trans (hb7.mono x6.size)
       have y7 := hb7)
    | (go_at_call 149; refine callsOf (args' := #[.int .u8 11, .int .i64 22]) (by with_reducible rfl) ?_; refine (Hc2.out _).mono ?_; rintro e w8 ⟨v8, rfl, hO8, hb8⟩
       have hx8 : Sl w8 w8.heap.size v7 (riseL 0 13) := (hO7.sl.below hb8 (Nat.le_refl _)).more hb8.size
       have x8 := x7.trans (hb8.mono x7.size)
       have y8 := y7.trans (hb8.mono y7.size))
    | (go_at_call 47; refine (extract_any v7 v8 _ _ _ hx8 hO8.sl (by decide) (by decide)).mono ?_; rintro e w9 ⟨rfl, hb9⟩
       rw [Hext.out]
       have x9 := x8.trans (hb9.mono x8.size)
       have y9 := y8.trans (hb9.mono y8.size))
    | (refine allocAt 2 rfl rfl 25 rfl Z HzZ.out ?_; intro g10 w10 hg10 hg10' hr10 hb10
       rw [HZ.out] at hr10
       have x10 := x9.trans (hb10.mono x9.size)
       have y10 := y9.trans (hb10.mono y9.size))
    | (refine stB rfl 25 (.tmp 2) (.tmp 11) rfl g10 rfl PK rfl _ hr10 32 info25 HlK.out (by simp) ?_; intro w11 hr11 hg11
       have x11 := x10.grown hg11 x10.size (fun x hx => by cases hx; exact Nat.le_trans x9.size hg10)
       have y11 := y10.grown hg11 y10.size (fun x hx => by cases hx; exact Nat.le_trans y9.size hg10)
       have hr1 := Blk.call hr6 y11))
  clear hO1 hb1 hO3 hb3 hx3 hx2 hr2 hb2 hb4 hr5 hb5 hg6 hr6 hO7 hb7 hO8 hx8 hb8 hb9 hr10 hb10 hg11 x2 x3 x4 x5 x6 x7 x8 x9 x10 y7 y8 y9 y10 y11 hg2 hg2' hg3 hg3' hg5 hg5' hg10 hg10'
  refine wp_region_ord (fun W => Below w11.heap.size w11 W) (.q 0 <| .m 1 <| .m 2 <| .q 3 <| .done) (by kernel_rfl) (by kernel_rfl) (by kernel_rfl) (bdrew w11) ?_
  simp only [tr, List.getElem?_cons_succ, List.getElem?_cons_zero]
  refine wpTr_load 25 (.tmp 2) rfl g10 0 rfl (b8s PK) _ (by rfl) (fun W hS => BlB.rng (Blk.call hr11 hS)) Try.underlying25 rfl (info25.trans (congrArg some (by rw [b8s_length, HlK.out]))) ?_
  simp only [Act.put, List.setIfInBounds_toArray, List.set_cons_zero, List.set_cons_succ]
  refine wpTr_m (fun K hK => ?_)
  go_wp2_with (go_at_call 150; refine callsOf (args' := #[.int .u8 240, .int .i64 10]) (by with_reducible rfl) ?_; refine (Hc4.out _).mono ?_; rintro e w12 ⟨v12, rfl, hO12, hb12⟩
               have y12 : Below w11.heap.size w11 w12 := (bdrew w11).trans hb12)
  refine hK _ _ y12 ?_
  clear hK K
  refine wpTr_m (fun K hK => ?_)
  go_wp2_with (go_at_call 48; refine (Hc5.out _ _ hO12.sl).mono ?_; rintro e w13 ⟨v13, rfl, hS13, hb13⟩
               have y13 := y12.trans (hb13.mono y12.size))
  refine hK _ _ y13 ?_
  clear hK K
  obtain ⟨A13, c13, rfl, hc13, hm13, hr13⟩ := hS13.sl
  iterate 1 (first
    | (refine wpTr_skip (by rfl) ?_; simp only [Act.put, List.setIfInBounds_toArray, List.set_cons_zero, List.set_cons_succ])
    | (refine wpTr_q (v := ?_) (by rfl) (fun W hW => ?_) ?_
       rotate_left
       · first | (go_simp; done) | (go_simp; with_reducible rfl)
       simp only [Act.put, List.setIfInBounds_toArray, List.set_cons_zero, List.set_cons_succ]))
  refine wpTr_done ?_
  have e1 := to_str (BlB.all (Blk.call hr1 y13)) 32 32 HlR1.out.symm _ Hs1.out
  have e2 := to_str ((BlB.all (Blk.call hr11 y13)).cuth (hi := 4) (by rw [HlK.out]; decide)) 4 32 (by rw [List.length_take, HlK.out]; rfl) _ Hs2.out
  have e3 := to_str hr13 X1.length c13 rfl _ Hs3.out
  have ecut := fun W => cutP_h Try.underlying25 W g10 0 4 4 .i64 rfl (by decide) (by decide)
  go_wp2
  go_ret
  exact ⟨rfl, x11.trans (y13.mono x11.size)⟩
end Go.Proofs.Ytillnpllcfleeaa
