/- Walks of layer 8, the reference's side: two bytes multiplied, the other one of a byte, the box. -/
import Derived.Test.YtillnpllcfleeaaAes1
namespace Go.Proofs.Ytillnpllcfleeaa
open Go Go.RowKit

theorem u8_is (x : UInt8) (n : Nat) (hn : n < 256) (h : x = UInt8.ofNat n) : (u8v x == (n : Int)) = true := by
  rw [h, u8v_lit n hn]; simp
theorem u8_not (x : UInt8) (n : Nat) (hn : n < 256) (h : ¬ x = UInt8.ofNat n) : (u8v x == (n : Int)) = false := by
  rw [beq_eq_false_iff_ne]
  intro e
  rw [← u8v_lit n hn] at e
  exact h (u8v_inj e)
theorem u8_le (x y : UInt8) : x ≤ y ↔ u8v x ≤ u8v y := by
  unfold u8v; rw [UInt8.le_iff_toNat_le]; omega

set_option maxHeartbeats 1000000 in
theorem times_any (a b : UInt8) (w : World) : Calls Try.prog 148 #[.int .u8 (u8v a), .int .u8 (u8v b)] w fun e w' => e = .returned (.int .u8 (u8v (times a b))) ∧ w' = w := by
  go_enter Try.func148, Try.ntmps148
  go_wp2
  go_loop [0, 1, 5, 6] (fun v0 v1 v5 i => ∃ (k : Nat) (x y z : UInt8), k ≤ 8 ∧ i = .int .i64 k ∧ v0 = .int .u8 (u8v y) ∧ v1 = .int .u8 (u8v z) ∧ v5 = .int .u8 (u8v x) ∧ Hid (tmAt a b k = (x, y, z))) (fun _ _ _ i => 8 - (intOf i).toNat)
  case atStart => exact ⟨0, 0, a, b, by omega, rfl, rfl, rfl, rfl, Lib.hid rfl⟩
  case round =>
    obtain ⟨k, x, y, z, hk, rfl, rfl, rfl, rfl, hs⟩ := hrel
    by_cases hlt : k < 8
    · have e : tmAt a b (k + 1) = (if z % 2 = 1 then x ^^^ y else x, if 128 ≤ y then (2 * y) ^^^ 27 else 2 * y, z / 2) := by rw [tmAt, hs.out]; rfl
      by_cases h1 : z % 2 = 1
      · have t1 := u8_is (z % 2) 1 (by decide) h1
        rw [if_pos h1] at e
        by_cases h2 : 128 ≤ y
        · have t2 : (128 : Int) ≤ u8v y := (u8_le 128 y).1 h2
          rw [if_pos h2] at e
          have He := Lib.hid e; clear e h1 h2
          go_wp2
          go_round
          case rel => exact ⟨k + 1, _, _, _, hlt, by go_num, rfl, rfl, rfl, He⟩
          case measure => simp [intOf]; omega
        · have t2 : ¬ (128 : Int) ≤ u8v y := fun t => h2 ((u8_le 128 y).2 t)
          rw [if_neg h2] at e
          have He := Lib.hid e; clear e h1 h2
          go_wp2
          go_round
          case rel => exact ⟨k + 1, _, _, _, hlt, by go_num, rfl, rfl, rfl, He⟩
          case measure => simp [intOf]; omega
      · have t1 := u8_not (z % 2) 1 (by decide) h1
        rw [if_neg h1] at e
        by_cases h2 : 128 ≤ y
        · have t2 : (128 : Int) ≤ u8v y := (u8_le 128 y).1 h2
          rw [if_pos h2] at e
          have He := Lib.hid e; clear e h1 h2
          go_wp2
          go_round
          case rel => exact ⟨k + 1, _, _, _, hlt, by go_num, rfl, rfl, rfl, He⟩
          case measure => simp [intOf]; omega
        · have t2 : ¬ (128 : Int) ≤ u8v y := fun t => h2 ((u8_le 128 y).2 t)
          rw [if_neg h2] at e
          have He := Lib.hid e; clear e h1 h2
          go_wp2
          go_round
          case rel => exact ⟨k + 1, _, _, _, hlt, by go_num, rfl, rfl, rfl, He⟩
          case measure => simp [intOf]; omega
    · have e8 : k = 8 := by omega
      subst e8
      go_wp2
      go_ret
      refine ⟨?_, rfl⟩
      unfold times
      rw [hs.out]; rfl

theorem half254 : ∀ k, k < 8 → 0 < 254 / 2 ^ k := by decide
set_option maxHeartbeats 1000000 in
theorem subRef_any (b : UInt8) (w : World) : Calls Try.prog 147 #[.int .u8 (u8v b)] w fun e w' => e = .returned (.int .u8 (u8v (sub b))) ∧ w' = w := by
  rw [← subRef_is b]
  obtain ⟨R, hR⟩ : ∃ R, R = subRef b := ⟨_, rfl⟩
  rw [← hR]
  have HR := Lib.hid hR; clear hR
  go_enter Try.func147, Try.ntmps147
  go_wp2
  go_loop [3, 4, 5] (fun v3 v4 v5 => ∃ (k N : Nat) (y x : UInt8), k ≤ 8 ∧ N ≤ 254 ∧ v5 = .int .i64 N ∧ v3 = .int .u8 (u8v y) ∧ v4 = .int .u8 (u8v x) ∧ Hid (N = 254 / 2 ^ k) ∧ Hid (powAt b k = (y, x))) (fun _ _ v5 => (intOf v5).toNat)
  case atStart => exact ⟨0, 254, 1, b, by omega, by omega, rfl, rfl, rfl, Lib.hid rfl, Lib.hid rfl⟩
  case round =>
    obtain ⟨k, N, y, x, hk, hN, rfl, rfl, rfl, hn, hs⟩ := hrel
    by_cases hlt : k < 8
    · have h0 := half254 k hlt
      rw [← hn.out] at h0
      have hn2 : N / 2 = 254 / 2 ^ (k + 1) := by rw [hn.out, Nat.div_div_eq_div_mul, ← Nat.pow_succ]
      have Hn2 := Lib.hid hn2; clear hn2
      have e : powAt b (k + 1) = (if N % 2 = 1 then times y x else y, times x x) := by rw [powAt, hs.out, hn.out]
      by_cases h1 : N % 2 = 1
      · rw [if_pos h1] at e
        have He := Lib.hid e; clear e
        go_wp2_with (go_at_call 148; refine (times_any _ _ _).mono ?_; rintro e w' ⟨rfl, rfl⟩)
        go_round
        case rel => exact ⟨k + 1, N / 2, _, _, hlt, by omega, by go_num, rfl, rfl, Hn2, He⟩
        case measure => simp [intOf]; omega
      · rw [if_neg h1] at e
        have He := Lib.hid e; clear e
        go_wp2_with (go_at_call 148; refine (times_any _ _ _).mono ?_; rintro e w' ⟨rfl, rfl⟩)
        go_round
        case rel => exact ⟨k + 1, N / 2, _, _, hlt, by omega, by go_num, rfl, rfl, Hn2, He⟩
        case measure => simp [intOf]; omega
    · have e8 : k = 8 := by omega
      subst e8
      have hN0 : N = 0 := by rw [hn.out]
      subst hN0
      have hR2 : R = affAt y 5 := by rw [HR.out]; unfold subRef; rw [hs.out]
      have HR2 := Lib.hid hR2; clear hR2 hn hs HR
      go_wp2
      go_loop [3, 6, 7] (fun v3 v6 v7 => ∃ (j : Nat) (u v : UInt8), j ≤ 5 ∧ v7 = .int .i64 j ∧ v3 = .int .u8 (u8v u) ∧ v6 = .int .u8 (u8v v) ∧ Hid (u = rotN y j) ∧ Hid (v = affAt y j)) (fun _ _ v7 => 5 - (intOf v7).toNat)
      case atStart => exact ⟨0, y, 99, by omega, rfl, rfl, rfl, Lib.hid rfl, Lib.hid rfl⟩
      case round =>
        obtain ⟨j, u, v, hj, rfl, rfl, rfl, hu, hv⟩ := hrel
        by_cases hlt2 : j < 5
        · have e1 : rot1 u = rotN y (j + 1) := by rw [rotN, hu.out]
          have e2 : v ^^^ u = affAt y (j + 1) := by rw [affAt, hu.out, hv.out]
          have E1 := Lib.hid e1; clear e1
          have E2 := Lib.hid e2; clear e2
          go_wp2
          go_round
          case rel => exact ⟨j + 1, rot1 u, v ^^^ u, hlt2, by go_num, rfl, rfl, E1, E2⟩
          case measure => simp [intOf]; omega
        · have e5 : j = 5 := by omega
          subst e5
          go_wp2
          go_ret
          exact ⟨by rw [HR2.out, hv.out]; rfl, rfl⟩

theorem subRef_nat (k : Nat) (hk : k < 256) (w : World) : Calls Try.prog 147 #[.int .u8 (k : Int)] w fun e w' => e = .returned (.int .u8 (u8v (sub (UInt8.ofNat k)))) ∧ w' = w := by
  have := subRef_any (UInt8.ofNat k) w
  rwa [u8v_lit k hk] at this
theorem sbox_tab : tab 256 (fun i => sub (UInt8.ofNat i)) = sbox := by
  refine bAt_ext _ _ (by rw [tab_length, sbox_length]) fun i hi => ?_
  rw [tab_length] at hi
  rw [bAt_tab _ _ _ hi]
  unfold sub
  rw [toNat_UInt8_lit hi]
theorem tab_succ (n : Nat) (f : Nat → UInt8) : tab (n + 1) f = tab n f ++ [f n] := by
  unfold tab
  rw [List.range_succ, List.map_append]; rfl

set_option maxRecDepth 100000 in
set_option maxHeartbeats 1000000 in
theorem box_any (w : World) : Calls Try.prog 40 #[] w fun e w' => ∃ v, e = .returned v ∧ Own w' w.heap.size v sbox ∧ Below w.heap.size w w' := by
  rw [← sbox_tab]
  go_enter Try.func40, Try.ntmps40
  go_wp2
  go_loopw [1, 2] (fun v1 i wr => ∃ k : Nat, k ≤ 256 ∧ i = .int .i64 k ∧ Own wr w.heap.size v1 (tab k fun i => sub (UInt8.ofNat i)) ∧ Below w.heap.size w wr) (fun _ i _ => 256 - (intOf i).toNat)
  case atStart => exact ⟨0, by omega, rfl, Own.nil _ _, Below.refl _ _⟩
  case round =>
    obtain ⟨k, hk, rfl, hO, hbel⟩ := hrel
    by_cases hlt : k < 256
    · have hs := tab_succ k (fun i => sub (UInt8.ofNat i))
      have hl := tab_length k (fun i => sub (UInt8.ofNat i))
      generalize hL : tab k (fun i => sub (UInt8.ofNat i)) = L at *
      have Hs := Lib.hid hs; clear hs
      have Hl := Lib.hid hl; clear hl hL
      go_wp2_with (first
        | (go_at_call 147; refine (subRef_nat k hlt _).mono ?_; rintro e w' ⟨rfl, rfl⟩)
        | (at_builtin; refine app1 rfl (.tmp 7) (.tmp 11) rfl w.heap.size _ L rfl hO _ _ rfl rfl (by rw [Hl.out]; omega) hbel.size ?_; intro v1 w1 hown1 hg1 hat1))
      go_roundw
      case rel => exact ⟨k + 1, hlt, by go_num, by rw [Hs.out]; exact hown1, hbel.grown hg1 hbel.size (fun x hx => (hO.lt x hx).1)⟩
      case measure => simp [intOf]; omega
    · have e : k = 256 := by omega
      subst e
      go_wp2
      go_ret
      exact ⟨_, rfl, hO, hbel⟩

set_option maxRecDepth 100000 in
set_option maxHeartbeats 1000000 in
theorem sub_any (b : UInt8) (w : World) : Calls Try.prog 39 #[.int .u8 (u8v b)] w fun e w' => e = .returned (.int .u8 (u8v (sub b))) ∧ Below w.heap.size w w' := by
  obtain ⟨Z, hZ⟩ : ∃ Z, Z = (b8s (List.replicate 256 0)).toArray := ⟨_, rfl⟩
  have hz := zero221
  rw [← hZ] at hz
  have HZ := Lib.hid hZ; clear hZ
  have Hz := Lib.hid hz; clear hz
  obtain ⟨S, hS⟩ : ∃ S, S = sbox := ⟨_, rfl⟩
  have hsl : S.length = 256 := by rw [hS]; exact sbox_length
  have hc := boxes_any
  rw [← hS] at hc
  have hsub : bAt S b.toNat = sub b := by rw [hS]; rfl
  have HS := Lib.hid hS; clear hS
  have Hsl := Lib.hid hsl; clear hsl
  have Hc := Lib.hid hc; clear hc
  have Hsub := Lib.hid hsub; clear hsub
  have hbl := u8v_lt b
  have hb1 := hbl.1
  have hb2 := hbl.2
  have ht : (u8v b).toNat = b.toNat := by unfold u8v; rfl
  go_enter Try.func39, Try.ntmps39
  go_wp2_with (first
    | (go_at_call 143; refine (Hc.out _).mono ?_; rintro e w0 ⟨rfl, hbA⟩)
    | (refine alloc_abs rfl 221 rfl Z Hz.out ?_; intro g w1 hg1 hg2 hg hbB; rw [HZ.out] at hg; have hz1 := hbA.size)
    | (refine stB rfl 221 (.tmp 3) (.tmp 4) rfl g rfl S rfl (List.replicate 256 0) hg 256 info221 Hsl.out (by simp) ?_; intro w2 hB hgw
       have hcell := hB.at b.toNat (by rw [Hsl.out]; exact b.toNat_lt)
       rw [Hsub.out] at hcell))
  go_ret
  exact ⟨rfl, (hbA.trans (hbB.mono hz1)).grown hgw (Nat.le_trans hz1 hbB.size) (fun x hx => by cases hx; omega)⟩
end Go.Proofs.Ytillnpllcfleeaa
