/- Function 6: the law AesSeals (under way). -/
import Derived.Test.YtillnpllcfleeaaAes8
import Derived.Test.YtillnpllcfleeaaAes10
namespace Go.Proofs.Ytillnpllcfleeaa
open Go Go.RowKit

theorem strOf_size (l : List UInt8) : (strOf l).size = l.length := by unfold strOf; simp [ByteArray.size]
theorem strOf_add (l m : List UInt8) : strOf l ++ strOf m = strOf (l ++ m) := by
  unfold strOf
  apply ByteArray.ext
  simp
theorem all_rd {w : World} {g : Nat} {t : TypeId} {l : List UInt8} {n : Nat} (hb : BlB w g t l) (h : l.length = n) : RdB w w.heap.size (some ⟨g, 0, none⟩) l := by
  have hr := hb.rd 0 n (by omega)
  rwa [List.drop_zero, List.take_of_length_le (by omega)] at hr

set_option maxRecDepth 100000 in
set_option maxHeartbeats 4000000 in
theorem seals_any (x : UInt8) (key b : List UInt8) (w : World) (hk : key.length = 16) (hb : b.length = 16) :
    Calls Try.prog 6 #[.int .u8 (u8v x), .agg (b8s key).toArray, .agg (b8s b).toArray] w fun e w' => e = .returned (.bool true) ∧ Below w.heap.size w w' := by
  have Hk := Lib.hid hk; clear hk
  have Hb := Lib.hid hb; clear hb
  obtain ⟨S, hS⟩ : ∃ S, S = sbox := ⟨_, rfl⟩
  have hSl : S.length = 256 := by rw [hS]; exact sbox_length
  have hbx := box_any
  have hcol := columns_any
  rw [← hS] at hbx
  simp only [← hS] at hcol
  have HS := Lib.hid hS; clear hS
  have HSl := Lib.hid hSl; clear hSl
  have Hbx := Lib.hid hbx; clear hbx
  have Hcol := Lib.hid hcol; clear hcol
  go_enter Try.func6, Try.ntmps6
  go_wp2_with (first
    | (have _h := hgk1; refine box_abs rfl 32 (.tmp 2) rfl (b8s b).toArray rfl ?_; intro gb w2 hgb1 hgb2 hbb hb2
       have hkA := hkk.call hb2
       have hz2 := hb2.size)
    | (refine box_abs rfl 32 (.tmp 1) rfl (b8s key).toArray rfl ?_; intro gk w1 hgk1 hgk2 hkk hb1
       have hz1 := hb1.size)
    | (go_at_call 36; refine (known_any _).mono ?_; rintro e w3 ⟨rfl, hb3⟩
       have hkB := hkA.call hb3
       have hbB := hbb.call hb3
       have hz3 := hb3.size
       have hbw3 : Below w.heap.size w w3 := hb1.trans ((hb2.mono hz1).trans (hb3.mono (Nat.le_trans hz1 hz2))))
    | (go_at_call 40; refine (Hbx.out _).mono ?_; rintro e w4 ⟨v7, rfl, hO7, hb4⟩
       have hkC := hkB.call hb4
       have hbC := hbB.call hb4
       have hz4 := hb4.size
       have hbw4 := hbw3.trans (hb4.mono hbw3.size)
       obtain ⟨g7, c7, rfl, hg7, hl7, hc7, hm7⟩ := hO7.loc (by rw [HSl.out]; decide)
       rw [HSl.out] at hO7 hc7 ⊢)
    | (go_at_call 41; refine (Hcol.out _ _ _ _ key _ Hk.out hO7.rd (all_rd hkC Hk.out)).mono ?_; rintro e w5 ⟨v8, rfl, hO8, hb5⟩
       have hkD := hkC.call hb5
       have hbD := hbC.call hb5
       have hO7D := hO7.below hb5 (Nat.le_refl _)
       have hz5 := hb5.size
       have hbw5 := hbw4.trans (hb5.mono hbw4.size))
    | (refine ldB rfl 32 (.tmp 4) rfl gk rfl key hkD 16 Try.underlying32 info32 Hk.out ?_)
    | (go_at_call 42; refine (roundKeys_any key _ Hk.out).mono ?_; rintro e w6 ⟨rfl, hb6⟩
       have hkE := hkD.call hb6
       have hbE := hbD.call hb6
       have hO7E := hO7D.below hb6 (Nat.le_refl _)
       have hO8E := hO8.below hb6 (Nat.le_refl _)
       have hbw6 := hbw5.trans (hb6.mono hbw5.size)))
  obtain ⟨C, hC⟩ : ∃ C, C = cols key := ⟨_, rfl⟩
  have hCl : C.length = 176 := by rw [hC]; exact cols_length key Hk.out
  rw [← hC] at hO8 hO8E ⊢
  have HC := Lib.hid hC; clear hC
  have HCl := Lib.hid hCl; clear hCl
  obtain ⟨g8, c8, rfl, hg8, hl8, hc8, hm8⟩ := hO8E.loc (by rw [HCl.out]; decide)
  rw [HCl.out] at hO8E hc8 ⊢
  clear hO8 hb5 hb6 hkD hbD hO7D hz5 hbw5 hkC hbC hz4 hbw4 hO7 hb4 hkA hkB hbB hkk hbb hb1 hb2 hb3 hz1 hz2 hz3 hbw3 _h hgk1 hgk2 hgb1 hgb2 hl7 hg7
  have hsz : ∀ w, (sizeOf 32).run Try.prog w = .ok 16 w := fun w => by kernel_rfl
  have hag : ∀ w, (isAgg 32).run Try.prog w = .ok true w := fun w => by kernel_rfl
  have Hsz := Lib.hid hsz; clear hsz
  have Hag := Lib.hid hag; clear hag
  obtain ⟨Z, hZ⟩ : ∃ Z, Z = (b8s (List.replicate 16 0)).toArray := ⟨_, rfl⟩
  have hz := zero32
  rw [← hZ] at hz
  have HZ := Lib.hid hZ; clear hZ
  have Hz := Lib.hid hz; clear hz
  go_loopw [9, 21] (fun v9 i wr => ∃ a : Nat, a ≤ 11 ∧ i = .int .i64 (a : Int) ∧ v9 = .string (strOf (C.take (16 * a))) ∧ Below w6.heap.size w6 wr) (fun _ i _ => 11 - (intOf i).toNat)
  case atStart => exact ⟨0, by omega, rfl, rfl, Below.refl _ _⟩
  case round =>
    obtain ⟨a, ha, rfl, rfl, hbel⟩ := hrel
    by_cases hlt : a < 11
    · have hix := run_index_arr Try.underlying40 Hsz.out Hag.out C a hlt .i64
      obtain ⟨D, hD⟩ : ∃ D, D = (C.drop (a * 16)).take 16 := ⟨_, rfl⟩
      have hDl : D.length = 16 := by rw [hD, List.length_take, List.length_drop, HCl.out]; omega
      rw [← hD] at hix
      have HD := Lib.hid hD; clear hD
      have HDl := Lib.hid hDl; clear hDl
      have hpz : (strOf (C.take (16 * a))).size = 16 * a := by rw [strOf_size, List.length_take, HCl.out]; omega
      have hdz : (strOf D).size = 16 := by rw [strOf_size, HDl.out]
      have hjo : strOf (C.take (16 * a)) ++ strOf D = strOf (C.take (16 * (a + 1))) := by
        rw [strOf_add, HD.out, show 16 * (a + 1) = 16 * a + 16 by omega, List.take_add, Nat.mul_comm a 16]
      obtain ⟨P, hP⟩ : ∃ P, P = strOf (C.take (16 * a)) := ⟨_, rfl⟩
      rw [← hP] at hpz hjo ⊢
      have Hjo := Lib.hid hjo; clear hjo
      have hps : P.size ≤ 176 := by omega
      clear hpz hP
      go_wp2_with (first
        | (refine alloc_abs rfl 32 rfl Z Hz.out ?_; intro gd w7 hd1 hd2 hd hb7; rw [HZ.out] at hd)
        | (refine stB rfl 32 (.tmp 11) (.tmp 23) rfl gd rfl D rfl _ hd 16 info32 HDl.out (by simp) ?_; intro w8 hd8 hg8
           have hcv := to_string16 hd8 HDl.out))
      go_roundw
      case rel => exact ⟨a + 1, hlt, by go_num, by rw [Hjo.out], (hbel.trans (hb7.mono hbel.size)).grown hg8 (Nat.le_trans hbel.size hb7.size) (fun x hx => by cases hx; exact Nat.le_trans hbel.size hd1)⟩
      case measure => simp [intOf]; omega
    · have e11 : a = 11 := by omega
      subst e11
      rw [List.take_of_length_le (by rw [HCl.out]; omega)]
      have hkW := Blk.call hkE hbel
      have hbW := Blk.call hbE hbel
      have hO7W := hO7E.below hbel (Nat.le_refl _)
      have hO8W := hO8E.below hbel (Nat.le_refl _)
      have hbwW := hbw6.trans (hbel.mono hbw6.size)
      go_wp2
      have hkl := hkW.lt
      have hbl := hbW.lt
      refine wp_region_odR (fun W => Below wr.heap.size wr W) (fun a0 a W => ∃ gc r, a = ((((a0.put (some 29) (.agg (b8s key).toArray)).put (some 31) (.agg (b8s b).toArray)).put (some 30) (.pointer (some ⟨gc, 0, none⟩))).put (some 32) (.agg (b8s (aes key b)).toArray)).put (some 12) (.pointer (some ⟨r, 0, none⟩)) ∧ Below wr.heap.size wr W ∧ wr.heap.size ≤ r ∧ BlB W r 32 (aes key b))
        (.q 0 <| .q 2 <| .b 1 (.b 3 (.b 4 (.b 5 (.done) <| .e) <| .e) <| .b 4 (.b 3 (.b 5 (.done) <| .e) <| .e) <| .e) <| .b 4 (.b 1 (.b 3 (.b 5 (.done) <| .e) <| .e) <| .e) <| .e)
        (by kernel_rfl) (by kernel_rfl) (by kernel_rfl) (grown_of_below_drew wr) ?_ ?_
      · intro hcont W hS
        simp only [tw, List.getElem?_cons_succ, List.getElem?_cons_zero]
        refine wpTw_load 32 (.tmp 4) rfl gk 0 rfl (b8s key) _ (by rfl) (fun W hS => all16 (Blk.call hkW hS) Hk.out) Try.underlying32 rfl (info32.trans (congrArg some (by rw [b8s_length, Hk.out]))) ?_
        simp only [Act.put, List.setIfInBounds_toArray, List.set_cons_zero, List.set_cons_succ]
        refine wpTw_load 32 (.tmp 5) rfl gb 0 rfl (b8s b) _ (by rfl) (fun W hS => all16 (Blk.call hbW hS) Hb.out) Try.underlying32 rfl (info32.trans (congrArg some (by rw [b8s_length, Hb.out]))) ?_
        simp only [Act.put, List.setIfInBounds_toArray, List.set_cons_zero, List.set_cons_succ]
        repeat' (first
          | exact wpTw_e
          | (refine wpTw_b (fun KK hKK => ?_) ?_
             go_wp2_with (first
                 | (go_at_call 37; refine (new_any key _ Hk.out).mono ?_; rintro e Wn ⟨gc, rfl, hgc, hcG, hN⟩
                    try replace hr := Blk.call hr hN)
                 | (go_at_call 38; refine (seal_any gc (cols key) b _ (cols_length key Hk.out) Hb.out hcG).mono ?_; rintro e Wn ⟨rfl, hN⟩
                    try replace hr := Blk.call hr hN)
                 | (refine alloc_at 12 rfl rfl 32 rfl Z Hz.out ?_; intro r Wn hr1 hr2 hr hN
                    rw [HZ.out] at hr
                    replace hr1 := Nat.le_trans hS.size hr1
                    try replace hcG := Blk.call hcG hN)
                 | (refine stB rfl 32 (.tmp 12) (.tmp 32) rfl r rfl (aes key b) rfl _ hr 16 info32 (aes_length _ _) (by simp) ?_; intro Wn hrW hN))
             first | replace hS := hS.trans (hN.mono hS.size) | replace hS := hS.grown hN hS.size (fun x hx => by cases hx; exact hr1)
             refine hKK _ _ hS ?_
             clear hKK KK))
        all_goals exact hcont _ _ ⟨gc, r, by simp only [Act.put, List.setIfInBounds_toArray, List.set_cons_zero, List.set_cons_succ]; rfl, hS, hr1, hrW⟩
      · rintro a' W ⟨gc, r, rfl, hS, hr1, hr⟩
        simp only [Act.put, List.setIfInBounds_toArray, List.set_cons_zero, List.set_cons_succ]
        go_wp2
        have hbA := Blk.call hbW hS
        have h7A := hO7W.below hS (Nat.le_refl _)
        have h8A := hO8W.below hS (Nat.le_refl _)
        have k1 : ∀ W2, Below W.heap.size W W2 → W2.cell? ⟨g7, x.toNat, none⟩ = some (.int .u8 (u8v (sub x))) := fun W2 hT => by
          rw [(h7A.below hT (Nat.le_refl _)).at x.toNat (by rw [HSl.out]; exact x.toNat_lt), HS.out]; rfl
        have k8 : ∀ W2, Below W.heap.size W W2 → (convert 28 9 (.slice (some ⟨g8, 0, none⟩) 176 c8)).run Try.prog W2 = .ok (.string (strOf C)) W2 := fun W2 hT => by
          have h := run_to_string (h8A.below hT (Nat.le_refl _)).rd c8
          rwa [HCl.out] at h
        have k12 : ∀ W2, Below W.heap.size W W2 → (convert 28 9 (.slice (some ⟨r, 0, none⟩) 16 16)).run Try.prog W2 = .ok (.string (strOf (aes key b))) W2 := fun W2 hT => to_string16 (Blk.call hr hT) (aes_length _ _)
        obtain ⟨m1, m2⟩ := u8v_lt x
        have n0 : (u8v x).toNat = x.toNat := by unfold u8v; rfl
        refine wp_region_od (fun W2 => Below W.heap.size W W2) (.q 0 <| .q 2 <| .q 3 <| .q 4 <| .q 5 <| .b 1 (.q 6 <| .q 7 <| .q 8 <| .q 9 <| .q 10 <| .q 11 <| .q 12 <| .q 13 <| .q 14 <| .q 15 <| .q 16 <| .q 17 <| .q 18 <| .b 19 (.b 20 (.b 21 (.b 22 (.b 23 (.done) <| .e) <| .e) <| .e) <| .e) <| .e) <| .e) (by kernel_rfl) (by kernel_rfl) (by kernel_rfl) (grown_of_below_drew W) ?_
        intro W2 hT
        simp only [tw, List.getElem?_cons_succ, List.getElem?_cons_zero]
        iterate 5 (
          (refine wpTw_q (v := ?_) (by rfl) (fun W hW => ?_) ?_
           rotate_left
           · first | (go_simp; done) | (go_simp; with_reducible rfl)
           simp only [Act.put, List.setIfInBounds_toArray, List.set_cons_zero, List.set_cons_succ]))
        refine wpTw_b (fun KK hKK => ?_) wpTw_e
        go_wp2_with (go_at_call 39; refine (sub_any x _).mono ?_; rintro e Wn ⟨rfl, hN⟩)
        replace hT := hT.trans (hN.mono hT.size)
        refine hKK _ _ hT ?_
        clear hKK KK
        iterate 13 (
          (refine wpTw_q (v := ?_) (by rfl) (fun W hW => ?_) ?_
           rotate_left
           · first | (go_simp; done) | (go_simp; with_reducible rfl)
           simp only [Act.put, List.setIfInBounds_toArray, List.set_cons_zero, List.set_cons_succ]))
        refine wpTw_b (fun KK hKK => ?_) wpTw_e
        have h7B := h7A.below hT (Nat.le_refl _)
        have h8B := h8A.below hT (Nat.le_refl _)
        have hbB := Blk.call hbA hT
        go_wp2_with (go_at_call 43; refine (refSeal_any _ _ _ _ _ _ C b _ HCl.out Hb.out (by rw [← HS.out]; exact h7B.rd) h8B.rd (all_rd hbB Hb.out)).mono ?_; rintro e Wm ⟨v9, rfl, hO9, hN2⟩
                     rw [show sealAt C b 10 = aes key b by rw [HC.out]; rfl] at hO9
                     obtain ⟨g9, c9, rfl, hg9, hl9, hc9, hm9⟩ := hO9.loc (by rw [aes_length]; decide)
                     rw [aes_length] at hO9 hc9 ⊢)
        have kv : (convert 28 9 (.slice (some ⟨g9, 0, none⟩) 16 c9)).run Try.prog Wm = .ok (.string (strOf (aes key b))) Wm := by
          have h := run_to_string hO9.rd c9
          rwa [aes_length] at h
        replace hT := hT.trans (hN2.mono hT.size)
        refine hKK _ _ hT ?_
        clear hKK KK
        iterate 4 (
          refine wpTw_b (fun KK hKK => ?_) wpTw_e
          go_wp2
          refine hKK _ _ hT ?_
          clear hKK KK)
        refine wpTw_done ?_
        go_wp2
        go_ret
        exact ⟨rfl, hbwW.trans ((hS.trans (hT.mono hS.size)).mono hbwW.size)⟩
end Go.Proofs.Ytillnpllcfleeaa
