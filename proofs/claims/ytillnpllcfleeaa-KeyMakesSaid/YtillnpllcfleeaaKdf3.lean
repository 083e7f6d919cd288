/- Layer 7, walks: what is extracted, expanded, and by labels. -/
import Derived.Test.YtillnpllcfleeaaKdf2
namespace Go.Proofs.Ytillnpllcfleeaa
open Go Go.RowKit

/-- the MAC of texts that the call has in a slice of its own -/
theorem mac_of (v : Value) (key : List UInt8) (L : List (List UInt8)) (m : List UInt8) (hm : L.flatten = m) (A : Option Addr) (n c base : Nat) (w : World) (hv : Sl w w.heap.size v key) (hO : OwnL w base (.slice A n c) L) (hb : base ≤ w.heap.size)
    (hn : key.length ≤ 1099511627776) (hl : L.length ≤ 549755813888) (hf : m.length ≤ 549755813888) :
    Calls Try.prog 46 #[v, .slice A n c] w fun e w' => e = .returned (.agg (b8s (mac key m)).toArray) ∧ Below w.heap.size w w' := by
  obtain ⟨rfl, hR⟩ := hO.rd hb
  subst hm
  exact mac_any v key A L c w hv hR hn hl hf

set_option maxRecDepth 100000 in
set_option maxHeartbeats 2000000 in
theorem extract_any (v u : Value) (key ikm : List UInt8) (w : World) (hv : Sl w w.heap.size v key) (hu : Sl w w.heap.size u ikm) (hn : key.length ≤ 1099511627776) (hf : ikm.length ≤ 549755813888) :
    Calls Try.prog 47 #[v, u] w fun e w' => e = .returned (.agg (b8s (mac key ikm)).toArray) ∧ Below w.heap.size w w' := by
  obtain ⟨Z, hZ⟩ : ∃ Z, Z = (b8s (List.replicate 32 0)).toArray := ⟨_, rfl⟩
  have hz := zero25
  rw [← hZ] at hz
  have HZ := Lib.hid hZ; clear hZ
  have Hz := Lib.hid hz; clear hz
  have hMl := Lib.hid (mac_length key ikm)
  go_enter Try.func47, Try.ntmps47
  go_wp2_with (first
    | (refine alloc_abs rfl 25 rfl Z Hz.out ?_; intro g1 w1 hg1 hg1' hr1 hb1
       rw [HZ.out] at hr1
       have hv1 : Sl w1 w1.heap.size v key := (hv.below hb1 (Nat.le_refl _)).more hb1.size
       have hu1 : Sl w1 w1.heap.size u ikm := (hu.below hb1 (Nat.le_refl _)).more hb1.size)
    | (refine mkL1 rfl (.tmp 6) rfl ikm hu1 ?_; intro g2 w2 hg2 hg2' hO2 hb2
       have hv2 : Sl w2 w2.heap.size v key := (hv1.below hb2 (Nat.le_refl _)).more hb2.size)
    | (go_at_call 46; refine (mac_of v key [ikm] ikm (List.append_nil _) _ _ _ _ _ hv2 hO2 hb2.size hn (Nat.le_of_ble_eq_true rfl) hf).mono ?_; rintro e w3 ⟨rfl, hb3⟩
       have x3 := hb2.trans (hb3.mono hb2.size)
       have hr3 := Blk.call hr1 x3)
    | (refine stB rfl 25 (.tmp 4) (.tmp 8) rfl g1 rfl (mac key ikm) rfl _ hr3 32 info25 hMl.out (by simp) ?_; intro w4 hr4 hg4))
  refine bodyPost_ret (retB rfl g1 rfl _ hr4 32 Try.underlying25 info25 hMl.out) rfl ⟨rfl, ?_⟩
  exact (hb1.trans (x3.mono hb1.size)).grown hg4 (Nat.le_trans hb1.size x3.size) (fun x hx => by cases hx; exact hg1)

theorem ofNat_step (k : Nat) : UInt8.ofNat (k + 1) + 1 = UInt8.ofNat (k + 1 + 1) := by
  apply UInt8.toNat_inj.1
  simp

set_option maxRecDepth 100000 in
set_option maxHeartbeats 2000000 in
theorem expand_no (sec : List UInt8) (u : Value) (n : Int) (w : World) (hn : n < 1 ∨ 8160 < n) :
    Calls Try.prog 48 #[.agg (b8s sec).toArray, u, .int .i64 n] w fun e w' => e = .returned (.slice none 0 0) ∧ Below w.heap.size w w' := by
  by_cases h1 : n < 1
  · go_enter Try.func48, Try.ntmps48
    go_wp2_with (refine box_abs rfl 25 (.tmp 0) rfl (b8s sec).toArray rfl ?_; intro g3 w1 hg3 hg3' hr3 hb1)
    go_ret
    exact ⟨rfl, hb1⟩
  · have h2 : 8160 < n := by omega
    clear hn
    go_enter Try.func48, Try.ntmps48
    go_wp2_with (refine box_abs rfl 25 (.tmp 0) rfl (b8s sec).toArray rfl ?_; intro g3 w1 hg3 hg3' hr3 hb1)
    go_ret
    exact ⟨rfl, hb1⟩

set_option maxRecDepth 100000 in
set_option maxHeartbeats 4000000 in
theorem expand_yes (sec info : List UInt8) (u : Value) (n : Nat) (w : World) (hs : sec.length = 32) (hu : Sl w w.heap.size u info) (hi : info.length ≤ 274877906944) (h1 : 1 ≤ n) (h2 : n ≤ 8160) :
    Calls Try.prog 48 #[.agg (b8s sec).toArray, u, .int .i64 (n : Int)] w fun e w' => ∃ v, e = .returned v ∧ Own w' w.heap.size v (expand sec info n) ∧ Below w.heap.size w w' := by
  obtain ⟨Z, hZ⟩ : ∃ Z, Z = (b8s (List.replicate 32 0)).toArray := ⟨_, rfl⟩
  have hz := zero25
  rw [← hZ] at hz
  have HZ := Lib.hid hZ; clear hZ
  have Hz := Lib.hid hz; clear hz
  have Hs := Lib.hid hs; clear hs
  go_enter Try.func48, Try.ntmps48
  go_wp2_with (refine box_abs rfl 25 (.tmp 0) rfl (b8s sec).toArray rfl ?_; intro g3 w1 hg3 hg3' hr3 hb1
               have hu1 : Sl w1 w1.heap.size u info := (hu.below hb1 (Nat.le_refl _)).more hb1.size)
  go_loopw [7, 8, 9] (fun v7 v8 v9 wr => ∃ k : Nat, 32 * k < n + 32 ∧ v9 = .int .u8 (u8v (UInt8.ofNat (k + 1))) ∧ Own wr w1.heap.size v7 (outAt sec info k) ∧ Sl wr wr.heap.size v8 (tAt sec info k) ∧ Below w1.heap.size w1 wr)
    (fun v7 _ _ _ => n + 32 - slLen v7)
  case atStart => exact ⟨0, by omega, rfl, Own.nil _ _, Sl.nil _ _, Below.refl _ _⟩
  case round =>
    obtain ⟨k, hk, rfl, hO, hS, hbel⟩ := hrel
    have hlo := outAt_length sec info k
    obtain ⟨A7, c7, rfl, hc7, hm7, hr7⟩ := hO.form
    unfold maxLen at hm7
    rw [hlo] at hO hc7 ⊢
    have Hlo := Lib.hid hlo; clear hlo
    have hur := (hu1.below hbel (Nat.le_refl _)).more hbel.size
    have hrr := Blk.call hr3 hbel
    by_cases hlt : 32 * k < n
    · have htl : (tAt sec info k).length ≤ 32 := by
        cases k with
        | zero => exact Nat.zero_le _
        | succ k => rw [tAt_length]; exact Nat.le_refl _
      have hTl := tAt_length sec info k
      have hou : outAt sec info (k + 1) = outAt sec info k ++ tAt sec info (k + 1) := rfl
      have hmk : mac sec (tAt sec info k ++ (info ++ [UInt8.ofNat (k + 1)])) = tAt sec info (k + 1) := rfl
      have hfl : ([tAt sec info k, info, [UInt8.ofNat (k + 1)]] : List (List UInt8)).flatten = tAt sec info k ++ (info ++ [UInt8.ofNat (k + 1)]) := by simp
      have hsz : (tAt sec info k ++ (info ++ [UInt8.ofNat (k + 1)])).length ≤ 549755813888 := by simp; omega
      have hst := ofNat_step k
      obtain ⟨T, hT⟩ : ∃ T, T = tAt sec info (k + 1) := ⟨_, rfl⟩
      obtain ⟨O, hOe⟩ : ∃ O, O = outAt sec info k := ⟨_, rfl⟩
      obtain ⟨T0, hT0⟩ : ∃ O, O = tAt sec info k := ⟨_, rfl⟩
      obtain ⟨I1, hI1⟩ : ∃ O, O = UInt8.ofNat (k + 1) := ⟨_, rfl⟩
      rw [← hT] at hTl hmk hou
      rw [← hOe] at hO hou hr7 Hlo
      rw [← hT0] at hS hmk hfl hsz
      rw [← hI1] at hmk hfl hsz hst ⊢
      have hsl : T.length = 32 := hTl
      have H1 := Lib.hid hT; clear hT
      have H2 := Lib.hid hOe; clear hOe
      have H3 := Lib.hid hT0; clear hT0
      have H4 := Lib.hid hI1; clear hI1
      have H5 := Lib.hid hou; clear hou
      have H6 := Lib.hid hmk; clear hmk
      have H7 := Lib.hid hfl; clear hfl
      have H8 := Lib.hid hst; clear hst
      have H9 := Lib.hid hsl; clear hsl hTl htl
      go_wp2_with (first
        | (refine mk81 rfl (.tmp 26) rfl _ I1 rfl rfl ?_; intro g4 w4 hg4 hg4' hO4 hb4
           have hS4 := (hS.below hb4 (Nat.le_refl _)).more hb4.size
           have hu4 := (hur.below hb4 (Nat.le_refl _)).more hb4.size)
        | (refine mkL3 rfl (.tmp 24) (.tmp 25) (.tmp 27) rfl T0 info [I1] hS4 hu4 hO4.sl ?_; intro g5 w5 hg5 hg5' hO5 hb5
           have x5 := hb4.trans (hb5.mono hb4.size)
           have hr5 := Blk.call hrr x5
           have hs5 : Sl w5 w5.heap.size (.slice (some ⟨g3, 0, none⟩) 32 32) sec := Sl.mk (BlB.all hr5) Hs.out.symm (by rw [Hs.out]; omega) (by unfold maxLen; omega))
        | (go_at_call 46; refine (mac_of _ sec [T0, info, [I1]] _ H7.out _ _ _ _ _ hs5 hO5 hb5.size (by rw [Hs.out]; omega) (Nat.le_of_ble_eq_true rfl) hsz).mono ?_; rintro e w6 ⟨rfl, hb6⟩
           rw [H6.out]
           have x6 := x5.trans (hb6.mono x5.size))
        | (refine alloc_abs rfl 25 rfl Z Hz.out ?_; intro g7 w7 hg7 hg7' hr7' hb7
           rw [HZ.out] at hr7'
           have x7 := x6.trans (hb7.mono x6.size))
        | (refine stB rfl 25 (.tmp 10) (.tmp 29) rfl g7 rfl T rfl _ hr7' 32 info25 H9.out (by simp) ?_; intro w8 hr8 hg8
           have x8 := x7.grown hg8 x7.size (fun x hx => by cases hx; exact Nat.le_trans x6.size hg7)
           have hO8 := hO.below x8 (Nat.le_refl _)
           have hbw8 := hbel.trans (x8.mono hbel.size))
        | (at_builtin; refine app8 rfl (.tmp 31) (.tmp 32) rfl w1.heap.size _ O rfl hO8 _ _ _ _ T rfl (BlB.all hr8) H9.out.symm (by rw [Hlo.out, H9.out]; omega) hbw8.size ?_; intro v9 w9 hO9 hg9 hat9
           have hr9 := Blk.grown hr8 hg9 (Own.ne hO8 hr8 (by decide)).symm
           have hbw9 := hbw8.grown hg9 hbw8.size (fun x hx => (hO8.lt x hx).1)
           obtain ⟨A9, c9, rfl, hc9, hm9, hrd9⟩ := hO9.form
           rw [List.length_append] at hO9))
      go_roundw
      case rel =>
        refine ⟨k + 1, by omega, by rw [H8.out], ?_, ?_, hbw9⟩
        · rw [H5.out]; exact hO9
        · rw [← H1.out]
          exact Sl.mk (BlB.all hr9) H9.out.symm (by rw [H9.out]; omega) (by unfold maxLen; omega)
      case measure => simp only [slLen, Hlo.out, H9.out]; omega
    · have e : k = (n + 31) / 32 := by omega
      go_wp2
      go_ret
      refine ⟨_, rfl, ?_, hb1.trans (hbel.mono hb1.size)⟩
      unfold expand
      rw [← e]
      exact (hO.cut0 n (by rw [Hlo.out]; omega) (by omega)).wk hb1.size
end Go.Proofs.Ytillnpllcfleeaa
