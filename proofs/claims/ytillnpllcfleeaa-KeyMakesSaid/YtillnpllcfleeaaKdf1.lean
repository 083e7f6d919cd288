/- Layer 7, walks: a key's block. -/
import Derived.Test.YtillnpllcfleeaaTexts
import Derived.Test.YtillnpllcfleeaaKdf
import Derived.Test.YtillnpllcfleeaaRef06g
import Derived.Deep.DeepCutAuto
namespace Go.Proofs.Ytillnpllcfleeaa
open Go Go.RowKit

theorem zero25 : ((Try.prog.info? 25).bind (·.zero)).map (·.cells) = some (b8s (List.replicate 32 0)).toArray := by kernel_rfl
theorem padKey_get (x : UInt8) (key : List UInt8) (i : Nat) (h : i < 64) : bAt (keyBlk x key) i = bAt (padKey key) i ^^^ x := by
  unfold keyBlk xorAll bAt
  rw [List.getD_eq_getElem?_getD, List.getD_eq_getElem?_getD, List.getElem?_map, List.getElem?_eq_getElem (by rw [padKey_length]; exact h)]
  rfl

/-- the sum of texts that the call has in a slice of its own -/
theorem sum_of (l : List (List UInt8)) (m : List UInt8) (hm : l.flatten = m) (A : Option Addr) (n c base : Nat) (w : World) (hO : OwnL w base (.slice A n c) l) (hb : base ≤ w.heap.size) (hn : l.length ≤ 1099511627776) (hsz : m.length ≤ 1099511627776) :
    Calls Try.prog 33 #[.slice A n c] w fun e w' => e = .returned (.agg (b8s (sha m)).toArray) ∧ Below w.heap.size w w' := by
  obtain ⟨rfl, hR⟩ := hO.rd hb
  subst hm
  exact sum_any l A c w hR hn hsz

set_option maxRecDepth 100000 in
set_option maxHeartbeats 2000000 in
theorem block_any (v : Value) (key : List UInt8) (x : UInt8) (w : World) (hv : Sl w w.heap.size v key) (hn : key.length ≤ 1099511627776) :
    Calls Try.prog 152 #[v, .int .u8 (u8v x)] w fun e w' => ∃ r, e = .returned r ∧ Own w' w.heap.size r (keyBlk x key) ∧ Below w.heap.size w w' := by
  have hv0 := hv
  obtain ⟨A, c, rfl, hc, hm, hr⟩ := hv
  unfold maxLen at hm
  obtain ⟨Z, hZ⟩ : ∃ Z, Z = (b8s (List.replicate 32 0)).toArray := ⟨_, rfl⟩
  have hz := zero25
  rw [← hZ] at hz
  have HZ := Lib.hid hZ; clear hZ
  have Hz := Lib.hid hz; clear hz
  have hsl : (sha key).length = 32 := sha_length' key
  have Hsl := Lib.hid hsl; clear hsl
  have hck : cutKey key = if 64 < key.length then sha key else key := rfl
  have Hck := Lib.hid hck; clear hck
  go_enter Try.func152, Try.ntmps152
  go_upto_if 10 with fail
  go_cut [0] (fun v0 wx => Sl wx wx.heap.size v0 (cutKey key) ∧ Below w.heap.size w wx)
  case first =>
    by_cases hk : 64 < key.length
    · go_wp2_with (first
        | (refine mkL1 rfl (.tmp 11) rfl key hv0 ?_; intro g1 w1 hg1 hg1' hO1 hb1
           have hz1 := hb1.size)
        | (go_at_call 33; refine (sum_of [key] key (List.append_nil _) _ _ _ _ _ hO1 hz1 (Nat.le_of_ble_eq_true rfl) hn).mono ?_; rintro e w2 ⟨rfl, hb2⟩
           have hbw2 := hb1.trans (hb2.mono hz1))
        | (refine alloc_abs rfl 25 rfl Z Hz.out ?_; intro g3 w3 hg3 hg3' hb3 hbb3
           rw [HZ.out] at hb3
           have hbw3 := hbw2.trans (hbb3.mono hbw2.size))
        | (refine stB rfl 25 (.tmp 5) (.tmp 13) rfl g3 rfl (sha key) rfl _ hb3 32 info25 Hsl.out (by simp) ?_; intro w4 hb4 hg4
           have hbw4 := hbw3.grown hg4 hbw3.size (fun x hx => by cases hx; exact Nat.le_trans hbw2.size hg3)))
      go_meet
      case rel =>
        refine ⟨?_, hbw4⟩
        rw [Hck.out, if_pos hk]
        exact Sl.mk (BlB.all hb4) Hsl.out.symm (by rw [Hsl.out]; omega) (by unfold maxLen; omega)
    · go_wp2_with fail
      go_meet
      case rel =>
        refine ⟨?_, Below.refl _ _⟩
        rw [Hck.out, if_neg hk]
        exact hv0
  case rest =>
    clear hv0 hr hm hc A c
    obtain ⟨⟨A, c, rfl, hc, hm, hr⟩, hbw⟩ := hcut
    have hkl := cutKey_length key
    have hpk : padKey key = splice (List.replicate 64 0) 0 ((cutKey key).take 64) := by
      unfold splice padKey
      rw [List.take_of_length_le hkl, List.take_zero, List.nil_append, Nat.zero_add, List.drop_replicate]
    obtain ⟨K, hK⟩ : ∃ K, K = cutKey key := ⟨_, rfl⟩
    rw [← hK] at hc hr hkl hpk ⊢
    have HK := Lib.hid hK; clear hK
    have Hpk := Lib.hid hpk; clear hpk
    unfold maxLen at hm
    go_wp2_with (first
      | (refine make8 rfl _ _ rfl .i64 .i64 64 64 64 rfl rfl rfl rfl (by decide) ?_; intro w5 hb5 hbb5 hz5
         have hbw5 := hbw.trans (hbb5.mono hbw.size)
         have hr5 := hr.below hbb5 (Nat.le_refl _))
      | (refine copyB rfl (.tmp 16) (.tmp 17) rfl (some ⟨wc.heap.size, 0, none⟩) A 64 64 K.length c rfl rfl wc.heap.size 0 5 _ hb5 wc.heap.size K hr5 rfl (fun _ => rfl) (by simp) w.heap.size w hbw5 hbw.size ?_; intro w6 hb6 hbw6
         rw [← Hpk.out] at hb6))
    have hP := padKey_length key
    have hN := keyBlk_length x key
    have hg := padKey_get x key
    obtain ⟨P, hPe⟩ : ∃ P, P = padKey key := ⟨_, rfl⟩
    obtain ⟨N, hNe⟩ : ∃ N, N = keyBlk x key := ⟨_, rfl⟩
    rw [← hPe] at hP hb6 hg
    rw [← hNe] at hN hg
    have HN := Lib.hid hN; clear hN
    have HP := Lib.hid hP; clear hP
    have Hg := Lib.hid hg; clear hg
    have HPe := Lib.hid hPe; clear hPe
    have HNe := Lib.hid hNe; clear hNe
    go_loopw [21] (fun i wr => ∃ k : Nat, k ≤ 64 ∧ i = .int .i64 k ∧ BlB wr wc.heap.size 5 (mixTo k N P) ∧ Below w.heap.size w wr) (fun i _ => 64 - (intOf i).toNat)
    case atStart => exact ⟨0, by omega, rfl, by rw [mixTo_zero]; exact hb6, hbw6⟩
    case round =>
      obtain ⟨k, hk, rfl, hB, hbel⟩ := hrel
      by_cases hlt : k < 64
      · have c1 := hB.at k (by rw [mixTo_length _ _ _ (by rw [HN.out, HP.out]), HP.out]; exact hlt)
        rw [bAt_mixTo_old _ _ _ _ (by rw [HN.out, HP.out]) (Nat.le_refl _)] at c1
        have f1 := Blk.frozen hB k
        have hset := hB.set k (bAt N k)
        rw [mixTo_set k N P _ (by rw [HN.out, HP.out]) (by rw [HN.out]; exact hlt) (bAt_get _ _ (by rw [HN.out]; exact hlt)), Hg.out k hlt] at hset
        have Hset := Lib.hid hset; clear hset
        go_wp2
        go_roundw
        case rel => exact ⟨k + 1, by omega, by go_num, Hset.out, hbel.setCell (p := ⟨wc.heap.size, k, none⟩) hbw.size _⟩
        case measure => simp [intOf]; omega
      · have e64 : k = 64 := by omega
        subst e64
        rw [mixTo_all 64 N P HN.out HP.out] at hB
        go_wp2
        go_ret
        refine ⟨_, rfl, ?_, hbel⟩
        rw [← HNe.out]
        exact Own.blb hB hbw.size (by rw [HN.out]; decide) 64 HN.out.symm
end Go.Proofs.Ytillnpllcfleeaa
