/- The reference's side of layer 6: a text's bytes, as they are cut. -/
import Derived.Test.YtillnpllcfleeaaRef06d
import Derived.Test.YtillnpllcfleeaaSha4
import Derived.Test.YtillnpllcfleeaaOwn2
namespace Go.Proofs.Ytillnpllcfleeaa
open Go Go.RowKit

set_option maxRecDepth 100000 in
set_option maxHeartbeats 1000000 in
theorem ref_blocks (A : Option Addr) (bs : List UInt8) (c : Nat) (w : World) (hb : RdB w w.heap.size A bs) (hn : bs.length ≤ 1099511627776) :
    Calls Try.prog 139 #[.slice A bs.length c] w fun e w' => ∃ v, e = .returned v ∧ Own w' w.heap.size v (padded bs) ∧ Below w.heap.size w w' := by
  go_enter Try.func139, Try.ntmps139
  have hN := Own.new w w.heap.size (Nat.le_refl _) [] 0 rfl (by decide) _ rfl
  have hb0 : Below w.heap.size w (w.alloc (.cells (b8s []).toArray 5)) := (Below.refl _ _).alloc (Nat.le_refl _) _
  have hrd := hb.alloc (Nat.le_refl _) (.cells (b8s []).toArray 5)
  go_wp2_with (first
    | (at_builtin; refine app8 rfl (.tmp 7) (.tmp 8) rfl w.heap.size _ [] rfl hN w.heap.size A _ c bs rfl hrd rfl (by simp; omega) (by simp) ?_; intro v1 w1 hown1 hg1 hat1
       have hb1 : Below w.heap.size w w1 := hb0.grown hg1 hb0.size (fun x hx => (hN.lt x hx).1)
       clear hg1 hat1 hN hb0 hrd)
    | (at_builtin; refine app1 rfl (.tmp 9) (.tmp 10) rfl w.heap.size _ _ rfl hown1 128 128 rfl rfl (by simp; omega) hb1.size ?_; intro v2 w2 hown2 hg2 hat2
       have hb2 : Below w.heap.size w w2 := hb1.grown hg2 hb1.size (fun x hx => (hown1.lt x hx).1)
       clear hg2 hat2 hown1 hb1))
  rw [List.nil_append] at hown2
  go_loopw [3] (fun v3 wr => ∃ k : Nat, k ≤ noughts bs.length ∧ Own wr w.heap.size v3 (bs ++ [128] ++ List.replicate k 0) ∧ Below w.heap.size w wr) (fun v _ => 70 + bs.length - slLen v)
  case atStart => exact ⟨0, Nat.zero_le _, by rw [List.replicate_zero, List.append_nil]; exact hown2, hb2⟩
  case round =>
    clear hown2 hb2
    obtain ⟨k, hk, hE, hbw⟩ := hrel
    obtain ⟨Ae, ce, rfl, hce, hme, hrde⟩ := hE.form
    have hkl : (bs ++ [128] ++ List.replicate k 0 : List UInt8).length = bs.length + 1 + k := by simp; omega
    have hk' : k ≤ (119 - bs.length % 64) % 64 := hk
    rw [hkl] at hE hce
    rw [hkl]
    generalize hEd : (bs ++ [128] ++ List.replicate k 0 : List UInt8) = E at *
    obtain ⟨m, hm⟩ : ∃ m, m = bs.length + 1 + k := ⟨_, rfl⟩
    rw [← hm] at hE hce hkl
    rw [← hm]
    have hml : E.length ≤ 70368744177663 := by omega
    have HEd := Lib.hid hEd; clear hEd
    have Hkl := Lib.hid hkl; clear hkl
    have Hml := Lib.hid hml; clear hml
    by_cases hlt : k < (119 - bs.length % 64) % 64
    · have h56 : ¬ m % 64 = 56 := by omega
      have Hm := Lib.hid hm; clear hm
      go_wp2_with (at_builtin; refine app1 rfl (.tmp 16) (.tmp 17) rfl w.heap.size _ _ rfl hE 0 0 rfl rfl Hml.out hbw.size ?_; intro v1 w1 hown1 hg1 hat1)
      obtain ⟨A3, c3, rfl, hc3, hm3, hrd3⟩ := hown1.form
      have hl3 : (E ++ [0] : List UInt8).length = m + 1 := by rw [List.length_append, Hkl.out]; rfl
      go_roundw
      case rel =>
        refine ⟨k + 1, hlt, ?_, hbw.grown hg1 hbw.size (fun x hx => (hE.lt x hx).1)⟩
        rw [List.replicate_succ', ← List.append_assoc, HEd.out]
        exact hown1
      case measure => rw [hl3]; have := Hm.out; simp only [slLen]; omega
    · have h56 : m % 64 = 56 := by omega
      have ek : k = noughts bs.length := by unfold noughts; omega
      have h8 : m + 8 ≤ 70368744177663 := by have := Hml.out; have := Hkl.out; have : k ≤ 64 := by omega
                                             omega
      have Hm := Lib.hid hm; clear hm
      have Hek := Lib.hid ek; clear ek
      clear hk hk' hlt
      obtain ⟨wo, rfl⟩ : ∃ wo : World, wo = wr := ⟨_, rfl⟩
      have hrp : (noughts bs.length) ≤ 64 := by unfold noughts; omega
      go_wp2_with (first
        | (refine make8 rfl (.const (.int .i64 8)) (.const (.int .i64 8)) rfl .i64 .i64 8 8 8 rfl rfl rfl rfl (by decide) ?_; intro w3 hM hM1 hM2))
      obtain ⟨N, hN⟩ : ∃ N, N = 8 * bs.length := ⟨_, rfl⟩
      have hNi : (8 : Int) * (bs.length : Int) = (N : Int) := by omega
      rw [hNi]
      have hNb : N ≤ 8796093022208 := by omega
      have HN := Lib.hid hN; clear hN hNi
      obtain ⟨g, hg⟩ : ∃ g, g = wo.heap.size := ⟨_, rfl⟩
      rw [← hg] at hM hM1 hM2
      rw [← hg]
      have Hg := Lib.hid hg; clear hg
      go_loopw [4, 6] (fun v4 i wq => ∃ t : Nat, t ≤ 8 ∧ i = .int .i64 (7 - (t : Int)) ∧ v4 = .int .u64 ((N / 256 ^ t : Nat) : Int) ∧ BlB wq g 5 (mixTo (8 - t) (List.replicate 8 0) (be N 8)) ∧ Below g w3 wq) (fun _ i _ => (intOf i + 1).toNat)
      case atStart => exact ⟨0, by omega, rfl, by simp, by rw [mixTo_all 8 _ _ (by simp) (be_length _ _)]; exact hM, Below.refl _ _⟩
      case round =>
        obtain ⟨t, ht, rfl, rfl, hB, hbw2⟩ := hrel
        by_cases hlt : t < 8
        · have hy := be_byte N 8 (7 - t) (by omega)
          rw [show 8 - 1 - (7 - t) = t by omega] at hy
          have hz : ((N / 256 ^ t : Nat) : Int) / 256 = ((N / 256 ^ (t + 1) : Nat) : Int) := by rw [Nat.pow_succ, ← Nat.div_div_eq_div_mul]; rfl
          have hb0 : N / 256 ^ t ≤ N := Nat.div_le_self _ _
          generalize hX : N / 256 ^ t = X at *
          have hcell := hB.at (7 - t) (by rw [mixTo_length _ _ _ (by rw [be_length]; simp), be_length]; omega)
          have hfr := Blk.frozen hB (7 - t)
          have HX := Lib.hid hX; clear hX
          have Hy := Lib.hid hy; clear hy
          have Hz := Lib.hid hz; clear hz
          go_wp2
          go_roundw
          case rel =>
            refine ⟨t + 1, by omega, by go_num, by rw [Hz.out], ?_, hbw2.setCell (p := ⟨g, 7 - t, none⟩) (Nat.le_refl _) _⟩
            rw [Hy.out, show 8 - (t + 1) = 7 - t by omega]
            have h := hB.set (7 - t) (bAt (be N 8) (7 - t))
            rw [show 8 - t = (7 - t) + 1 by omega, mixTo_back _ _ _ _ (by rw [be_length]; simp) (by rw [be_length]; omega) (be_get N 8 (7 - t) (by omega))] at h
            exact h
          case measure => simp [intOf]; omega
        · have et : t = 8 := by omega
          subst et
          rw [show 8 - 8 = 0 by rfl, mixTo_zero] at hB
          have hbw3 : Below g wo wr := hM1.trans hbw2
          have hgw := Hg.out
          have hE3 : Own wr w.heap.size (.slice Ae m ce) E := hE.below hbw3 (by omega)
          have hB3 : RdB wr wr.heap.size (some ⟨g, 0, none⟩) (be N 8) := by
            have h := hB.rd 0 8 (by rw [be_length]; omega)
            rwa [List.drop_zero, List.take_of_length_le (by rw [be_length]; omega)] at h
          have hb0 : Below w.heap.size w wr := hbw.trans (hbw3.mono (by rw [hgw]; exact hbw.size))
          have hz0 := hb0.size
          clear hgw
          go_wp2_with (at_builtin; refine app8 rfl (.tmp 36) (.tmp 37) rfl w.heap.size _ E rfl hE3 wr.heap.size _ 8 8 (be N 8) rfl hB3 (by rw [be_length]) (by rw [be_length, Hkl.out]; omega) hz0 ?_; intro v4 w4 hown4 hg4 hat4)
          go_ret
          refine ⟨_, rfl, ?_, hb0.grown hg4 hz0 (fun x hx => (hE3.lt x hx).1)⟩
          rw [← HEd.out, HN.out, Hek.out] at hown4
          unfold padded tail
          simpa using hown4
end Go.Proofs.Ytillnpllcfleeaa
