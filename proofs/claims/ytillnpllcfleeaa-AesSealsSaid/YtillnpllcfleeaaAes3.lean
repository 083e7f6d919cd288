/- Walks of layer 8: a column mixed, a round's key added. -/
import Derived.Test.YtillnpllcfleeaaAes1
import Derived.Test.YtillnpllcfleeaaOrd
namespace Go.Proofs.Ytillnpllcfleeaa
open Go Go.RowKit

theorem mix1_is (s : List UInt8) (k j : Nat) (hj : j < 4) :
    bAt s (4 * k + j) ^^^ (bAt s (4 * k) ^^^ bAt s (4 * k + 1) ^^^ bAt s (4 * k + 2) ^^^ bAt s (4 * k + 3) ^^^ twice (bAt s (4 * k + j) ^^^ bAt s (4 * k + (j + 1) % 4))) = mix1 s (4 * k + j) := by
  have h4 : j = 0 ∨ j = 1 ∨ j = 2 ∨ j = 3 := by omega
  unfold mix1 mixB
  have d : (4 * k + j) / 4 = k := by omega
  rw [d]
  rcases h4 with rfl | rfl | rfl | rfl
  · rw [show (4 * k + 0 + 1) % 4 = 1 by omega, show (4 * k + 0 + 2) % 4 = 2 by omega, show (4 * k + 0 + 3) % 4 = 3 by omega]; rfl
  · rw [show (4 * k + 1 + 1) % 4 = 2 by omega, show (4 * k + 1 + 2) % 4 = 3 by omega, show (4 * k + 1 + 3) % 4 = 0 by omega]
    simp only [Nat.add_zero, show (1 + 1) % 4 = 2 from rfl]
    congr 2
    simp only [UInt8.xor_assoc, UInt8.xor_comm, u8_xlc]
  · rw [show (4 * k + 2 + 1) % 4 = 3 by omega, show (4 * k + 2 + 2) % 4 = 0 by omega, show (4 * k + 2 + 3) % 4 = 1 by omega]
    simp only [Nat.add_zero, show (2 + 1) % 4 = 3 from rfl]
    congr 2
    simp only [UInt8.xor_assoc, UInt8.xor_comm, u8_xlc]
  · rw [show (4 * k + 3 + 1) % 4 = 0 by omega, show (4 * k + 3 + 2) % 4 = 1 by omega, show (4 * k + 3 + 3) % 4 = 2 by omega]
    simp only [Nat.add_zero, show (3 + 1) % 4 = 0 from rfl]
    congr 2
    simp only [UInt8.xor_assoc, UInt8.xor_comm, u8_xlc]

theorem info32 : (Try.prog.info? 32).map (·.size) = some 16 := by kernel_rfl
theorem zero32 : ((Try.prog.info? 32).bind (·.zero)).map (·.cells) = some (b8s (List.replicate 16 0)).toArray := by kernel_rfl
theorem mixC_length (s : List UInt8) : (mixC s).length = 16 := tab_length _ _
theorem subSh_length (s : List UInt8) : (subSh s).length = 16 := tab_length _ _

set_option maxRecDepth 100000 in
set_option maxHeartbeats 1500000 in
theorem mix_any (g k c : Nat) (s : List UInt8) (w : World) (hs : s.length = 16) (hk : k < 4) (hb : BlB w g 32 (mixTo (4 * k) (mixC s) s)) :
    Calls Try.prog 146 #[.slice (some ⟨g, 4 * k, none⟩) 4 c] w fun e w' => e = .returned (.tuple #[]) ∧ BlB w' g 32 (mixTo (4 * k + 4) (mixC s) s) ∧ w.grownBy w' (some g) := by
  have hml : ∀ i, (mixTo i (mixC s) s).length = 16 := fun i => by rw [mixTo_length _ _ _ (by rw [mixC_length, hs]), hs]
  have old : ∀ i j, i ≤ j → j < 16 → ∀ W, BlB W g 32 (mixTo i (mixC s) s) → W.cell? ⟨g, j, none⟩ = some (.int .u8 (u8v (bAt s j))) := by
    intro i j hi hj W hW
    rw [hW.at j (by rw [hml]; exact hj), bAt_mixTo_old _ _ _ _ (by rw [mixC_length, hs]) hi]
  have c0 := old (4 * k) (4 * k) (by omega) (by omega) w hb
  have c1 := old (4 * k) (4 * k + 1) (by omega) (by omega) w hb
  have c2 := old (4 * k) (4 * k + 2) (by omega) (by omega) w hb
  have c3 := old (4 * k) (4 * k + 3) (by omega) (by omega) w hb
  have Hml := Lib.hid hml; clear hml
  have Hold := Lib.hid old; clear old
  have Hs := Lib.hid hs; clear hs
  go_enter Try.func146, Try.ntmps146
  go_wp2
  go_quiet (fail)
  go_wp2
  go_loopw [26] (fun i wr => ∃ j : Nat, j ≤ 4 ∧ i = .int .i64 j ∧ BlB wr g 32 (mixTo (4 * k + j) (mixC s) s) ∧ w.grownBy wr (some g)) (fun i _ => 4 - (intOf i).toNat)
  case atStart => exact ⟨0, by omega, rfl, hb, grownBy_drewN (grown_of_below (Below.refl _ _)) _⟩
  case round =>
    clear c0 c1 c2 c3 hb
    obtain ⟨j, hj, rfl, hB, hg⟩ := hrel
    by_cases hlt : j < 4
    · have cj := Hold.out (4 * k + j) (4 * k + j) (by omega) (by omega) wr hB
      have hfr := Blk.frozen hB (4 * k + j)
      have e := mix1_is s k j hlt
      have He := Lib.hid e; clear e
      by_cases h3 : j < 3
      · have cn := Hold.out (4 * k + j) (4 * k + (j + 1)) (by omega) (by omega) wr hB
        have em : (j + 1) % 4 = j + 1 := by omega
        have Hem := Lib.hid em; clear em
        go_wp2
        refine region_tail 15 (by kernel_rfl) (by kernel_rfl) ?_
        simp only [List.take_succ_cons, List.take_zero, List.drop_succ_cons, List.drop_zero]
        repeat still_step
        still_call (twice_any _ _)
        repeat still_step
        refine wpStill_nil ?_
        go_wp2
        go_roundw
        case rel =>
          refine ⟨j + 1, by omega, by go_num, ?_, grownBy_set (grownBy_drew hg) _ _⟩
          have h := hB.set (4 * k + j) (mix1 s (4 * k + j))
          rw [mixTo_set _ _ _ _ (by rw [mixC_length, Hs.out]) (by rw [mixC_length]; omega) (by unfold mixC; exact tab_get _ _ _ (by omega)), ← He.out] at h
          rw [Hem.out] at h
          exact h
        case measure => simp [intOf]; omega
      · have e3 : j = 3 := by omega
        subst e3
        go_wp2
        refine region_tail 15 (by kernel_rfl) (by kernel_rfl) ?_
        simp only [List.take_succ_cons, List.take_zero, List.drop_succ_cons, List.drop_zero]
        repeat still_step
        still_call (twice_any _ _)
        repeat still_step
        refine wpStill_nil ?_
        go_wp2
        go_roundw
        case rel =>
          refine ⟨4, by omega, rfl, ?_, grownBy_set (grownBy_drew hg) _ _⟩
          have h := hB.set (4 * k + 3) (mix1 s (4 * k + 3))
          rw [mixTo_set _ _ _ _ (by rw [mixC_length, Hs.out]) (by rw [mixC_length]; omega) (by unfold mixC; exact tab_get _ _ _ (by omega)), ← He.out] at h
          rw [show (3 + 1) % 4 = 0 from rfl, Nat.add_zero] at h
          exact h
        case measure => simp [intOf]
    · have e4 : j = 4 := by omega
      subst e4
      go_wp2
      go_end0
      exact ⟨rfl, hB, hg⟩
end Go.Proofs.Ytillnpllcfleeaa
