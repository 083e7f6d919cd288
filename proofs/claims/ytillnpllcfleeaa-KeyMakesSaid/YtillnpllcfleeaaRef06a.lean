/- The reference's side of layer 6: a word shifted, a word turned. -/
import Derived.Test.YtillnpllcfleeaaSha1
import Derived.Lib.Hide
namespace Go.Proofs.Ytillnpllcfleeaa
open Go Go.RowKit

def shr (x : UInt32) (n : Nat) : UInt32 := UInt32.ofNat (x.toNat / 2 ^ n)

theorem shr_toNat (x : UInt32) (n : Nat) : (shr x n).toNat = x.toNat / 2 ^ n := by
  have hx := x.toNat_lt
  unfold shr
  rw [UInt32.toNat_ofNat']
  exact Nat.mod_eq_of_lt (Nat.lt_of_le_of_lt (Nat.div_le_self _ _) hx)
theorem shr_zero (x : UInt32) : shr x 0 = x := by
  apply UInt32.toNat_inj.1
  rw [shr_toNat]; simp
theorem shr_succ (x : UInt32) (k : Nat) : shr x k / 2 = shr x (k + 1) := by
  apply UInt32.toNat_inj.1
  rw [UInt32.toNat_div, shr_toNat, shr_toNat, Nat.pow_succ, Nat.div_div_eq_div_mul]
  rfl
/-- a word, doubled k times -/
def dbl (x : UInt32) : Nat → UInt32
  | 0 => x
  | k + 1 => 2 * dbl x k
theorem dbl_toNat (x : UInt32) (k : Nat) : (dbl x k).toNat = x.toNat * 2 ^ k % 4294967296 := by
  induction k with
  | zero => have := x.toNat_lt; simp [dbl]
  | succ k ih =>
    have e : x.toNat * 2 ^ (k + 1) = 2 * (x.toNat * 2 ^ k) := by rw [Nat.pow_succ, ← Nat.mul_assoc, Nat.mul_comm 2]
    rw [dbl, UInt32.toNat_mul, ih, e]
    show 2 * _ % 4294967296 = _
    omega
theorem shr_dbl (x : UInt32) (n : Nat) : shr x n + dbl x (32 - n) = rotr x n := by
  apply UInt32.toNat_inj.1
  rw [UInt32.toNat_add, shr_toNat, dbl_toNat, rotr, UInt32.toNat_ofNat']
  show _ % 4294967296 = _ % 4294967296
  omega

set_option maxHeartbeats 400000 in
theorem ref_shift (x : UInt32) (n : Nat) (w : World) (hn : n ≤ 32) :
    Calls Try.prog 142 #[.int .u32 (u32v x), .int .i64 (n : Int)] w fun e w' => e = .returned (.int .u32 (u32v (shr x n))) ∧ w' = w := by
  go_enter Try.func142, Try.ntmps142
  go_wp2
  go_loop [0, 5] (fun a i => ∃ (k : Nat) (y : UInt32), k ≤ n ∧ i = .int .i64 k ∧ a = .int .u32 (u32v y) ∧ Hid (y = shr x k)) (fun _ i => n - (intOf i).toNat)
  case atStart => exact ⟨0, x, by omega, rfl, rfl, Lib.hid (shr_zero x).symm⟩
  case round =>
    obtain ⟨k, y, hk, rfl, rfl, hy⟩ := hrel
    by_cases hlt : k < n
    · go_wp2
      go_round
      case rel => exact ⟨k + 1, y / 2, by omega, by go_num, by go_num, Lib.hid (by rw [hy.out, shr_succ])⟩
      case measure => simp [intOf]; omega
    · go_wp2
      go_ret
      have : k = n := by omega
      subst this
      exact ⟨by rw [hy.out]; rfl, rfl⟩

set_option maxHeartbeats 400000 in
theorem ref_turn (x : UInt32) (n : Nat) (w : World) (hn : n ≤ 32) :
    Calls Try.prog 141 #[.int .u32 (u32v x), .int .i64 (n : Int)] w fun e w' => e = .returned (.int .u32 (u32v (rotr x n))) ∧ w' = w := by
  go_enter Try.func141, Try.ntmps141
  go_wp2
  go_loop [5, 6] (fun a i => ∃ (k : Nat) (y : UInt32), n ≤ k ∧ k ≤ 32 ∧ i = .int .i64 k ∧ a = .int .u32 (u32v y) ∧ Hid (y = dbl x (k - n))) (fun _ i => 32 - (intOf i).toNat)
  case atStart => exact ⟨n, x, by omega, by omega, rfl, rfl, Lib.hid (by rw [Nat.sub_self]; rfl)⟩
  case round =>
    obtain ⟨k, y, hk, hk2, rfl, rfl, hy⟩ := hrel
    by_cases hlt : k < 32
    · go_wp2
      go_round
      case rel => exact ⟨k + 1, 2 * y, by omega, by omega, by go_num, by go_num, Lib.hid (by rw [hy.out, show k + 1 - n = (k - n) + 1 from by omega]; rfl)⟩
      case measure => simp [intOf]; omega
    · go_wp2_with (go_at_call 142; refine (ref_shift x n _ hn).mono ?_; rintro e w' ⟨rfl, rfl⟩)
      go_ret
      have : k = 32 := by omega
      subst this
      exact ⟨by rw [hy.out, shr_dbl]; rfl, rfl⟩
end Go.Proofs.Ytillnpllcfleeaa
