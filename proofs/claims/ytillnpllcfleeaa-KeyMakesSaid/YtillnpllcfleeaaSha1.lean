/- Walks of layer 6: a word turned, a block taken in. -/
import Derived.Test.YtillnpllcfleeaaProg
import Derived.Test.YtillnpllcfleeaaMem
import Derived.Test.YtillnpllcfleeaaSha
import Derived.Deep.QuietTactic
import Derived.BigQuiet
import Derived.StillTailTactics
namespace Go.Proofs.Ytillnpllcfleeaa
open Go Go.RowKit

theorem and31 (n : Nat) (h : 0 < n ∧ n < 32) : bits .and .u64 (IntKind.u64.wrap (-(n : Int))) 31 = ((32 - n : Nat) : Int) := by
  rw [wrap_u64']
  have e : (-(n:Int)) % 18446744073709551616 = ((18446744073709551616 - n : Nat) : Int) := by omega
  rw [e, show (31 : Int) = ((31 : Nat) : Int) from rfl, u64_and_nat _ _ (by omega) (by omega), nat_mask5]
  omega

theorem rotr_or (x : UInt32) (n : Nat) (h : 0 < n ∧ n < 32) :
    bits .or .u32 (u32v x * 2 ^ (32 - n) % 4294967296) (u32v x / 2 ^ (32 - (32 - n))) = u32v (rotr x n) := by
  have e : 32 - (32 - n) = n := by omega
  rw [e]
  unfold u32v rotr
  have hx := x.toNat_lt
  have h2 : (x.toNat : Int) * 2 ^ (32 - n) % 4294967296 = ((x.toNat * 2 ^ (32 - n) % 4294967296 : Nat) : Int) := by rw [Int.natCast_emod, Int.natCast_mul, Int.natCast_pow]; rfl
  have h3 : (x.toNat : Int) / 2 ^ n = ((x.toNat / 2 ^ n : Nat) : Int) := by push_cast; rfl
  rw [h2, h3, u32_or_nat _ _ (by omega) (by have := Nat.div_le_self x.toNat (2 ^ n); omega)]
  congr 1
  have hp : 2 ^ n * 2 ^ (32 - n) = 4294967296 := by rw [← Nat.pow_add, show n + (32 - n) = 32 from by omega]
  have hlt : x.toNat / 2 ^ n < 2 ^ (32 - n) := by
    apply Nat.div_lt_of_lt_mul
    rw [hp]; exact hx
  have hm : (x.toNat * 2 ^ (32 - n) % 4294967296) % 2 ^ (32 - n) = 0 := by
    rw [← hp, Nat.mod_mul_left_mod, Nat.mul_mod_left]
  rw [nat_join (32 - n) _ _ hm hlt]
  rw [UInt32.toNat_ofNat', Nat.add_comm]
  have hle : x.toNat * 2 ^ (32 - n) % 4294967296 + 2 ^ (32 - n) ≤ 4294967296 := by
    have hd : x.toNat * 2 ^ (32 - n) % 4294967296 = 2 ^ (32 - n) * (x.toNat % 2 ^ n) := by
      rw [← hp, Nat.mul_comm (2 ^ n), Nat.mul_comm x.toNat, Nat.mul_mod_mul_left]
    have h5 : x.toNat % 2 ^ n + 1 ≤ 2 ^ n := Nat.mod_lt _ (Nat.two_pow_pos n)
    calc x.toNat * 2 ^ (32 - n) % 4294967296 + 2 ^ (32 - n) = 2 ^ (32 - n) * (x.toNat % 2 ^ n + 1) := by rw [hd, Nat.mul_add, Nat.mul_one]
      _ ≤ 2 ^ (32 - n) * 2 ^ n := Nat.mul_le_mul_left _ h5
      _ = 4294967296 := by rw [Nat.mul_comm]; exact hp
  show _ = (x.toNat / 2 ^ n + x.toNat * 2 ^ (32 - n)) % 4294967296
  rw [Nat.add_mod, Nat.mod_eq_of_lt (show x.toNat / 2 ^ n < 4294967296 from Nat.lt_of_le_of_lt (Nat.div_le_self _ _) hx), Nat.mod_eq_of_lt (a := x.toNat / 2 ^ n + _) (by omega)]

set_option maxHeartbeats 400000 in
theorem rot_any (x : UInt32) (n : Nat) (w : World) (hn : 0 < n ∧ n < 32) :
    Calls Try.prog 238 #[.int .u32 (u32v x), .int .i64 (-(n : Int))] w fun e w' => e = .returned (.int .u32 (u32v (rotr x n))) ∧ w' = w := by
  have h1 := and31 n hn
  go_enter Try.func238, Try.ntmps238
  go_wp2
  go_ret
  exact ⟨ret_int (rotr_or x n hn), rfl⟩

set_option maxHeartbeats 400000 in
theorem turn_any (x : UInt32) (n : Int) (w : World) (hn : 0 < n ∧ n < 32) :
    Calls Try.prog 209 #[.int .u32 (u32v x), .int .i64 n] w fun e w' => e = .returned (.int .u32 (u32v (rotr x n.toNat))) ∧ w' = w := by
  obtain ⟨k, rfl⟩ := Int.eq_ofNat_of_zero_le (show 0 ≤ n by omega)
  rw [Int.toNat_natCast]
  go_enter Try.func209, Try.ntmps209
  go_wp2_with (go_at_call 238; refine (rot_any x k _ (by omega)).mono ?_; rintro e w' ⟨rfl, rfl⟩)
  go_ret
  exact ⟨rfl, rfl⟩
end Go.Proofs.Ytillnpllcfleeaa
