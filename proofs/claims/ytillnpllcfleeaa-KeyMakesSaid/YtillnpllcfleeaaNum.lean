/- Numbers of a fixed width as values of the machine: how Go's arithmetic on bytes and words reads over UInt8, UInt32, UInt64. No condition. -/
import Derived.WalkKit
import Derived.KernelRfl
import Derived.Lib.Hide
namespace Go.Proofs.Ytillnpllcfleeaa
open Go Go.RowKit

/-- The number of a byte, of a word: opaque for the walk's simp. -/
def u8v (x : UInt8) : Int := (x.toNat : Int)
def u16v (x : UInt16) : Int := (x.toNat : Int)
def u32v (x : UInt32) : Int := (x.toNat : Int)
def u64v (x : UInt64) : Int := (x.toNat : Int)

theorem u8v_lt (x : UInt8) : 0 ≤ u8v x ∧ u8v x < 256 := by unfold u8v; have := x.toNat_lt; omega
theorem u32v_lt (x : UInt32) : 0 ≤ u32v x ∧ u32v x < 4294967296 := by unfold u32v; have := x.toNat_lt; omega
theorem u64v_lt (x : UInt64) : 0 ≤ u64v x ∧ u64v x < 18446744073709551616 := by unfold u64v; have := x.toNat_lt; omega

theorem u8v_inj {x y : UInt8} (h : u8v x = u8v y) : x = y := by unfold u8v at h; exact UInt8.toNat_inj.1 (by omega)
theorem u32v_inj {x y : UInt32} (h : u32v x = u32v y) : x = y := by unfold u32v at h; exact UInt32.toNat_inj.1 (by omega)
theorem u64v_inj {x y : UInt64} (h : u64v x = u64v y) : x = y := by unfold u64v at h; exact UInt64.toNat_inj.1 (by omega)

/-! bits -/
theorem bits_xor_u8 (a b : UInt8) : bits .xor .u8 (u8v a) (u8v b) = u8v (a ^^^ b) := by
  unfold u8v; rw [u8_xor_nat _ _ a.toNat_lt b.toNat_lt]; simp
theorem bits_and_u8 (a b : UInt8) : bits .and .u8 (u8v a) (u8v b) = u8v (a &&& b) := by
  unfold u8v; rw [u8_and_nat _ _ a.toNat_lt b.toNat_lt]; simp
theorem bits_or_u8 (a b : UInt8) : bits .or .u8 (u8v a) (u8v b) = u8v (a ||| b) := by
  unfold u8v; rw [u8_or_nat _ _ a.toNat_lt b.toNat_lt]; simp
theorem bits_xor_u32 (a b : UInt32) : bits .xor .u32 (u32v a) (u32v b) = u32v (a ^^^ b) := by
  unfold u32v; rw [u32_xor_nat _ _ a.toNat_lt b.toNat_lt]; simp
theorem bits_and_u32 (a b : UInt32) : bits .and .u32 (u32v a) (u32v b) = u32v (a &&& b) := by
  unfold u32v; rw [u32_and_nat _ _ a.toNat_lt b.toNat_lt]; simp
theorem bits_or_u32 (a b : UInt32) : bits .or .u32 (u32v a) (u32v b) = u32v (a ||| b) := by
  unfold u32v; rw [u32_or_nat _ _ a.toNat_lt b.toNat_lt]; simp
theorem bits_xor_u64 (a b : UInt64) : bits .xor .u64 (u64v a) (u64v b) = u64v (a ^^^ b) := by
  unfold u64v; rw [u64_xor_nat _ _ a.toNat_lt b.toNat_lt]; simp
theorem bits_and_u64 (a b : UInt64) : bits .and .u64 (u64v a) (u64v b) = u64v (a &&& b) := by
  unfold u64v; rw [u64_and_nat _ _ a.toNat_lt b.toNat_lt]; simp
theorem bits_or_u64 (a b : UInt64) : bits .or .u64 (u64v a) (u64v b) = u64v (a ||| b) := by
  unfold u64v; rw [u64_or_nat _ _ a.toNat_lt b.toNat_lt]; simp

/-! sums -/
theorem wrap_add_u8 (a b : UInt8) : IntKind.u8.wrap (u8v a + u8v b) = u8v (a + b) := by
  unfold u8v; rw [IntKind.wrap_u8']; rw [UInt8.toNat_add]; rw [Int.natCast_emod, Int.natCast_add]; rfl
theorem wrap_add_u32 (a b : UInt32) : IntKind.u32.wrap (u32v a + u32v b) = u32v (a + b) := by
  unfold u32v; rw [IntKind.wrap_u32']; rw [UInt32.toNat_add]; rw [Int.natCast_emod, Int.natCast_add]; rfl
theorem wrap_u64' (n : Int) : IntKind.u64.wrap n = n % 18446744073709551616 := by simp [IntKind.wrap, IntKind.bits, IntKind.signed]
theorem wrap_add_u64 (a b : UInt64) : IntKind.u64.wrap (u64v a + u64v b) = u64v (a + b) := by
  unfold u64v; rw [wrap_u64', UInt64.toNat_add]; rw [Int.natCast_emod, Int.natCast_add]; rfl
theorem wrap_sub_u64 (a b : UInt64) : IntKind.u64.wrap (u64v a - u64v b) = u64v (a - b) := by
  unfold u64v; rw [wrap_u64']; have ha := a.toNat_lt; have hb := b.toNat_lt; rw [UInt64.toNat_sub]; omega
theorem wrap_mul_u64 (a b : UInt64) : IntKind.u64.wrap (u64v a * u64v b) = u64v (a * b) := by
  unfold u64v; rw [wrap_u64', UInt64.toNat_mul]; rw [Int.natCast_emod, Int.natCast_mul]; rfl

/-! from one width to another -/
theorem conv_8_32 (a : UInt8) : IntKind.u32.wrap (u8v a) = u32v a.toUInt32 := by
  unfold u8v u32v; rw [IntKind.wrap_u32']; have := a.toNat_lt; simp; omega
theorem conv_8_64 (a : UInt8) : IntKind.u64.wrap (u8v a) = u64v a.toUInt64 := by
  unfold u8v u64v; rw [wrap_u64']; have := a.toNat_lt; simp; omega
theorem conv_32_8 (a : UInt32) : IntKind.u8.wrap (u32v a) = u8v a.toUInt8 := by
  unfold u8v u32v; rw [IntKind.wrap_u8']; simp
theorem conv_64_8 (a : UInt64) : IntKind.u8.wrap (u64v a) = u8v a.toUInt8 := by
  unfold u8v u64v; rw [IntKind.wrap_u8']; simp
theorem conv_32_64 (a : UInt32) : IntKind.u64.wrap (u32v a) = u64v a.toUInt64 := by
  unfold u32v u64v; rw [wrap_u64']; have := a.toNat_lt; simp; omega
theorem conv_nat_8 (n : Nat) : IntKind.u8.wrap (n : Int) = u8v (UInt8.ofNat n) := by
  unfold u8v; rw [IntKind.wrap_u8']; simp
theorem conv_nat_32 (n : Nat) : IntKind.u32.wrap (n : Int) = u32v (UInt32.ofNat n) := by
  unfold u32v; rw [IntKind.wrap_u32']; simp
theorem conv_nat_64 (n : Nat) : IntKind.u64.wrap (n : Int) = u64v (UInt64.ofNat n) := by
  unfold u64v; rw [wrap_u64']; simp

theorem toNat_UInt8_lit {n : Nat} (h : n < 256) : (UInt8.ofNat n).toNat = n := by
  rw [UInt8.toNat_ofNat']; exact Nat.mod_eq_of_lt h
theorem toNat_UInt32_lit {n : Nat} (h : n < 4294967296) : (UInt32.ofNat n).toNat = n := by
  rw [UInt32.toNat_ofNat']; exact Nat.mod_eq_of_lt h
theorem toNat_UInt64_lit {n : Nat} (h : n < 18446744073709551616) : (UInt64.ofNat n).toNat = n := by
  rw [UInt64.toNat_ofNat']; exact Nat.mod_eq_of_lt h

/-! literals: the number n below the width -/
theorem u8v_lit (n : Nat) (h : n < 256) : u8v (UInt8.ofNat n) = (n : Int) := by
  unfold u8v; rw [toNat_UInt8_lit h]
theorem bits_xor_u8_lit (a : UInt8) (n : Nat) (h : n < 256) : bits .xor .u8 (u8v a) (no_index (OfNat.ofNat n : Int)) = u8v (a ^^^ UInt8.ofNat n) := by
  rw [← bits_xor_u8, u8v_lit n h]; rfl
theorem bits_xor_u8_lit' (a : UInt8) (n : Nat) (h : n < 256) : bits .xor .u8 (no_index (OfNat.ofNat n : Int)) (u8v a) = u8v (UInt8.ofNat n ^^^ a) := by
  rw [← bits_xor_u8, u8v_lit n h]; rfl
theorem bits_and_u8_lit (a : UInt8) (n : Nat) (h : n < 256) : bits .and .u8 (u8v a) (no_index (OfNat.ofNat n : Int)) = u8v (a &&& UInt8.ofNat n) := by
  rw [← bits_and_u8, u8v_lit n h]; rfl
theorem bits_and_u8_lit' (a : UInt8) (n : Nat) (h : n < 256) : bits .and .u8 (no_index (OfNat.ofNat n : Int)) (u8v a) = u8v (UInt8.ofNat n &&& a) := by
  rw [← bits_and_u8, u8v_lit n h]; rfl
theorem bits_or_u8_lit (a : UInt8) (n : Nat) (h : n < 256) : bits .or .u8 (u8v a) (no_index (OfNat.ofNat n : Int)) = u8v (a ||| UInt8.ofNat n) := by
  rw [← bits_or_u8, u8v_lit n h]; rfl
theorem bits_or_u8_lit' (a : UInt8) (n : Nat) (h : n < 256) : bits .or .u8 (no_index (OfNat.ofNat n : Int)) (u8v a) = u8v (UInt8.ofNat n ||| a) := by
  rw [← bits_or_u8, u8v_lit n h]; rfl
theorem wrap_mul_u8_lit (a : UInt8) (n : Nat) (h : n < 256) : IntKind.u8.wrap (u8v a * (no_index (OfNat.ofNat n : Int))) = u8v (a * UInt8.ofNat n) := by
  unfold u8v; rw [IntKind.wrap_u8', UInt8.toNat_mul, toNat_UInt8_lit h]; rw [Int.natCast_emod, Int.natCast_mul]; rfl
theorem wrap_mul_u8_lit' (a : UInt8) (n : Nat) (h : n < 256) : IntKind.u8.wrap ((no_index (OfNat.ofNat n : Int)) * u8v a) = u8v (UInt8.ofNat n * a) := by
  unfold u8v; rw [IntKind.wrap_u8', UInt8.toNat_mul, toNat_UInt8_lit h]; rw [Int.natCast_emod, Int.natCast_mul]; rfl
theorem wrap_add_u8_lit (a : UInt8) (n : Nat) (h : n < 256) : IntKind.u8.wrap (u8v a + (no_index (OfNat.ofNat n : Int))) = u8v (a + UInt8.ofNat n) := by
  unfold u8v; rw [IntKind.wrap_u8', UInt8.toNat_add, toNat_UInt8_lit h]; rw [Int.natCast_emod, Int.natCast_add]; rfl
theorem wrap_add_u8_lit' (a : UInt8) (n : Nat) (h : n < 256) : IntKind.u8.wrap ((no_index (OfNat.ofNat n : Int)) + u8v a) = u8v (UInt8.ofNat n + a) := by
  unfold u8v; rw [IntKind.wrap_u8', UInt8.toNat_add, toNat_UInt8_lit h]; rw [Int.natCast_emod, Int.natCast_add]; rfl
theorem div_u8_lit (a : UInt8) (n : Nat) (h : n < 256) : u8v a / (no_index (OfNat.ofNat n : Int)) = u8v (a / UInt8.ofNat n) := by
  unfold u8v; rw [UInt8.toNat_div, toNat_UInt8_lit h]; rw [Int.natCast_ediv]; rfl
theorem mod_u8_lit (a : UInt8) (n : Nat) (h : n < 256) : u8v a % (no_index (OfNat.ofNat n : Int)) = u8v (a % UInt8.ofNat n) := by
  unfold u8v; rw [UInt8.toNat_mod, toNat_UInt8_lit h]; rw [Int.natCast_emod]; rfl
theorem tdiv_u8_lit (a : UInt8) (n : Nat) (h : n < 256) : (u8v a).tdiv (no_index (OfNat.ofNat n : Int)) = u8v (a / UInt8.ofNat n) := by
  rw [← div_u8_lit a n h, Int.tdiv_eq_ediv_of_nonneg (u8v_lt a).1]
theorem tmod_u8_lit (a : UInt8) (n : Nat) (h : n < 256) : (u8v a).tmod (no_index (OfNat.ofNat n : Int)) = u8v (a % UInt8.ofNat n) := by
  rw [← mod_u8_lit a n h, Int.tmod_eq_emod_of_nonneg (u8v_lt a).1]
theorem wrap_u8v (a : UInt8) : IntKind.u8.wrap (u8v a) = u8v a := by
  have := u8v_lt a; rw [IntKind.wrap_u8']; omega
theorem u32v_lit (n : Nat) (h : n < 4294967296) : u32v (UInt32.ofNat n) = (n : Int) := by
  unfold u32v; rw [toNat_UInt32_lit h]
theorem bits_xor_u32_lit (a : UInt32) (n : Nat) (h : n < 4294967296) : bits .xor .u32 (u32v a) (no_index (OfNat.ofNat n : Int)) = u32v (a ^^^ UInt32.ofNat n) := by
  rw [← bits_xor_u32, u32v_lit n h]; rfl
theorem bits_xor_u32_lit' (a : UInt32) (n : Nat) (h : n < 4294967296) : bits .xor .u32 (no_index (OfNat.ofNat n : Int)) (u32v a) = u32v (UInt32.ofNat n ^^^ a) := by
  rw [← bits_xor_u32, u32v_lit n h]; rfl
theorem bits_and_u32_lit (a : UInt32) (n : Nat) (h : n < 4294967296) : bits .and .u32 (u32v a) (no_index (OfNat.ofNat n : Int)) = u32v (a &&& UInt32.ofNat n) := by
  rw [← bits_and_u32, u32v_lit n h]; rfl
theorem bits_and_u32_lit' (a : UInt32) (n : Nat) (h : n < 4294967296) : bits .and .u32 (no_index (OfNat.ofNat n : Int)) (u32v a) = u32v (UInt32.ofNat n &&& a) := by
  rw [← bits_and_u32, u32v_lit n h]; rfl
theorem bits_or_u32_lit (a : UInt32) (n : Nat) (h : n < 4294967296) : bits .or .u32 (u32v a) (no_index (OfNat.ofNat n : Int)) = u32v (a ||| UInt32.ofNat n) := by
  rw [← bits_or_u32, u32v_lit n h]; rfl
theorem bits_or_u32_lit' (a : UInt32) (n : Nat) (h : n < 4294967296) : bits .or .u32 (no_index (OfNat.ofNat n : Int)) (u32v a) = u32v (UInt32.ofNat n ||| a) := by
  rw [← bits_or_u32, u32v_lit n h]; rfl
theorem wrap_mul_u32_lit (a : UInt32) (n : Nat) (h : n < 4294967296) : IntKind.u32.wrap (u32v a * (no_index (OfNat.ofNat n : Int))) = u32v (a * UInt32.ofNat n) := by
  unfold u32v; rw [IntKind.wrap_u32', UInt32.toNat_mul, toNat_UInt32_lit h]; rw [Int.natCast_emod, Int.natCast_mul]; rfl
theorem wrap_mul_u32_lit' (a : UInt32) (n : Nat) (h : n < 4294967296) : IntKind.u32.wrap ((no_index (OfNat.ofNat n : Int)) * u32v a) = u32v (UInt32.ofNat n * a) := by
  unfold u32v; rw [IntKind.wrap_u32', UInt32.toNat_mul, toNat_UInt32_lit h]; rw [Int.natCast_emod, Int.natCast_mul]; rfl
theorem wrap_add_u32_lit (a : UInt32) (n : Nat) (h : n < 4294967296) : IntKind.u32.wrap (u32v a + (no_index (OfNat.ofNat n : Int))) = u32v (a + UInt32.ofNat n) := by
  unfold u32v; rw [IntKind.wrap_u32', UInt32.toNat_add, toNat_UInt32_lit h]; rw [Int.natCast_emod, Int.natCast_add]; rfl
theorem wrap_add_u32_lit' (a : UInt32) (n : Nat) (h : n < 4294967296) : IntKind.u32.wrap ((no_index (OfNat.ofNat n : Int)) + u32v a) = u32v (UInt32.ofNat n + a) := by
  unfold u32v; rw [IntKind.wrap_u32', UInt32.toNat_add, toNat_UInt32_lit h]; rw [Int.natCast_emod, Int.natCast_add]; rfl
theorem div_u32_lit (a : UInt32) (n : Nat) (h : n < 4294967296) : u32v a / (no_index (OfNat.ofNat n : Int)) = u32v (a / UInt32.ofNat n) := by
  unfold u32v; rw [UInt32.toNat_div, toNat_UInt32_lit h]; rw [Int.natCast_ediv]; rfl
theorem mod_u32_lit (a : UInt32) (n : Nat) (h : n < 4294967296) : u32v a % (no_index (OfNat.ofNat n : Int)) = u32v (a % UInt32.ofNat n) := by
  unfold u32v; rw [UInt32.toNat_mod, toNat_UInt32_lit h]; rw [Int.natCast_emod]; rfl
theorem tdiv_u32_lit (a : UInt32) (n : Nat) (h : n < 4294967296) : (u32v a).tdiv (no_index (OfNat.ofNat n : Int)) = u32v (a / UInt32.ofNat n) := by
  rw [← div_u32_lit a n h, Int.tdiv_eq_ediv_of_nonneg (u32v_lt a).1]
theorem tmod_u32_lit (a : UInt32) (n : Nat) (h : n < 4294967296) : (u32v a).tmod (no_index (OfNat.ofNat n : Int)) = u32v (a % UInt32.ofNat n) := by
  rw [← mod_u32_lit a n h, Int.tmod_eq_emod_of_nonneg (u32v_lt a).1]
theorem wrap_u32v (a : UInt32) : IntKind.u32.wrap (u32v a) = u32v a := by
  have := u32v_lt a; rw [IntKind.wrap_u32']; omega
theorem u64v_lit (n : Nat) (h : n < 18446744073709551616) : u64v (UInt64.ofNat n) = (n : Int) := by
  unfold u64v; rw [toNat_UInt64_lit h]
theorem bits_xor_u64_lit (a : UInt64) (n : Nat) (h : n < 18446744073709551616) : bits .xor .u64 (u64v a) (no_index (OfNat.ofNat n : Int)) = u64v (a ^^^ UInt64.ofNat n) := by
  rw [← bits_xor_u64, u64v_lit n h]; rfl
theorem bits_xor_u64_lit' (a : UInt64) (n : Nat) (h : n < 18446744073709551616) : bits .xor .u64 (no_index (OfNat.ofNat n : Int)) (u64v a) = u64v (UInt64.ofNat n ^^^ a) := by
  rw [← bits_xor_u64, u64v_lit n h]; rfl
theorem bits_and_u64_lit (a : UInt64) (n : Nat) (h : n < 18446744073709551616) : bits .and .u64 (u64v a) (no_index (OfNat.ofNat n : Int)) = u64v (a &&& UInt64.ofNat n) := by
  rw [← bits_and_u64, u64v_lit n h]; rfl
theorem bits_and_u64_lit' (a : UInt64) (n : Nat) (h : n < 18446744073709551616) : bits .and .u64 (no_index (OfNat.ofNat n : Int)) (u64v a) = u64v (UInt64.ofNat n &&& a) := by
  rw [← bits_and_u64, u64v_lit n h]; rfl
theorem bits_or_u64_lit (a : UInt64) (n : Nat) (h : n < 18446744073709551616) : bits .or .u64 (u64v a) (no_index (OfNat.ofNat n : Int)) = u64v (a ||| UInt64.ofNat n) := by
  rw [← bits_or_u64, u64v_lit n h]; rfl
theorem bits_or_u64_lit' (a : UInt64) (n : Nat) (h : n < 18446744073709551616) : bits .or .u64 (no_index (OfNat.ofNat n : Int)) (u64v a) = u64v (UInt64.ofNat n ||| a) := by
  rw [← bits_or_u64, u64v_lit n h]; rfl
theorem wrap_mul_u64_lit (a : UInt64) (n : Nat) (h : n < 18446744073709551616) : IntKind.u64.wrap (u64v a * (no_index (OfNat.ofNat n : Int))) = u64v (a * UInt64.ofNat n) := by
  unfold u64v; rw [wrap_u64', UInt64.toNat_mul, toNat_UInt64_lit h]; rw [Int.natCast_emod, Int.natCast_mul]; rfl
theorem wrap_mul_u64_lit' (a : UInt64) (n : Nat) (h : n < 18446744073709551616) : IntKind.u64.wrap ((no_index (OfNat.ofNat n : Int)) * u64v a) = u64v (UInt64.ofNat n * a) := by
  unfold u64v; rw [wrap_u64', UInt64.toNat_mul, toNat_UInt64_lit h]; rw [Int.natCast_emod, Int.natCast_mul]; rfl
theorem wrap_add_u64_lit (a : UInt64) (n : Nat) (h : n < 18446744073709551616) : IntKind.u64.wrap (u64v a + (no_index (OfNat.ofNat n : Int))) = u64v (a + UInt64.ofNat n) := by
  unfold u64v; rw [wrap_u64', UInt64.toNat_add, toNat_UInt64_lit h]; rw [Int.natCast_emod, Int.natCast_add]; rfl
theorem wrap_add_u64_lit' (a : UInt64) (n : Nat) (h : n < 18446744073709551616) : IntKind.u64.wrap ((no_index (OfNat.ofNat n : Int)) + u64v a) = u64v (UInt64.ofNat n + a) := by
  unfold u64v; rw [wrap_u64', UInt64.toNat_add, toNat_UInt64_lit h]; rw [Int.natCast_emod, Int.natCast_add]; rfl
theorem div_u64_lit (a : UInt64) (n : Nat) (h : n < 18446744073709551616) : u64v a / (no_index (OfNat.ofNat n : Int)) = u64v (a / UInt64.ofNat n) := by
  unfold u64v; rw [UInt64.toNat_div, toNat_UInt64_lit h]; rw [Int.natCast_ediv]; rfl
theorem mod_u64_lit (a : UInt64) (n : Nat) (h : n < 18446744073709551616) : u64v a % (no_index (OfNat.ofNat n : Int)) = u64v (a % UInt64.ofNat n) := by
  unfold u64v; rw [UInt64.toNat_mod, toNat_UInt64_lit h]; rw [Int.natCast_emod]; rfl
theorem tdiv_u64_lit (a : UInt64) (n : Nat) (h : n < 18446744073709551616) : (u64v a).tdiv (no_index (OfNat.ofNat n : Int)) = u64v (a / UInt64.ofNat n) := by
  rw [← div_u64_lit a n h, Int.tdiv_eq_ediv_of_nonneg (u64v_lt a).1]
theorem tmod_u64_lit (a : UInt64) (n : Nat) (h : n < 18446744073709551616) : (u64v a).tmod (no_index (OfNat.ofNat n : Int)) = u64v (a % UInt64.ofNat n) := by
  rw [← mod_u64_lit a n h, Int.tmod_eq_emod_of_nonneg (u64v_lt a).1]
theorem wrap_u64v (a : UInt64) : IntKind.u64.wrap (u64v a) = u64v a := by
  have := u64v_lt a; rw [wrap_u64']; omega

/-! the same behind the width's remainder written out -/
theorem mod_mul_u8_lit (a : UInt8) (n : Nat) (h : n < 256) : (u8v a * (no_index (OfNat.ofNat n : Int))) % 256 = u8v (a * UInt8.ofNat n) := by
  rw [← IntKind.wrap_u8']; exact wrap_mul_u8_lit a n h
theorem mod_mul_u8_lit' (a : UInt8) (n : Nat) (h : n < 256) : ((no_index (OfNat.ofNat n : Int)) * u8v a) % 256 = u8v (UInt8.ofNat n * a) := by
  rw [← IntKind.wrap_u8']; exact wrap_mul_u8_lit' a n h
theorem mod_add_u8_lit (a : UInt8) (n : Nat) (h : n < 256) : (u8v a + (no_index (OfNat.ofNat n : Int))) % 256 = u8v (a + UInt8.ofNat n) := by
  rw [← IntKind.wrap_u8']; exact wrap_add_u8_lit a n h
theorem mod_add_u8_lit' (a : UInt8) (n : Nat) (h : n < 256) : ((no_index (OfNat.ofNat n : Int)) + u8v a) % 256 = u8v (UInt8.ofNat n + a) := by
  rw [← IntKind.wrap_u8']; exact wrap_add_u8_lit' a n h
theorem mod_add_u8 (a b : UInt8) : (u8v a + u8v b) % 256 = u8v (a + b) := by
  rw [← IntKind.wrap_u8']; exact wrap_add_u8 a b
theorem mod_mul_u8 (a b : UInt8) : (u8v a * u8v b) % 256 = u8v (a * b) := by
  unfold u8v; rw [UInt8.toNat_mul, Int.natCast_emod, Int.natCast_mul]; rfl
theorem mod_sub_u8 (a b : UInt8) : (u8v a - u8v b) % 256 = u8v (a - b) := by
  unfold u8v; have ha := a.toNat_lt; have hb := b.toNat_lt; rw [UInt8.toNat_sub]; omega
theorem mod_sub_u8_lit' (b : UInt8) (n : Nat) (h : n < 256) : ((no_index (OfNat.ofNat n : Int)) - u8v b) % 256 = u8v (UInt8.ofNat n - b) := by
  rw [← mod_sub_u8, u8v_lit n h]; rfl
theorem mod_sub_u8_lit (b : UInt8) (n : Nat) (h : n < 256) : (u8v b - (no_index (OfNat.ofNat n : Int))) % 256 = u8v (b - UInt8.ofNat n) := by
  rw [← mod_sub_u8, u8v_lit n h]; rfl
theorem wrap_sub_u8 (a b : UInt8) : IntKind.u8.wrap (u8v a - u8v b) = u8v (a - b) := by
  rw [IntKind.wrap_u8']; exact mod_sub_u8 a b
theorem wrap_mul_u8 (a b : UInt8) : IntKind.u8.wrap (u8v a * u8v b) = u8v (a * b) := by
  rw [IntKind.wrap_u8']; exact mod_mul_u8 a b
theorem wrap_sub_u8_lit' (b : UInt8) (n : Nat) (h : n < 256) : IntKind.u8.wrap ((no_index (OfNat.ofNat n : Int)) - u8v b) = u8v (UInt8.ofNat n - b) := by
  rw [IntKind.wrap_u8']; exact mod_sub_u8_lit' b n h
theorem wrap_sub_u8_lit (b : UInt8) (n : Nat) (h : n < 256) : IntKind.u8.wrap (u8v b - (no_index (OfNat.ofNat n : Int))) = u8v (b - UInt8.ofNat n) := by
  rw [IntKind.wrap_u8']; exact mod_sub_u8_lit b n h
theorem mod_mul_u32_lit (a : UInt32) (n : Nat) (h : n < 4294967296) : (u32v a * (no_index (OfNat.ofNat n : Int))) % 4294967296 = u32v (a * UInt32.ofNat n) := by
  rw [← IntKind.wrap_u32']; exact wrap_mul_u32_lit a n h
theorem mod_mul_u32_lit' (a : UInt32) (n : Nat) (h : n < 4294967296) : ((no_index (OfNat.ofNat n : Int)) * u32v a) % 4294967296 = u32v (UInt32.ofNat n * a) := by
  rw [← IntKind.wrap_u32']; exact wrap_mul_u32_lit' a n h
theorem mod_add_u32_lit (a : UInt32) (n : Nat) (h : n < 4294967296) : (u32v a + (no_index (OfNat.ofNat n : Int))) % 4294967296 = u32v (a + UInt32.ofNat n) := by
  rw [← IntKind.wrap_u32']; exact wrap_add_u32_lit a n h
theorem mod_add_u32_lit' (a : UInt32) (n : Nat) (h : n < 4294967296) : ((no_index (OfNat.ofNat n : Int)) + u32v a) % 4294967296 = u32v (UInt32.ofNat n + a) := by
  rw [← IntKind.wrap_u32']; exact wrap_add_u32_lit' a n h
theorem mod_add_u32 (a b : UInt32) : (u32v a + u32v b) % 4294967296 = u32v (a + b) := by
  rw [← IntKind.wrap_u32']; exact wrap_add_u32 a b
theorem mod_mul_u32 (a b : UInt32) : (u32v a * u32v b) % 4294967296 = u32v (a * b) := by
  unfold u32v; rw [UInt32.toNat_mul, Int.natCast_emod, Int.natCast_mul]; rfl
theorem mod_sub_u32 (a b : UInt32) : (u32v a - u32v b) % 4294967296 = u32v (a - b) := by
  unfold u32v; have ha := a.toNat_lt; have hb := b.toNat_lt; rw [UInt32.toNat_sub]; omega
theorem mod_sub_u32_lit' (b : UInt32) (n : Nat) (h : n < 4294967296) : ((no_index (OfNat.ofNat n : Int)) - u32v b) % 4294967296 = u32v (UInt32.ofNat n - b) := by
  rw [← mod_sub_u32, u32v_lit n h]; rfl
theorem mod_sub_u32_lit (b : UInt32) (n : Nat) (h : n < 4294967296) : (u32v b - (no_index (OfNat.ofNat n : Int))) % 4294967296 = u32v (b - UInt32.ofNat n) := by
  rw [← mod_sub_u32, u32v_lit n h]; rfl
theorem wrap_sub_u32 (a b : UInt32) : IntKind.u32.wrap (u32v a - u32v b) = u32v (a - b) := by
  rw [IntKind.wrap_u32']; exact mod_sub_u32 a b
theorem wrap_mul_u32 (a b : UInt32) : IntKind.u32.wrap (u32v a * u32v b) = u32v (a * b) := by
  rw [IntKind.wrap_u32']; exact mod_mul_u32 a b
theorem wrap_sub_u32_lit' (b : UInt32) (n : Nat) (h : n < 4294967296) : IntKind.u32.wrap ((no_index (OfNat.ofNat n : Int)) - u32v b) = u32v (UInt32.ofNat n - b) := by
  rw [IntKind.wrap_u32']; exact mod_sub_u32_lit' b n h
theorem wrap_sub_u32_lit (b : UInt32) (n : Nat) (h : n < 4294967296) : IntKind.u32.wrap (u32v b - (no_index (OfNat.ofNat n : Int))) = u32v (b - UInt32.ofNat n) := by
  rw [IntKind.wrap_u32']; exact mod_sub_u32_lit b n h
theorem mod_mul_u64_lit (a : UInt64) (n : Nat) (h : n < 18446744073709551616) : (u64v a * (no_index (OfNat.ofNat n : Int))) % 18446744073709551616 = u64v (a * UInt64.ofNat n) := by
  rw [← wrap_u64']; exact wrap_mul_u64_lit a n h
theorem mod_mul_u64_lit' (a : UInt64) (n : Nat) (h : n < 18446744073709551616) : ((no_index (OfNat.ofNat n : Int)) * u64v a) % 18446744073709551616 = u64v (UInt64.ofNat n * a) := by
  rw [← wrap_u64']; exact wrap_mul_u64_lit' a n h
theorem mod_add_u64_lit (a : UInt64) (n : Nat) (h : n < 18446744073709551616) : (u64v a + (no_index (OfNat.ofNat n : Int))) % 18446744073709551616 = u64v (a + UInt64.ofNat n) := by
  rw [← wrap_u64']; exact wrap_add_u64_lit a n h
theorem mod_add_u64_lit' (a : UInt64) (n : Nat) (h : n < 18446744073709551616) : ((no_index (OfNat.ofNat n : Int)) + u64v a) % 18446744073709551616 = u64v (UInt64.ofNat n + a) := by
  rw [← wrap_u64']; exact wrap_add_u64_lit' a n h
theorem mod_add_u64 (a b : UInt64) : (u64v a + u64v b) % 18446744073709551616 = u64v (a + b) := by
  rw [← wrap_u64']; exact wrap_add_u64 a b
theorem mod_mul_u64 (a b : UInt64) : (u64v a * u64v b) % 18446744073709551616 = u64v (a * b) := by
  rw [← wrap_u64']; exact wrap_mul_u64 a b
theorem mod_sub_u64 (a b : UInt64) : (u64v a - u64v b) % 18446744073709551616 = u64v (a - b) := by
  rw [← wrap_u64']; exact wrap_sub_u64 a b
theorem mod_sub_u64_lit' (b : UInt64) (n : Nat) (h : n < 18446744073709551616) : ((no_index (OfNat.ofNat n : Int)) - u64v b) % 18446744073709551616 = u64v (UInt64.ofNat n - b) := by
  rw [← mod_sub_u64, u64v_lit n h]; rfl
theorem mod_sub_u64_lit (b : UInt64) (n : Nat) (h : n < 18446744073709551616) : (u64v b - (no_index (OfNat.ofNat n : Int))) % 18446744073709551616 = u64v (b - UInt64.ofNat n) := by
  rw [← mod_sub_u64, u64v_lit n h]; rfl
theorem wrap_sub_u64_lit' (b : UInt64) (n : Nat) (h : n < 18446744073709551616) : IntKind.u64.wrap ((no_index (OfNat.ofNat n : Int)) - u64v b) = u64v (UInt64.ofNat n - b) := by
  rw [wrap_u64']; exact mod_sub_u64_lit' b n h
theorem wrap_sub_u64_lit (b : UInt64) (n : Nat) (h : n < 18446744073709551616) : IntKind.u64.wrap (u64v b - (no_index (OfNat.ofNat n : Int))) = u64v (b - UInt64.ofNat n) := by
  rw [wrap_u64']; exact mod_sub_u64_lit b n h
theorem mod_u32_8 (a : UInt32) : u32v a % 256 = u8v a.toUInt8 := by rw [← IntKind.wrap_u8']; exact conv_32_8 a
theorem mod_u64_8 (a : UInt64) : u64v a % 256 = u8v a.toUInt8 := by rw [← IntKind.wrap_u8']; exact conv_64_8 a

/-! sums of more than two, as the walk leaves them -/
theorem sum_left_u8 (a b : Int) (c : UInt8) : (a + b + u8v c) % 256 = ((a + b) % 256 + u8v c) % 256 := by
  rw [Int.emod_add_emod]
theorem sum_right_u8 (a : UInt8) (b c : Int) : (u8v a + (b + c)) % 256 = (u8v a + (b + c) % 256) % 256 := by
  rw [Int.add_emod_emod]
theorem sum_left_u32 (a b : Int) (c : UInt32) : (a + b + u32v c) % 4294967296 = ((a + b) % 4294967296 + u32v c) % 4294967296 := by
  rw [Int.emod_add_emod]
theorem sum_right_u32 (a : UInt32) (b c : Int) : (u32v a + (b + c)) % 4294967296 = (u32v a + (b + c) % 4294967296) % 4294967296 := by
  rw [Int.add_emod_emod]
theorem sum_left_u64 (a b : Int) (c : UInt64) : (a + b + u64v c) % 18446744073709551616 = ((a + b) % 18446744073709551616 + u64v c) % 18446744073709551616 := by
  rw [Int.emod_add_emod]
theorem sum_right_u64 (a : UInt64) (b c : Int) : (u64v a + (b + c)) % 18446744073709551616 = (u64v a + (b + c) % 18446744073709551616) % 18446744073709551616 := by
  rw [Int.add_emod_emod]

theorem not_u32 (a : UInt32) : bits .xor .u32 IntKind.u32.max (u32v a) = u32v (4294967295 ^^^ a) := bits_xor_u32_lit' a 4294967295 (by decide)
theorem not_u64 (a : UInt64) : bits .xor .u64 IntKind.u64.max (u64v a) = u64v (18446744073709551615 ^^^ a) := bits_xor_u64_lit' a 18446744073709551615 (by decide)
theorem not_u8 (a : UInt8) : bits .xor .u8 IntKind.u8.max (u8v a) = u8v (255 ^^^ a) := bits_xor_u8_lit' a 255 (by decide)
attribute [go_sem] not_u8 not_u32 not_u64
attribute [go_sem] mod_u32_8 mod_u64_8
attribute [go_sem] mod_mul_u8_lit mod_mul_u8_lit' mod_add_u8_lit mod_add_u8_lit' mod_add_u8 mod_mul_u8 mod_sub_u8 mod_sub_u8_lit' mod_sub_u8_lit wrap_sub_u8 wrap_mul_u8 wrap_sub_u8_lit' wrap_sub_u8_lit mod_mul_u32_lit mod_mul_u32_lit' mod_add_u32_lit mod_add_u32_lit' mod_add_u32 mod_mul_u32 mod_sub_u32 mod_sub_u32_lit' mod_sub_u32_lit wrap_sub_u32 wrap_mul_u32 wrap_sub_u32_lit' wrap_sub_u32_lit mod_mul_u64_lit mod_mul_u64_lit' mod_add_u64_lit mod_add_u64_lit' mod_add_u64 mod_mul_u64 mod_sub_u64 mod_sub_u64_lit' mod_sub_u64_lit wrap_sub_u64_lit' wrap_sub_u64_lit
attribute [go_sem] bits_xor_u8 bits_and_u8 bits_or_u8 bits_xor_u32 bits_and_u32 bits_or_u32 bits_xor_u64 bits_and_u64 bits_or_u64 wrap_add_u8 wrap_add_u32 wrap_add_u64 wrap_sub_u64 wrap_mul_u64 conv_8_32 conv_8_64 conv_32_8 conv_64_8 conv_32_64 bits_xor_u8_lit bits_xor_u8_lit' bits_and_u8_lit bits_and_u8_lit' bits_or_u8_lit bits_or_u8_lit' wrap_mul_u8_lit wrap_mul_u8_lit' wrap_add_u8_lit wrap_add_u8_lit' div_u8_lit tdiv_u8_lit tmod_u8_lit wrap_u8v bits_xor_u32_lit bits_xor_u32_lit' bits_and_u32_lit bits_and_u32_lit' bits_or_u32_lit bits_or_u32_lit' wrap_mul_u32_lit wrap_mul_u32_lit' wrap_add_u32_lit wrap_add_u32_lit' div_u32_lit tdiv_u32_lit tmod_u32_lit wrap_u32v bits_xor_u64_lit bits_xor_u64_lit' bits_and_u64_lit bits_and_u64_lit' bits_or_u64_lit bits_or_u64_lit' wrap_mul_u64_lit wrap_mul_u64_lit' wrap_add_u64_lit wrap_add_u64_lit' div_u64_lit tdiv_u64_lit tmod_u64_lit wrap_u64v

theorem ret_nat {K : IntKind} {a b : Nat} (h : a = b) : Ending.returned (.int K (a : Int)) = .returned (.int K (b : Int)) := by rw [h]
theorem ret_int {K : IntKind} {a b : Int} (h : a = b) : Ending.returned (.int K a) = .returned (.int K b) := by rw [h]
end Go.Proofs.Ytillnpllcfleeaa
