/- Words that come in. No condition. -/
import Derived.Test.YtillnpllcfleeaaExt
namespace Go.Proofs.Ytillnpllcfleeaa
open Go Go.RowKit
theorem wf_u64 {n : Int} (h : (Lit.int .u64 n).wf = true) : ∃ b : UInt64, n = u64v b := by
  have h2 : 0 ≤ n ∧ n < 18446744073709551616 := by
    simp [Lit.wf, IntKind.min, IntKind.max, IntKind.signed, IntKind.bits] at h
    omega
  refine ⟨UInt64.ofNat n.toNat, ?_⟩
  unfold u64v
  rw [toNat_UInt64_lit (by omega)]; omega
theorem wf_u32 {n : Int} (h : (Lit.int .u32 n).wf = true) : ∃ b : UInt32, n = u32v b := by
  have h2 : 0 ≤ n ∧ n < 4294967296 := by
    simp [Lit.wf, IntKind.min, IntKind.max, IntKind.signed, IntKind.bits] at h
    omega
  refine ⟨UInt32.ofNat n.toNat, ?_⟩
  unfold u32v
  rw [toNat_UInt32_lit (by omega)]; omega
end Go.Proofs.Ytillnpllcfleeaa
