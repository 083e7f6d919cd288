/- The reference's side of layer 6: the state at first, the constants: rows of words of their own. -/
import Derived.Test.YtillnpllcfleeaaRef06a
import Derived.Test.YtillnpllcfleeaaAppW
import Derived.Test.YtillnpllcfleeaaSha3
namespace Go.Proofs.Ytillnpllcfleeaa
open Go Go.RowKit

set_option maxHeartbeats 400000 in
theorem ref_first (w : World) : Calls Try.prog 137 #[] w fun e w' => e = .returned (.slice (some ⟨w.heap.size, 0, none⟩) 8 8) ∧ w' = w.alloc (.cells st0.cells 79) := by
  rw [first_lit]
  go_enter Try.func137, Try.ntmps137
  go_wp2
  go_ret
  exact ⟨rfl, rfl⟩

set_option maxRecDepth 100000 in
set_option maxHeartbeats 400000 in
theorem ref_constants (w : World) : Calls Try.prog 138 #[] w fun e w' => e = .returned (.slice (some ⟨w.heap.size, 0, none⟩) 64 64) ∧ w' = w.alloc (.cells (w32s kons).toArray 79) := by
  rw [kons_lit]
  go_enter Try.func138, Try.ntmps138
  go_wp2
  go_ret
  exact ⟨rfl, rfl⟩
end Go.Proofs.Ytillnpllcfleeaa
