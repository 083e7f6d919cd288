/- Law 06, ShaCut: the walk. -/
import Derived.Test.YtillnpllcfleeaaKnown06
import Derived.Test.YtillnpllcfleeaaExt
namespace Go.Proofs.Ytillnpllcfleeaa
open Go Go.RowKit

theorem sha_length (m : List UInt8) : (sha m).length = 32 := outB_length (absorbed (padded m)) 8 (by omega)

set_option maxRecDepth 100000 in
set_option maxHeartbeats 1000000 in
theorem cut_early (A : Option Addr) (n c : Nat) (a1 a2 : Int) (w : World) (hc : n ≤ c) (hm : c ≤ maxLen)
    (h1 : -9223372036854775808 ≤ a1 ∧ a1 ≤ 9223372036854775807) (h2 : -9223372036854775808 ≤ a2 ∧ a2 ≤ 9223372036854775807) (h : 3000 < n ∨ a1 < 0 ∨ (n : Int) < a1 ∨ a2 < 0 ∨ (n : Int) - a1 < a2) :
    Calls Try.prog 4 #[.slice A n c, .int .i64 a1, .int .i64 a2] w fun e w' => e = .returned (.bool true) ∧ Below w.heap.size w w' := by
  unfold maxLen at hm
  by_cases c1 : 3000 < n
  · go_enter Try.func4, Try.ntmps4
    go_wp2_with (go_at_call 31; refine (known06 _).mono ?_; rintro e w1 ⟨rfl, hb1⟩)
    go_ret
    exact ⟨rfl, hb1⟩
  · by_cases c2 : a1 < 0
    · go_enter Try.func4, Try.ntmps4
      go_wp2_with (go_at_call 31; refine (known06 _).mono ?_; rintro e w1 ⟨rfl, hb1⟩)
      go_ret
      exact ⟨rfl, hb1⟩
    · by_cases c3 : (n : Int) < a1
      · go_enter Try.func4, Try.ntmps4
        go_wp2_with (go_at_call 31; refine (known06 _).mono ?_; rintro e w1 ⟨rfl, hb1⟩)
        go_ret
        exact ⟨rfl, hb1⟩
      · by_cases c4 : a2 < 0
        · go_enter Try.func4, Try.ntmps4
          go_wp2_with (go_at_call 31; refine (known06 _).mono ?_; rintro e w1 ⟨rfl, hb1⟩)
          go_ret
          exact ⟨rfl, hb1⟩
        · have c5 : (n : Int) - a1 < a2 := by omega
          go_enter Try.func4, Try.ntmps4
          go_wp2_with (go_at_call 31; refine (known06 _).mono ?_; rintro e w1 ⟨rfl, hb1⟩)
          go_ret
          exact ⟨rfl, hb1⟩
end Go.Proofs.Ytillnpllcfleeaa
