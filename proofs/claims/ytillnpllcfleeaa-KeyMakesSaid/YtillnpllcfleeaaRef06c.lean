/- The reference's side of layer 6: are texts too many, too long? -/
import Derived.Test.YtillnpllcfleeaaAppW
namespace Go.Proofs.Ytillnpllcfleeaa
open Go Go.RowKit

theorem total_le (l : List (List UInt8)) (k : Nat) : (l.take k).flatten.length ≤ l.flatten.length := by
  conv => rhs; rw [← List.take_append_drop k l, List.flatten_append, List.length_append]
  omega
theorem total_step (l : List (List UInt8)) (k : Nat) (hk : k < l.length) : (l.take (k + 1)).flatten.length = (l.take k).flatten.length + l[k].length := by
  rw [List.take_succ_eq_append_getElem hk, List.flatten_append, List.length_append]; simp

set_option maxHeartbeats 400000 in
theorem ref_great (A : Option Addr) (l : List (List UInt8)) (c m : Nat) (w : World) (hl : RdL w w.heap.size A l) (hc : l.length ≤ 140737488355328) (hf : ∀ bs ∈ l, bs.length ≤ 140737488355328) (hm : m ≤ 1099511627776) :
    Calls Try.prog 32 #[.slice A l.length c, .int .i64 (m : Int)] w fun e w' => e = .returned (.bool (decide (m < l.length + l.flatten.length))) ∧ w' = w := by
  go_enter Try.func32, Try.ntmps32
  go_wp2
  go_loop [5, 6] (fun a i => ∃ k N : Nat, k ≤ l.length ∧ N ≤ 1152921504606846976 ∧ i = .int .i64 k ∧ a = .int .i64 N ∧ Hid (N = l.length + (l.take k).flatten.length)) (fun _ i => l.length - (intOf i).toNat)
  case atStart => exact ⟨0, l.length, by omega, by omega, rfl, rfl, Lib.hid (by simp)⟩
  case round =>
    obtain ⟨k, N, hk, hN, rfl, rfl, hy⟩ := hrel
    by_cases hlt : k < l.length
    · by_cases hle : N ≤ m
      · obtain ⟨b, off, A', c', e1, e2, e3, e4, e5, e6⟩ := hl.at1 hlt
        have h2 := total_step l k hlt
        have h3 : l[k].length ≤ 140737488355328 := hf _ (List.getElem_mem hlt)
        obtain ⟨d, hd⟩ : ∃ d, d = l[k].length := ⟨_, rfl⟩
        rw [← hd] at e3 h2 h3
        subst e1
        have Hd := Lib.hid hd; clear hd
        have H2 := Lib.hid h2
        clear h2 e4 e5 e6
        go_wp2
        go_round
        case rel => exact ⟨k + 1, N + d, by omega, by omega, by go_num, by go_num, Lib.hid (by rw [H2.out, hy.out]; omega)⟩
        case measure => simp [intOf]; omega
      · go_wp2
        go_ret
        have h1 := total_le l k
        have h2 := hy.out
        have h3 : m < l.length + l.flatten.length := by omega
        refine ⟨?_, rfl⟩
        rw [List.length_flatten] at h3
        rw [decide_eq_true h3]
        show Ending.returned (Value.bool (decide (m < N))) = _
        rw [decide_eq_true (by omega)]
    · go_wp2
      go_ret
      have : k = l.length := by omega
      subst this
      have h2 := hy.out
      rw [List.take_length] at h2
      subst h2
      exact ⟨by simp, rfl⟩
end Go.Proofs.Ytillnpllcfleeaa
