/- The reference's side of layer 6: texts, one behind the other. -/
import Derived.Test.YtillnpllcfleeaaRef06c
namespace Go.Proofs.Ytillnpllcfleeaa
open Go Go.RowKit

set_option maxHeartbeats 800000 in
theorem ref_join (A : Option Addr) (l : List (List UInt8)) (c : Nat) (w : World) (hl : RdL w w.heap.size A l) (hc : l.length ≤ 1099511627776) (hf : l.flatten.length ≤ 1099511627776) :
    Calls Try.prog 35 #[.slice A l.length c] w fun e w' => ∃ v, e = .returned v ∧ Own w' w.heap.size v l.flatten ∧ Below w.heap.size w w' := by
  go_enter Try.func35, Try.ntmps35
  go_wp2
  go_loopw [3, 4] (fun a i wr => ∃ k : Nat, k ≤ l.length ∧ i = .int .i64 k ∧ Own wr w.heap.size a (l.take k).flatten ∧ Below w.heap.size w wr) (fun _ i _ => l.length - (intOf i).toNat)
  case atStart => exact ⟨0, by omega, rfl, Own.nil _ _, Below.refl _ _⟩
  case round =>
    obtain ⟨k, hk, rfl, hown, hbel⟩ := hrel
    by_cases hlt : k < l.length
    · have hlr := hl.below hbel (Nat.le_refl _)
      obtain ⟨b, off, A', c', e1, e2, e3, e4, e5, e6⟩ := hlr.at1 hlt
      have h1 := total_le l (k + 1)
      have h2 := total_step l k hlt
      have h3 : (l.take (k + 1)).flatten = (l.take k).flatten ++ l[k] := by rw [List.take_succ_eq_append_getElem hlt, List.flatten_append]; simp
      obtain ⟨d, hd⟩ : ∃ d, d = l[k] := ⟨_, rfl⟩
      obtain ⟨p, hp⟩ : ∃ p, p = (l.take k).flatten := ⟨_, rfl⟩
      rw [← hd] at e3 e4 e6 h2 h3
      rw [← hp] at h2 h3 hown
      subst e1
      have Hd := Lib.hid hd; clear hd
      have Hp := Lib.hid hp; clear hp
      have H3 := Lib.hid h3; clear h3
      have hsz : p.length + d.length ≤ 70368744177664 := by omega
      clear h1 h2
      have hrd := e6.more hbel.size
      go_wp2_with (at_builtin; refine app8 rfl (.tmp 11) (.tmp 15) rfl w.heap.size u3 p rfl hown wr.heap.size A' _ c' d rfl hrd rfl (by omega) hbel.size ?_; intro v1 w1 hown1 hg1 hat1)
      go_roundw
      case rel => exact ⟨k + 1, by omega, by go_num, by rw [H3.out]; exact hown1, hbel.grown hg1 hbel.size (fun x hx => (hown.lt x hx).1)⟩
      case measure => simp [intOf]; omega
    · go_wp2
      go_ret
      have : k = l.length := by omega
      subst this
      rw [List.take_length] at hown
      exact ⟨_, rfl, hown, hbel⟩
end Go.Proofs.Ytillnpllcfleeaa
