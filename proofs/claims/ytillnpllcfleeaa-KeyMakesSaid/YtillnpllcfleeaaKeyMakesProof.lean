/-
  Rows.KeyMakesSaid. No condition.
  (The frame of this text began as the print of the kit's proof-skeleton.mjs.)
-/
import Derived.Test.YtillnpllcfleeaaRows
import Derived.WalkKit
import Derived.ProofKit
import Derived.OpenShut
import Derived.ShutString
import Derived.ChangeOld
import Derived.Below
import Derived.Test.YtillnpllcfleeaaKey7
import Derived.Test.YtillnpllcfleeaaOpen
import Derived.Test.YtillnpllcfleeaaNums2
import Derived.Test.YtillnpllcfleeaaFront
namespace Go.Proofs.Ytillnpllcfleeaa.keyMakes
open Go.ChangeShapes Go.WideShapes Go.ChangeAt Go.RowKit
open Go.ChangeMaps (open_string shut_string)

theorem own : ownKnob Try.prog.godebug = none := by kernel_rfl
theorem cells32 : Try.prog.cellsOf 32 = 16 := by kernel_rfl
theorem cells25 : Try.prog.cellsOf 25 = 32 := by kernel_rfl
theorem cells51 : Try.prog.cellsOf 51 = 12 := by kernel_rfl
theorem bytesOf28 : Try.prog.bytesOf 28 = 24 := by kernel_rfl

set_option maxRecDepth 100000 in
theorem lifted (os : Os) (started : os.Started) (H : Type) (enc : TypeId × Value → H) :
    ReturnsInHanded {} Try.checked os 11 .any (Rows.keyMakesSpec.pre6 enc Try.prog Try.f11 Rows.keyMakesRow.domain false) (Rows.keyMakesSpec.post enc Try.prog Try.f11 false true false false) := by
  refine returnsInHanded_of_change_sized (C := Try.checked) own started (by kernel_rfl) Try.func11
    (ChangeSpec.witness6 (enc := enc) (C := Try.checked) false ⟨#[], #[.agg #[.int .u8 0, .int .u8 0, .int .u8 0, .int .u8 0, .int .u8 0, .int .u8 0, .int .u8 0, .int .u8 0, .int .u8 0, .int .u8 0, .int .u8 0, .int .u8 0, .int .u8 0, .int .u8 0, .int .u8 0, .int .u8 0, .int .u8 0, .int .u8 0, .int .u8 0, .int .u8 0, .int .u8 0, .int .u8 0, .int .u8 0, .int .u8 0, .int .u8 0, .int .u8 0, .int .u8 0, .int .u8 0, .int .u8 0, .int .u8 0, .int .u8 0, .int .u8 0], .slice none 0 0, .int .u64 0], []⟩ 8 (by kernel_rfl) (by kernel_rfl) (by kernel_rfl) (by kernel_rfl)) ?_
  intro W base args ds gs before hval0 hW hcnd hsz0 _
  have hval : ∀ (j : Nat) t v, Try.f11.params[j]? = some t → args[j]? = some v → Value.okWide Try.prog W .any base t v := hval0
  have hsz : (DataW.weightsEach Try.prog (Try.f11.params.toList ++ Rows.keyMakesSpec.plain.varTypes Try.prog) (ds ++ gs)).all (· ≤ reachBytes) = true := hsz0
  have hW' := hW
  obtain ⟨p, q, hA0, hV, rfl, hfz, hnd⟩ := hW
  have hA : DataW.TrodAll enc Try.prog W 0 (fun _ => true) true Try.f11.params.toList args.toList ds p := hA0
  rw [Try.params11] at hA hval hsz
  obtain ⟨v0, vs0, d0, ds0, p0, q0, hargs, rfl, rfl, h0, r0⟩ := trodAll_cons hA
  obtain ⟨v1, vs1, d1, ds1, p1, q1, rfl, rfl, rfl, h1, r1⟩ := trodAll_cons r0
  obtain ⟨v2, vs2, d2, ds2, p2, q2, rfl, rfl, rfl, h2, r2⟩ := trodAll_cons r1
  obtain ⟨rfl, rfl, rfl⟩ := trodAll_nil r2
  obtain rfl : args = #[v0, v1, v2] := by cases args; simp_all
  obtain ⟨rfl, rfl⟩ := trodVars_none hV
  have lt0 : ∀ x ∈ p0, x.block < W.heap.size := by obtain ⟨m, hm⟩ := h0; exact DataW.trod_lt m _ _ _ hm
  have lt1 : ∀ x ∈ p1, x.block < W.heap.size := by obtain ⟨m, hm⟩ := h1; exact DataW.trod_lt m _ _ _ hm
  have lt2 : ∀ x ∈ p2, x.block < W.heap.size := by obtain ⟨m, hm⟩ := h2; exact DataW.trod_lt m _ _ _ hm
  obtain ⟨b0, l0, rfl⟩ := open_u8s Try.underlying25 cells25 (hval 0 25 v0 rfl rfl) h0
  have hq1 : ∀ q ∈ d1.weights Try.prog 28, q ≤ reachBytes := fun q hq => by
    have := List.all_eq_true.1 hsz q (DataW.weights_mem_each (j := 1) rfl rfl q hq)
    simpa using this
  obtain ⟨A1, b1, c1, rfl, l1, m1, rd1, w1⟩ := open_bytes (hval 1 28 v1 rfl rfl) h1
  have z1 := w1 hq1
  obtain ⟨a2, rfl, rfl, rfl, w2⟩ := open_int Try.underlying52 (hval 2 52 v2 rfl rfl) h2
  obtain ⟨b2, rfl⟩ := wf_u64 w2
  have hrb : reachBytes ≤ 140737488355328 := Nat.le_of_lt reachBytes_lt
  clear hA0 hval0
  refine (makes_any b0 _ b1 b2 W l0 (Sl.mk rd1 rfl l1 m1)).mono fun e W' ⟨he, bel⟩ => ?_
  subst he
  exact ⟨_, rfl, _, _, _, [], _, [], hW', trodAll_mk1 (shut_bool Try.underlying4 _), (trodAll_cons_mk (Below.trod laidOut_is (by kernel_rfl) (of_decide_eq_true (by kernel_rfl)) h0 bel lt0) (trodAll_cons_mk (Below.trod laidOut_is (by kernel_rfl) (of_decide_eq_true (by kernel_rfl)) h1 bel lt1) (trodAll_cons_mk (shut_int Try.underlying52 w2) trodAll_mk0))), rfl, bel.frame _, fun h => by cases h⟩

set_option maxHeartbeats 4000000 in
theorem closed : joinedFacts Try.prog 11 Try.f11 Rows.keyMakesSpec Rows.keyMakesRow = true := by
  unfold joinedFacts
  repeat' (with_reducible refine Bool.and_eq_true_iff.2 ⟨?_, ?_⟩)
  all_goals (first
    | with_reducible exact mayEnter_is
    | with_reducible exact laidOut_is
    | with_reducible exact mapsRowed_is
    | with_reducible exact stopsHeard_is
    | (rw [liftsFinal_is]; kernel_rfl)
    | (rw [make_is]; kernel_rfl)
    | (rw [plainKeys_is]; kernel_rfl)
    | (as_aux_lemma => kernel_rfl))
theorem named : Try.pinned.checked.prog.funcNamed Rows.keyMakesRow.func = some 11 := by kernel_rfl
theorem wrap : Try.f11.isWrapper Try.pinned.checked.prog Rows.keyMakesRow.wrapper Rows.keyMakesRow.mainSum := by unfold Func.isWrapper; first | (rw [if_pos (by decide +kernel)]; kernel_rfl) | (rw [if_neg (by decide +kernel)]; exact ⟨rfl, rfl⟩)
theorem inst : Try.f11.isInstance Try.pinned.checked.prog Rows.keyMakesRow.origin Rows.keyMakesRow.targs := of_decide_eq_true (by kernel_rfl)
theorem over : Rows.keyMakesRow.holds Try.pinned (OpenSpec.ofChange Rows.keyMakesSpec) :=
  OpenClaim.holds_of_wide 11 Try.f11 rfl rfl rfl rfl rfl rfl rfl ⟨rfl, rfl, rfl, rfl, rfl⟩ rfl rfl rfl rfl rfl named Try.func11 closed
    inst wrap
    (fun os started H enc _ => lifted os started H enc)

/-- THE STATEMENT -/
theorem proved : Rows.KeyMakesSaid := over
#print axioms proved
end Go.Proofs.Ytillnpllcfleeaa.keyMakes
