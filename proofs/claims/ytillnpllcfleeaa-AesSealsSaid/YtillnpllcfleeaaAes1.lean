/- Walks of layer 8: a byte doubled, the box, the other one of a byte. -/
import Derived.Test.YtillnpllcfleeaaMk
import Derived.Test.YtillnpllcfleeaaAes
import Derived.Deep.QuietTactic
import Derived.BigQuiet
import Derived.StillTailTactics
namespace Go.Proofs.Ytillnpllcfleeaa
open Go Go.RowKit

theorem u8v_bit (b c : UInt8) (h : b &&& c = 0) : (u8v (b &&& c) != 0) = false := by rw [h]; rfl
theorem u8v_nobit (b c : UInt8) (h : ¬ b &&& c = 0) : (u8v (b &&& c) != 0) = true := by
  rw [bne_iff_ne]
  intro e
  exact h (u8v_inj (y := 0) (e.trans rfl))

set_option maxHeartbeats 400000 in
theorem twice_any (b : UInt8) (w : World) : Calls Try.prog 210 #[.int .u8 (u8v b)] w fun e w' => e = .returned (.int .u8 (u8v (twice b))) ∧ w' = w := by
  by_cases h : b &&& 128 = 0
  · have e : twice b = b * 2 := by unfold twice; rw [if_pos h]
    rw [e]
    have h1 := u8v_bit b 128 h
    have He := Lib.hid e; clear e h
    go_enter Try.func210, Try.ntmps210
    go_wp2
    go_ret
    exact ⟨rfl, rfl⟩
  · have e : twice b = (b * 2) ^^^ 27 := by unfold twice; rw [if_neg h]
    rw [e]
    have h1 := u8v_nobit b 128 h
    have He := Lib.hid e; clear e h
    go_enter Try.func210, Try.ntmps210
    go_wp2
    go_ret
    exact ⟨rfl, rfl⟩

theorem info221 : (Try.prog.info? 221).map (·.size) = some 256 := by kernel_rfl
theorem zero221 : ((Try.prog.info? 221).bind (·.zero)).map (·.cells) = some (b8s (List.replicate 256 0)).toArray := by kernel_rfl
theorem build221 (w : World) : (Instr.build 221 #[(0, .int .u8 99)]).run Try.prog w = .ok (.agg (b8s (boxAt 0)).toArray) w := by kernel_rfl
section
variable {P : Program} {ops : Array Oper} {rest : List Oper} {o : Oper} {a : Act} {w : World} {Q : Exit → Act → World → Prop}
theorem build_abs (hg : o.guard = none) (t : TypeId) (ps : Array (Nat × Operand)) (ho : o.op = .build t ps) (vs : Array (Nat × Value)) (hv : (ps.map fun (i, x) => (i, a.eval x)) = vs) (v : Value) (hr : ∀ w, (Instr.build t vs).run P w = .ok v w)
    (h : wpList P ops Q rest (a.put o.dst v) w) : wpList P ops Q (o :: rest) a w := by
  refine wpList_plain hg fun K hK => ?_
  subst hv
  unfold Oper.wp
  simp only [execOp, ho, Sem.run_bind, Sem.run_pure, hr, Result.andThen_ok]
  exact hK _ _ h
end

def qIn (q : UInt8) : Nat → UInt8
  | 0 => q
  | 1 => q ^^^ q * 2
  | 2 => (q ^^^ q * 2) ^^^ (q ^^^ q * 2) * 4
  | _ => ((q ^^^ q * 2) ^^^ (q ^^^ q * 2) * 4) ^^^ ((q ^^^ q * 2) ^^^ (q ^^^ q * 2) * 4) * 16
theorem qStep_lit (q : UInt8) (n m : Nat) (h : 2 ^ n = m) (hm : m < 256) : qStep q n = q ^^^ q * UInt8.ofNat m := by
  unfold qStep
  congr 1
  apply UInt8.toNat_inj.1
  rw [UInt8.toNat_mul, UInt8.toNat_ofNat', toNat_UInt8_lit hm, h]
theorem qNext_in (q : UInt8) : qNext q = if qIn q 3 &&& 128 = 0 then qIn q 3 else qIn q 3 ^^^ 9 := by
  unfold qNext
  rw [qStep_lit q 1 2 rfl (by decide), qStep_lit _ 2 4 rfl (by decide), qStep_lit _ 4 16 rfl (by decide)]
  rfl

theorem ix0 (w : World) : (Instr.index 294 (.agg #[.int .i64 1, .int .i64 2, .int .i64 4]) (.int .i64 0)).run Try.prog w = .ok (.int .i64 1) w := by kernel_rfl
theorem ix1 (w : World) : (Instr.index 294 (.agg #[.int .i64 1, .int .i64 2, .int .i64 4]) (.int .i64 1)).run Try.prog w = .ok (.int .i64 2) w := by kernel_rfl
theorem ix2 (w : World) : (Instr.index 294 (.agg #[.int .i64 1, .int .i64 2, .int .i64 4]) (.int .i64 2)).run Try.prog w = .ok (.int .i64 4) w := by kernel_rfl
theorem lit221 : Try.zeroCells221.setIfInBounds 0 (.int .u8 99) = (b8s (boxAt 0)).toArray := by kernel_rfl
set_option maxRecDepth 100000 in
set_option maxHeartbeats 2000000 in
theorem boxes_any (w : World) : Calls Try.prog 143 #[] w fun e w' => e = .returned (.agg (b8s sbox).toArray) ∧ Below w.heap.size w w' := by
  obtain ⟨Z, hZ⟩ : ∃ Z, Z = (b8s (List.replicate 256 0)).toArray := ⟨_, rfl⟩
  have hz := zero221
  rw [← hZ] at hz
  have HZ := Lib.hid hZ; clear hZ
  have Hz := Lib.hid hz; clear hz
  obtain ⟨L0, hL0⟩ : ∃ L, L = boxAt 0 := ⟨_, rfl⟩
  have hc := lit221
  rw [← hL0] at hc
  have hl0 : L0.length = 256 := by rw [hL0]; exact boxAt_length 0
  have Hc := Lib.hid hc; clear hc
  have HL0 := Lib.hid hL0; clear hL0
  have Hl0 := Lib.hid hl0; clear hl0
  go_enter Try.func143, Try.ntmps143
  go_wp2_with (first
    | (have _h := hr1; refine alloc_abs rfl 221 rfl Z Hz.out ?_; intro g w1 hg1 hg2 hg hb1)
    | (refine alloc_abs rfl 221 rfl Z Hz.out ?_; intro r w0 hr1 hr2 hr hb0)
    | (refine stB rfl 221 (.tmp 1) (.tmp 6) rfl g rfl L0 (congrArg Value.agg Hc.out) (List.replicate 256 0) (by rw [HZ.out] at hg; exact hg) 256 info221 Hl0.out (by simp) ?_; intro w2 hB hgw))
  have hr2' := (hr.call hb1).grown hgw (by simp; omega)
  have hbw2 : Below w.heap.size w w2 := (hb0.trans (hb1.mono hb0.size)).grown hgw (Nat.le_trans hb0.size hb1.size) (fun x hx => by cases hx; have := hb0.size; omega)
  have hrg : r ≠ g := by omega
  rw [HL0.out] at hB
  clear hr hg hb0 hb1 hgw Hl0 Hc HL0
  go_loopw [2, 3, 7] (fun v2 v3 i wr => ∃ (k : Nat) (p q : UInt8), k ≤ 255 ∧ i = .int .i64 k ∧ v2 = .int .u8 (u8v p) ∧ v3 = .int .u8 (u8v q) ∧ Hid (p = pAt k) ∧ Hid (q = qAt k) ∧ BlB wr g 221 (boxAt k) ∧ w2.grownBy wr (some g)) (fun _ _ i _ => 255 - (intOf i).toNat)
  case atStart => exact ⟨0, 1, 1, by omega, rfl, rfl, rfl, Lib.hid rfl, Lib.hid rfl, hB, grown_of_below (Below.refl _ _)⟩
  case round =>
    clear hB
    obtain ⟨k, p, q, hk, rfl, rfl, rfl, hp, hq, hB, hgr⟩ := hrel
    by_cases hlt : k < 255
    · obtain ⟨p2, ep⟩ : ∃ p2, p ^^^ twice p = p2 := ⟨_, rfl⟩
      have hp2 : p2 = pAt (k + 1) := by rw [← ep, pAt, ← hp.out]
      have Hp2 := Lib.hid hp2; clear hp2
      have hbl := boxAt_length k
      have hpl := u8v_lt p2
      have hcell := hB.at p2.toNat (by rw [hbl]; exact p2.toNat_lt)
      have hfr := Blk.frozen hB p2.toNat
      have Hbl := Lib.hid hbl; clear hbl
      go_wp2_with (go_at_call 210; refine (twice_any _ _).mono ?_; rintro e w' ⟨rfl, rfl⟩)
      go_loop [3, 14] (fun v3 i => ∃ (j : Nat) (x : UInt8), j ≤ 3 ∧ i = .int .i64 j ∧ v3 = .int .u8 (u8v x) ∧ Hid (x = qIn q j)) (fun _ i => 3 - (intOf i).toNat)
      case atStart => exact ⟨0, q, by omega, rfl, rfl, Lib.hid rfl⟩
      case round =>
        obtain ⟨j, x, hj, rfl, rfl, hx⟩ := hrel
        have h4 : j = 0 ∨ j = 1 ∨ j = 2 ∨ j = 3 := by omega
        rcases h4 with rfl | rfl | rfl | rfl
        · have e : x ^^^ x * 2 = qIn q 1 := by rw [hx.out]; rfl
          have He := Lib.hid e; clear e
          have hix := ix0
          go_wp2
          go_round
          case rel => exact ⟨1, x ^^^ x * 2, by omega, rfl, rfl, He⟩
          case measure => simp [intOf]
        · have e : x ^^^ x * 4 = qIn q 2 := by rw [hx.out]; rfl
          have He := Lib.hid e; clear e
          have hix := ix1
          go_wp2
          go_round
          case rel => exact ⟨2, x ^^^ x * 4, by omega, rfl, rfl, He⟩
          case measure => simp [intOf]
        · have e : x ^^^ x * 16 = qIn q 3 := by rw [hx.out]; rfl
          have He := Lib.hid e; clear e
          have hix := ix2
          go_wp2
          go_round
          case rel => exact ⟨3, x ^^^ x * 16, by omega, rfl, rfl, He⟩
          case measure => simp [intOf]
        · have hq2 : qAt (k + 1) = if x &&& 128 = 0 then x else x ^^^ 9 := by rw [qAt, ← hq.out, qNext_in, ← hx.out]
          have ht : (u8v p2).toNat = p2.toNat := by unfold u8v; rfl
          have hpl1 := hpl.1
          have hpl2 := hpl.2
          by_cases h8 : x &&& 128 = 0
          · have t8 := u8v_bit x 128 h8
            rw [if_pos h8] at hq2
            have Hq2 := Lib.hid hq2; clear hq2 h8
            go_wp2
            go_roundw
            case rel =>
              refine ⟨k + 1, p2, x, hlt, by go_num, rfl, rfl, Hp2, Lib.hid Hq2.out.symm, ?_, grownBy_set hgr _ _⟩
              have h := hB.set p2.toNat (affine x)
              rw [boxAt, ← Hp2.out, Hq2.out]
              exact h
            case measure => simp [intOf]; omega
          · have t8 := u8v_nobit x 128 h8
            rw [if_neg h8] at hq2
            have Hq2 := Lib.hid hq2; clear hq2 h8
            go_wp2
            go_roundw
            case rel =>
              refine ⟨k + 1, p2, x ^^^ 9, hlt, by go_num, rfl, rfl, Hp2, Lib.hid Hq2.out.symm, ?_, grownBy_set hgr _ _⟩
              have h := hB.set p2.toNat (affine (x ^^^ 9))
              rw [boxAt, ← Hp2.out, Hq2.out]
              exact h
            case measure => simp [intOf]; omega
    · have e : k = 255 := by omega
      subst e
      rw [box_is] at hB
      have hsl := sbox_length
      generalize hS : sbox = S at *
      have Hsl := Lib.hid hsl; clear hsl
      have HS := Lib.hid hS; clear hS
      have hrR := hr2'.grown hgr (by simp [hrg])
      rw [HZ.out] at hrR
      have hbR := hbw2.grown hgr hbw2.size (fun x hx => by cases hx; omega)
      go_wp2_with (first
        | (refine ldB rfl 221 (.tmp 1) rfl g rfl S hB 256 Try.underlying221 info221 Hsl.out ?_)
        | (refine stB rfl 221 (.tmp 0) (.tmp 57) rfl r rfl S rfl _ hrR 256 info221 Hsl.out (by simp) ?_; intro w7 hres hg7))
      refine bodyPost_ret (retB rfl r rfl S hres 256 Try.underlying221 info221 Hsl.out) rfl ⟨by rw [HS.out], hbR.grown hg7 hbR.size (fun x hx => by cases hx; exact hr1)⟩
end Go.Proofs.Ytillnpllcfleeaa
