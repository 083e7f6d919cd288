/- Walks of layer 8: a cipher made, a key's round keys, a block sealed by no cipher. -/
import Derived.Test.YtillnpllcfleeaaAes5
import Derived.Test.YtillnpllcfleeaaAes2
namespace Go.Proofs.Ytillnpllcfleeaa
open Go Go.RowKit

section
variable {P : Program} {ops : Array Oper} {rest : List Oper} {o : Oper} {a : Act} {w : World} {Q : Exit → Act → World → Prop}
theorem build1_abs (hg : o.guard = none) (t : TypeId) (i : Nat) (x : Operand) (ho : o.op = .build t #[(i, x)]) (u v : Value) (hv : a.eval x = u) (hr : ∀ w, (Instr.build t #[(i, u)]).run P w = .ok v w)
    (h : wpList P ops Q rest (a.put o.dst v) w) : wpList P ops Q (o :: rest) a w := by
  refine wpList_plain hg fun K hK => ?_
  subst hv
  unfold Oper.wp
  have e : (#[(i, x)] : Array (Nat × Operand)).map (fun (i, x) => (i, a.eval x)) = #[(i, a.eval x)] := by simp
  simp only [execOp, ho, Sem.run_bind, Sem.run_pure, e, hr, Result.andThen_ok]
  exact hK _ _ h
end

theorem build224 (w : World) : (Instr.build 224 #[(0, .agg (b8s sbox).toArray)]).run Try.prog w = .ok (.agg (b8s (sbox ++ List.replicate 176 0)).toArray) w := by kernel_rfl
theorem box_cells (S l : List UInt8) (h : S.length = 256) : ∀ i, i < 256 → ∀ (w : World) (g : Nat) (t : TypeId), BlB w g t (S ++ l) → w.cell? ⟨g, i, none⟩ = some (.int .u8 (u8v (bAt S i))) := by
  intro i hi w g t hb
  rw [hb.at i (by rw [List.length_append]; omega), bAt_append_left _ _ _ (by omega)]

set_option maxRecDepth 100000 in
set_option maxHeartbeats 2000000 in
theorem new_any (key : List UInt8) (w : World) (hk : key.length = 16) :
    Calls Try.prog 37 #[.agg (b8s key).toArray] w fun e w' => ∃ gc, e = .returned (.pointer (some ⟨gc, 0, none⟩)) ∧ w.heap.size ≤ gc ∧ BlB w' gc 224 (sbox ++ cols key) ∧ Below w.heap.size w w' := by
  obtain ⟨S, hS⟩ : ∃ S, S = sbox := ⟨_, rfl⟩
  have hSl : S.length = 256 := by rw [hS]; exact sbox_length
  have hbd : ∀ w : World, (Instr.build 224 #[(0, .agg (b8s S).toArray)]).run Try.prog w = .ok (.agg (b8s (S ++ List.replicate 176 0)).toArray) w := by rw [hS]; exact build224
  have hbx := boxes_any
  rw [← hS] at hbx
  have hkc : ∀ (W : World) (g : Nat) (l : List UInt8), g < W.heap.size → BlB W g 224 (S ++ l) → Calls Try.prog 144 #[.pointer (some ⟨g, 0, none⟩), .agg (b8s key).toArray] W fun e w' => e = .returned (.agg (b8s (cols key)).toArray) ∧ Below W.heap.size W w' := by
    intro W g l hg hb
    refine keys_any g key W hk hg fun i hi => ?_
    rw [← hS]
    exact box_cells S l hSl i hi W g 224 hb
  obtain ⟨C, hC⟩ : ∃ C, C = cols key := ⟨_, rfl⟩
  have hCl : C.length = 176 := by rw [hC]; exact cols_length key hk
  rw [← hC] at hkc
  rw [← hS, ← hC]
  have HS := Lib.hid hS; clear hS
  have HSl := Lib.hid hSl; clear hSl
  have Hbd := Lib.hid hbd; clear hbd
  have Hbx := Lib.hid hbx; clear hbx
  have Hkc := Lib.hid hkc; clear hkc
  have HC := Lib.hid hC; clear hC
  have HCl := Lib.hid hCl; clear hCl
  have Hk := Lib.hid hk; clear hk
  go_enter Try.func37, Try.ntmps37
  go_wp2_with (first
    | (have _h := hgk1; refine box_abs rfl 224 (.tmp 5) rfl (b8s (S ++ List.replicate 176 0)).toArray rfl ?_; intro gc w3 hgc1 hgc2 hc hb3
       have hkB := Blk.call hkA hb3
       have hz3 := hb3.size
       have hbw3 := hbw2.trans (hb3.mono hbw2.size))
    | (refine box_abs rfl 32 (.tmp 0) rfl (b8s key).toArray rfl ?_; intro gk w1 hgk1 hgk2 hgk hb1
       have hz1 := hb1.size)
    | (go_at_call 143; refine (Hbx.out _).mono ?_; rintro e w2 ⟨rfl, hb2⟩
       have hkA := hgk.call hb2
       have hz2 := hb2.size
       have hbw2 := hb1.trans (hb2.mono hz1))
    | (refine build1_abs rfl 224 0 (.tmp 4) rfl (.agg (b8s S).toArray) _ rfl Hbd.out ?_))
  have hBlc : BlB w3 gc 224 (S ++ List.replicate 176 0) := hc
  have hgk0 : w.heap.size ≤ gc ∧ gk ≠ gc := by omega
  obtain ⟨hgc0, hne⟩ := hgk0
  clear hb1 hgk hb2 hkA hbw2 hb3 hz1 hz2 hz3 hc _h
  refine wp_region_ordW (fun W => Below w.heap.size w W ∧ BlB W gk 32 key ∧ ∃ l, l.length = 176 ∧ BlB W gc 224 (S ++ l)) (.q 0 <| .q 1 <| .q 2 <| .q 3 <| .q 4 <| .m 5 <| .q 6 <| .q 7 <| .m 8 <| .done) (by kernel_rfl) (by kernel_rfl) (by kernel_rfl) ⟨hbw3.drew, Blk.drew hkB, _, by simp, Blk.drew hBlc⟩ ?_
  clear hbw3 hkB hBlc
  intro W0 hW0
  obtain ⟨hbW, hkW, l, hl, hcW⟩ := hW0
  simp only [tr, List.getElem?_cons_succ, List.getElem?_cons_zero]
  iterate 4 (
    (refine wpTr_q (v := ?_) (by rfl) (fun W hW => ?_) ?_
     rotate_left
     · first | (go_simp; done) | (go_simp; with_reducible rfl)
     simp only [Act.put, List.setIfInBounds_toArray, List.set_cons_zero, List.set_cons_succ]))
  refine wpTr_load 32 (.tmp 1) rfl gk 0 rfl (b8s key) _ (by rfl) (fun W hW => ?_) Try.underlying32 rfl (info32.trans (congrArg some (by rw [b8s_length, Hk.out]))) ?_
  · have := hW.2.1.range 0 16 (by rw [Hk.out]; omega)
    rw [List.drop_zero, List.take_of_length_le (by rw [Hk.out]; omega)] at this
    exact this
  simp only [Act.put, List.setIfInBounds_toArray, List.set_cons_zero, List.set_cons_succ]
  refine wpTr_m (fun K hK => ?_)
  go_wp2_with (go_at_call 144; refine (Hkc.out W0 gc l hcW.lt hcW).mono ?_; rintro e w4 ⟨rfl, hb4⟩)
  refine hK _ _ ⟨hbW.trans (hb4.mono hbW.size), Blk.call hkW hb4, l, hl, Blk.call hcW hb4⟩ ?_
  clear hK K
  have hcX := Blk.call hcW hb4
  have hbX := hbW.trans (hb4.mono hbW.size)
  have hkX := Blk.call hkW hb4
  clear hbW hkW hcW hb4

  iterate 2 (
    (refine wpTr_q (v := ?_) (by rfl) (fun W hW => ?_) ?_
     rotate_left
     · first | (go_simp; done) | (go_simp; with_reducible rfl)
     simp only [Act.put, List.setIfInBounds_toArray, List.set_cons_zero, List.set_cons_succ]))
  refine wpTr_m (fun K hK => ?_)
  go_wp2_with (refine stM rfl 40 (.tmp 14) (.tmp 12) rfl gc 256 rfl C rfl 224 (S ++ l) hcX 176 info40 HCl.out (by rw [List.length_append, HSl.out, hl]; omega) ?_; intro w5 hc5 hg5)
  have e5 : splice (S ++ l) 256 C = S ++ C := by
    unfold splice
    rw [← HSl.out, List.take_left', List.drop_of_length_le (by rw [List.length_append, hl, HCl.out]; omega), List.append_nil]
    rfl
  rw [e5] at hc5
  have hb5 := hbX.grown hg5 hbX.size (fun x hx => by cases hx; omega)
  refine hK _ _ ⟨hb5, Blk.grown hkX hg5 (by simp; exact hne), C, HCl.out, hc5⟩ ?_
  clear hK K
  refine wpTr_done ?_
  go_wp2
  go_ret
  exact ⟨gc, rfl, hgc0, hc5, hb5⟩
end Go.Proofs.Ytillnpllcfleeaa
