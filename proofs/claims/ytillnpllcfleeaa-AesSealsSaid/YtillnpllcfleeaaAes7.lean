/- Walks of layer 8: no cipher seals to noughts; a key's round keys alone. -/
import Derived.Test.YtillnpllcfleeaaAes6
namespace Go.Proofs.Ytillnpllcfleeaa
open Go Go.RowKit

section
variable {P : Program} {ops : Array Oper} {rest : List Oper} {o : Oper} {a : Act} {w : World} {Q : Exit → Act → World → Prop}
theorem build0_abs (hg : o.guard = none) (t : TypeId) (ho : o.op = .build t #[]) (v : Value) (hr : ∀ w, (Instr.build t #[]).run P w = .ok v w)
    (h : wpList P ops Q rest (a.put o.dst v) w) : wpList P ops Q (o :: rest) a w := by
  refine wpList_plain hg fun K hK => ?_
  unfold Oper.wp
  have e : (#[] : Array (Nat × Operand)).map (fun (i, x) => (i, a.eval x)) = #[] := by simp
  simp only [execOp, ho, Sem.run_bind, Sem.run_pure, e, hr, Result.andThen_ok]
  exact hK _ _ h
end
theorem build32 (w : World) : (Instr.build 32 #[]).run Try.prog w = .ok (.agg (b8s (List.replicate 16 0)).toArray) w := by kernel_rfl

set_option maxRecDepth 100000 in
set_option maxHeartbeats 2000000 in
theorem seal_nil (b : List UInt8) (w : World) (hbl : b.length = 16) :
    Calls Try.prog 38 #[.pointer none, .agg (b8s b).toArray] w fun e w' => e = .returned (.agg (b8s (List.replicate 16 0)).toArray) ∧ Below w.heap.size w w' := by
  obtain ⟨N, hN⟩ : ∃ N : List UInt8, N = List.replicate 16 0 := ⟨_, rfl⟩
  have hb0 := build32
  have hz := zero32
  rw [← hN] at hb0 hz ⊢
  have hNl : N.length = 16 := by rw [hN]; rfl
  have HN := Lib.hid hN; clear hN
  have Hb0 := Lib.hid hb0; clear hb0
  have HNl := Lib.hid hNl; clear hNl
  obtain ⟨Z, hZ⟩ : ∃ Z, Z = (b8s N).toArray := ⟨_, rfl⟩
  rw [← hZ] at hz
  have HZ := Lib.hid hZ; clear hZ
  have Hz := Lib.hid hz; clear hz
  have Hb := Lib.hid hbl; clear hbl
  go_enter Try.func38, Try.ntmps38
  go_wp2_with (first
    | (refine box_abs rfl 33 (.tmp 0) rfl #[.pointer none] rfl ?_; intro gp w1 hgp1 hgp2 hp hb1
       have hz1 := hb1.size)
    | (refine box_abs rfl 32 (.tmp 1) rfl (b8s b).toArray rfl ?_; intro gb w2 hgb1 hgb2 hb hb2
       have hpB := hp.call hb2
       have hz2 := hb2.size)
    | (refine alloc_abs rfl 32 rfl Z Hz.out ?_; intro r w3 hr1 hr2 hr hb3
       have hpC := hpB.call hb3
       have cpC : w3.cell? ⟨gp, 0, none⟩ = some (.pointer none) := hpC.cell 0
       have hz3 := hb3.size
       rw [HZ.out] at hr)
    | (refine build0_abs rfl 32 rfl _ Hb0.out ?_)
    | (refine stB rfl 32 (.tmp 4) (.tmp 13) rfl r rfl N rfl N hr 16 info32 HNl.out HNl.out ?_; intro w5 hs5 hg5))
  exact bodyPost_ret (retB rfl r rfl N hs5 16 Try.underlying32 info32 HNl.out) rfl ⟨rfl, (hb1.trans ((hb2.mono hz1).trans (hb3.mono (Nat.le_trans hz1 hz2)))).grown hg5 (by omega) (fun x hx => by cases hx; omega)⟩

set_option maxRecDepth 100000 in
set_option maxHeartbeats 2000000 in
theorem roundKeys_any (key : List UInt8) (w : World) (hk : key.length = 16) :
    Calls Try.prog 42 #[.agg (b8s key).toArray] w fun e w' => e = .returned (.agg (b8s (cols key)).toArray) ∧ Below w.heap.size w w' := by
  obtain ⟨S, hS⟩ : ∃ S, S = sbox := ⟨_, rfl⟩
  have hSl : S.length = 256 := by rw [hS]; exact sbox_length
  have hbx := boxes_any
  rw [← hS] at hbx
  have hkc : ∀ (W : World) (g : Nat), g < W.heap.size → BlB W g 221 S → Calls Try.prog 144 #[.pointer (some ⟨g, 0, none⟩), .agg (b8s key).toArray] W fun e w' => e = .returned (.agg (b8s (cols key)).toArray) ∧ Below W.heap.size W w' := by
    intro W g hg hb
    refine keys_any g key W hk hg fun i hi => ?_
    rw [hb.at i (by rw [hSl]; exact hi), hS]
  obtain ⟨C, hC⟩ : ∃ C, C = cols key := ⟨_, rfl⟩
  have hCl : C.length = 176 := by rw [hC]; exact cols_length key hk
  rw [← hC] at hkc
  rw [← hC]
  obtain ⟨Z, hZ⟩ : ∃ Z, Z = (b8s (List.replicate 256 0)).toArray := ⟨_, rfl⟩
  have hz := zero221
  rw [← hZ] at hz
  have HZ := Lib.hid hZ; clear hZ
  have Hz := Lib.hid hz; clear hz
  obtain ⟨Z4, hZ4⟩ : ∃ Z, Z = (b8s (List.replicate 176 0)).toArray := ⟨_, rfl⟩
  have hz4 := zero40
  rw [← hZ4] at hz4
  have HZ4 := Lib.hid hZ4; clear hZ4
  have Hz4 := Lib.hid hz4; clear hz4
  have HS := Lib.hid hS; clear hS
  have HSl := Lib.hid hSl; clear hSl
  have Hbx := Lib.hid hbx; clear hbx
  have Hkc := Lib.hid hkc; clear hkc
  have HC := Lib.hid hC; clear hC
  have HCl := Lib.hid hCl; clear hCl
  have Hk := Lib.hid hk; clear hk
  go_enter Try.func42, Try.ntmps42
  go_wp2_with (first
    | (refine box_abs rfl 32 (.tmp 0) rfl (b8s key).toArray rfl ?_; intro gk w1 hgk1 hgk2 hgk hb1
       have hz1 := hb1.size)
    | (refine alloc_abs rfl 40 rfl Z4 Hz4.out ?_; intro r w2 hr1 hr2 hr hb2
       have hz2 := hb2.size
       have hkA := hgk.call hb2
       rw [HZ4.out] at hr
       have hbw2 := hb1.trans (hb2.mono hz1))
    | (go_at_call 143; refine (Hbx.out _).mono ?_; rintro e w3 ⟨rfl, hb3⟩
       have hkB := hkA.call hb3
       have hrB := Blk.call hr hb3
       have hz3 := hb3.size
       have hbw3 := hbw2.trans (hb3.mono hbw2.size))
    | (refine alloc_abs rfl 221 rfl Z Hz.out ?_; intro gs w4 hs1 hs2 hs hb4
       have hz4 := hb4.size
       have hkC := hkB.call hb4
       have hrC := Blk.call hrB hb4
       rw [HZ.out] at hs
       have hbw4 := hbw3.trans (hb4.mono hbw3.size))
    | (refine stB rfl 221 (.tmp 3) (.tmp 4) rfl gs rfl S rfl (List.replicate 256 0) hs 256 info221 HSl.out (by simp) ?_; intro w5 hs5 hg5
       have hkD := hkC.grown hg5 (by simp; omega)
       have hrD := Blk.grown hrC hg5 (by simp; omega)
       have hbw5 := hbw4.grown hg5 hbw4.size (fun x hx => by cases hx; omega))
    | (refine ldB rfl 32 (.tmp 1) rfl gk rfl key hkD 16 Try.underlying32 info32 Hk.out ?_)
    | (go_at_call 144; refine (Hkc.out _ gs hs5.lt hs5).mono ?_; rintro e w6 ⟨rfl, hb6⟩
       have hrE := Blk.call hrD hb6
       have hbw6 := hbw5.trans (hb6.mono hbw5.size))
    | (refine stB rfl 40 (.tmp 2) (.tmp 6) rfl r rfl C rfl _ hrE 176 info40 HCl.out (by simp) ?_; intro w7 hs7 hg7))
  exact bodyPost_ret (retA rfl r rfl C hs7 176 _ rfl Try.underlying40 info40 HCl.out) rfl ⟨rfl, hbw6.grown hg7 hbw6.size (fun x hx => by cases hx; omega)⟩
end Go.Proofs.Ytillnpllcfleeaa
