/- Layer 7, walks: the reference's Label. -/
import Derived.Test.YtillnpllcfleeaaKdf6
namespace Go.Proofs.Ytillnpllcfleeaa
open Go Go.RowKit

theorem info_flat2 (lab ctx : List UInt8) (n : Nat) : (([UInt8.ofNat (n / 256), UInt8.ofNat n, UInt8.ofNat (6 + lab.length), 116, 108, 115, 49, 51, 32] ++ lab) ++ [UInt8.ofNat ctx.length]) ++ ctx = infoOf lab ctx n := by
  simp [infoOf]

set_option maxRecDepth 100000 in
set_option maxHeartbeats 4000000 in
theorem reflabel_no (sec lab : List UInt8) (A : Option Addr) (m c : Nat) (n : Int) (w : World) (h : n < 1 ∨ 8160 < n ∨ 249 < lab.length ∨ 255 < m) :
    Calls Try.prog 51 #[.agg (b8s sec).toArray, .string (strOf lab), .slice A m c, .int .i64 n] w fun e w' => e = .returned (.slice none 0 0) ∧ Below w.heap.size w w' := by
  have hz := strOf_len lab
  obtain ⟨S, hS⟩ : ∃ S, S = strOf lab := ⟨_, rfl⟩
  rw [← hS] at hz ⊢
  have h3 : n < 1 ∨ 8160 < n ∨ 249 < S.size ∨ 255 < m := by rw [hz]; exact h
  clear h hz hS
  by_cases c1 : n < 1
  · go_enter Try.func51, Try.ntmps51
    go_wp2_with (refine box_abs rfl 25 (.tmp 0) rfl (b8s sec).toArray rfl ?_; intro g3 w1 hg3 hg3' hr3 hb1)
    go_ret
    exact ⟨rfl, hb1⟩
  · by_cases c2 : 8160 < n
    · clear h3
      go_enter Try.func51, Try.ntmps51
      go_wp2_with (refine box_abs rfl 25 (.tmp 0) rfl (b8s sec).toArray rfl ?_; intro g3 w1 hg3 hg3' hr3 hb1)
      go_ret
      exact ⟨rfl, hb1⟩
    · by_cases c3 : 249 < S.size
      · clear h3
        go_enter Try.func51, Try.ntmps51
        go_wp2_with (refine box_abs rfl 25 (.tmp 0) rfl (b8s sec).toArray rfl ?_; intro g3 w1 hg3 hg3' hr3 hb1)
        go_ret
        exact ⟨rfl, hb1⟩
      · have c4 : 255 < m := by omega
        clear h3
        go_enter Try.func51, Try.ntmps51
        go_wp2_with (refine box_abs rfl 25 (.tmp 0) rfl (b8s sec).toArray rfl ?_; intro g3 w1 hg3 hg3' hr3 hb1)
        go_ret
        exact ⟨rfl, hb1⟩

set_option maxRecDepth 100000 in
set_option maxHeartbeats 4000000 in
theorem reflabel_yes (sec lab ctx : List UInt8) (u : Value) (n : Nat) (w : World) (hs : sec.length = 32) (hl : lab.length ≤ 249) (hu : Sl w w.heap.size u ctx) (hc : ctx.length ≤ 255) (h1 : 1 ≤ n) (h2 : n ≤ 8160) :
    Calls Try.prog 51 #[.agg (b8s sec).toArray, .string (strOf lab), u, .int .i64 (n : Int)] w fun e w' => ∃ v, e = .returned v ∧ Own w' w.heap.size v (labelOut sec lab ctx n) ∧ Below w.heap.size w w' := by
  have hu0 := hu
  obtain ⟨A, c, rfl, hca, hcm, hr⟩ := hu
  have hz := strOf_len lab
  obtain ⟨S, hS⟩ : ∃ S, S = strOf lab := ⟨_, rfl⟩
  rw [← hS] at hz ⊢
  have hz2 : S.size ≤ 249 := by omega
  have hzs : ([(n : Int) / 256, (n : Int) % 256, 6 + (S.size : Int), 116, 108, 115, 49, 51, 32] : List Int) = [UInt8.ofNat (n / 256), UInt8.ofNat n, UInt8.ofNat (6 + lab.length), 116, 108, 115, 49, 51, 32].map u8v := by
    have e1 := conv_nat_8 (n / 256)
    have e2 := conv_nat_8 n
    have e3 := conv_nat_8 (6 + lab.length)
    rw [IntKind.wrap_u8'] at e1 e2 e3
    rw [hz]
    simp only [List.map_cons, List.map_nil, ← e1, ← e2, ← e3]
    rw [Int.emod_eq_of_lt (a := ((n / 256 : Nat) : Int)) (by omega) (by omega), Int.emod_eq_of_lt (a := ((6 + lab.length : Nat) : Int)) (by omega) (by omega)]
    simp [u8v]
  have hzc : (ctx.length : Int) = u8v (UInt8.ofNat ctx.length) := by
    have e := conv_nat_8 ctx.length
    rwa [IntKind.wrap_u8', Int.emod_eq_of_lt (by omega) (by omega)] at e
  have hfl := info_flat2 lab ctx n
  have hil := infoOf_length lab ctx n
  have hO : labelOut sec lab ctx n = expand sec (infoOf lab ctx n) n := rfl
  obtain ⟨I, hI⟩ : ∃ I, I = infoOf lab ctx n := ⟨_, rfl⟩
  rw [← hI] at hfl hil hO
  obtain ⟨L3, hL3⟩ : ∃ L, L = [UInt8.ofNat (n / 256), UInt8.ofNat n, UInt8.ofNat (6 + lab.length), 116, 108, 115, 49, 51, 32] := ⟨_, rfl⟩
  rw [← hL3] at hzs hfl
  have l3 : 9 = L3.length := by rw [hL3]; rfl
  have Hz := Lib.hid hz; clear hz
  have Hzs := Lib.hid hzs; clear hzs
  have Hzc := Lib.hid hzc; clear hzc
  have Hfl := Lib.hid hfl; clear hfl
  have Hil := Lib.hid hil; clear hil
  have HO := Lib.hid hO; clear hO
  have HI := Lib.hid hI; clear hI
  have H3 := Lib.hid hL3; clear hL3
  have HS := Lib.hid hS; clear hS
  have Hl3 := Lib.hid l3; clear l3
  have Hs := Lib.hid hs; clear hs
  go_enter Try.func51, Try.ntmps51
  go_wp2_with (first
    | (refine box_abs rfl 25 (.tmp 0) rfl (b8s sec).toArray rfl ?_; intro g1 w1 hg1 hg1' hr1 hb1
       have hu1 := (hu0.below hb1 (Nat.le_refl _)).more hb1.size)
    | (refine lit8 rfl 9 [(0, .tmp 28), (1, .tmp 31), (2, .tmp 35), (3, .const (.int .u8 116)), (4, .const (.int .u8 108)), (5, .const (.int .u8 115)), (6, .const (.int .u8 49)), (7, .const (.int .u8 51)), (8, .const (.int .u8 32))] rfl [(n : Int) / 256, (n : Int) % 256, 6 + (S.size : Int), 116, 108, 115, 49, 51, 32] L3 rfl Hzs.out Hl3.out (by decide) ?_; intro g2 w2 hg2 hg2' hO2 hb2
       have x2 : Below w1.heap.size w1 w2 := hb2)
    | (at_builtin; refine app8s rfl (.tmp 37) (.tmp 38) rfl w1.heap.size _ L3 rfl hO2 lab (by rw [← HS.out]; rfl) (by rw [← Hl3.out]; omega) x2.size ?_; intro v3 w3 hO3 hg3
       have x3 := x2.grown hg3 x2.size (fun x hx => (hO2.lt x hx).1))
    | (refine mk81 rfl (.tmp 43) rfl _ _ rfl Hzc.out ?_; intro g4 w4 hg4 hg4' hO4 hb4
       have x4 := x3.trans (hb4.mono x3.size)
       have hO3' := hO3.below hb4 (Nat.le_refl _))
    | (at_builtin; refine app8 rfl (.tmp 40) (.tmp 44) rfl w1.heap.size _ _ rfl hO3' _ _ _ _ _ rfl hO4.rd rfl (by rw [List.length_append, ← Hl3.out]; simp; omega) x4.size ?_; intro v5 w5 hO5 hg5 hat5
       have x5 := x4.grown hg5 x4.size (fun x hx => (hO3'.lt x hx).1)
       have hu5 := (hu1.below x5 (Nat.le_refl _)).more x5.size
       have hr5 : RdB w5 w5.heap.size A ctx := by obtain ⟨_, _, e, _, _, r⟩ := hu5; injection e with e; rw [e]; exact r)
    | (at_builtin; refine app8 rfl (.tmp 45) (.tmp 46) rfl w1.heap.size _ _ rfl hO5 _ _ _ _ _ rfl hr5 rfl (by rw [List.length_append, List.length_append, ← Hl3.out]; simp; omega) x5.size ?_; intro v6 w6 hO6 hg6 hat6
       have x6 := x5.grown hg6 x5.size (fun x hx => (hO5.lt x hx).1)
       rw [Hfl.out] at hO6
       have hr6 := Blk.call hr1 x6)
    | (refine ldB rfl 25 (.tmp 4) rfl g1 rfl sec hr6 32 Try.underlying25 info25 Hs.out ?_)
    | (go_at_call 49; refine (refexpand_yes sec I _ n _ Hs.out hO6.sl (by rw [Hil.out]; omega) h1 h2).mono ?_; rintro e w7 ⟨v7, rfl, hS7, hb7⟩))
  go_ret
  rw [HO.out]
  exact ⟨_, rfl, hS7.wk (Nat.le_trans hb1.size x6.size), hb1.trans ((x6.trans (hb7.mono x6.size)).mono hb1.size)⟩

end Go.Proofs.Ytillnpllcfleeaa
