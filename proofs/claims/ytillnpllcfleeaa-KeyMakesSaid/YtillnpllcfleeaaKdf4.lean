/- Layer 7, walks: what is expanded of a label; texts of the law. -/
import Derived.Test.YtillnpllcfleeaaKdf3
import Derived.Test.YtillnpllcfleeaaLits
namespace Go.Proofs.Ytillnpllcfleeaa
open Go Go.RowKit

set_option maxRecDepth 100000 in
set_option maxHeartbeats 4000000 in
theorem label_no (sec lab : List UInt8) (A : Option Addr) (m c : Nat) (n : Int) (w : World) (h : n < 1 ∨ 8160 < n ∨ 249 < lab.length ∨ 255 < m) :
    Calls Try.prog 50 #[.agg (b8s sec).toArray, .string (strOf lab), .slice A m c, .int .i64 n] w fun e w' => e = .returned (.slice none 0 0) ∧ Below w.heap.size w w' := by
  have hz := strOf_len lab
  obtain ⟨S, hS⟩ : ∃ S, S = strOf lab := ⟨_, rfl⟩
  rw [← hS] at hz ⊢
  have h3 : n < 1 ∨ 8160 < n ∨ 249 < S.size ∨ 255 < m := by rw [hz]; exact h
  clear h hz hS
  by_cases c1 : n < 1
  · go_enter Try.func50, Try.ntmps50
    go_wp2_with (refine box_abs rfl 25 (.tmp 0) rfl (b8s sec).toArray rfl ?_; intro g3 w1 hg3 hg3' hr3 hb1)
    go_ret
    exact ⟨rfl, hb1⟩
  · by_cases c2 : 8160 < n
    · clear h3
      go_enter Try.func50, Try.ntmps50
      go_wp2_with (refine box_abs rfl 25 (.tmp 0) rfl (b8s sec).toArray rfl ?_; intro g3 w1 hg3 hg3' hr3 hb1)
      go_ret
      exact ⟨rfl, hb1⟩
    · by_cases c3 : 249 < S.size
      · clear h3
        go_enter Try.func50, Try.ntmps50
        go_wp2_with (refine box_abs rfl 25 (.tmp 0) rfl (b8s sec).toArray rfl ?_; intro g3 w1 hg3 hg3' hr3 hb1)
        go_ret
        exact ⟨rfl, hb1⟩
      · have c4 : 255 < m := by omega
        clear h3
        go_enter Try.func50, Try.ntmps50
        go_wp2_with (refine box_abs rfl 25 (.tmp 0) rfl (b8s sec).toArray rfl ?_; intro g3 w1 hg3 hg3' hr3 hb1)
        go_ret
        exact ⟨rfl, hb1⟩

theorem info_flat (lab ctx : List UInt8) (n : Nat) : (([UInt8.ofNat (n / 256), UInt8.ofNat n, UInt8.ofNat (6 + lab.length)] ++ ([116, 108, 115, 49, 51, 32] ++ lab)) ++ [UInt8.ofNat ctx.length]) ++ ctx = infoOf lab ctx n := by
  simp [infoOf]
theorem infoOf_length (lab ctx : List UInt8) (n : Nat) : (infoOf lab ctx n).length = 10 + lab.length + ctx.length := by
  simp [infoOf]; omega

set_option maxRecDepth 100000 in
set_option maxHeartbeats 4000000 in
theorem label_yes (sec lab ctx : List UInt8) (u : Value) (n : Nat) (w : World) (hs : sec.length = 32) (hl : lab.length ≤ 249) (hu : Sl w w.heap.size u ctx) (hc : ctx.length ≤ 255) (h1 : 1 ≤ n) (h2 : n ≤ 8160) :
    Calls Try.prog 50 #[.agg (b8s sec).toArray, .string (strOf lab), u, .int .i64 (n : Int)] w fun e w' => ∃ v, e = .returned v ∧ Own w' w.heap.size v (labelOut sec lab ctx n) ∧ Below w.heap.size w w' := by
  have hu0 := hu
  obtain ⟨A, c, rfl, hca, hcm, hr⟩ := hu
  have hz := strOf_len lab
  have hx0 : ∀ S, S = strOf lab → Value.string (⟨#[116, 108, 115, 49, 51, 32]⟩ ++ S) = .string (strOf ([116, 108, 115, 49, 51, 32] ++ lab)) := by
    rintro S rfl
    rw [← strOf_cat]; rfl
  obtain ⟨S, hS⟩ : ∃ S, S = strOf lab := ⟨_, rfl⟩
  have hx := hx0 S hS
  clear hx0
  rw [← hS] at hz ⊢
  have hz2 : S.size ≤ 249 := by omega
  have hzs : ([(n : Int) / 256, (n : Int) % 256, 6 + (S.size : Int)] : List Int) = [UInt8.ofNat (n / 256), UInt8.ofNat n, UInt8.ofNat (6 + lab.length)].map u8v := by
    have e1 := conv_nat_8 (n / 256)
    have e2 := conv_nat_8 n
    have e3 := conv_nat_8 (6 + lab.length)
    rw [IntKind.wrap_u8'] at e1 e2 e3
    rw [hz]
    simp only [List.map_cons, List.map_nil, ← e1, ← e2, ← e3]
    rw [Int.emod_eq_of_lt (a := ((n / 256 : Nat) : Int)) (by omega) (by omega), Int.emod_eq_of_lt (a := ((6 + lab.length : Nat) : Int)) (by omega) (by omega)]
    simp
  have hzc : (ctx.length : Int) = u8v (UInt8.ofNat ctx.length) := by
    have e := conv_nat_8 ctx.length
    rwa [IntKind.wrap_u8', Int.emod_eq_of_lt (by omega) (by omega)] at e
  have hfl := info_flat lab ctx n
  have hil := infoOf_length lab ctx n
  have hO : labelOut sec lab ctx n = expand sec (infoOf lab ctx n) n := rfl
  obtain ⟨I, hI⟩ : ∃ I, I = infoOf lab ctx n := ⟨_, rfl⟩
  rw [← hI] at hfl hil hO
  obtain ⟨L6, hL6⟩ : ∃ L, L = [116, 108, 115, 49, 51, 32] ++ lab := ⟨_, rfl⟩
  obtain ⟨L3, hL3⟩ : ∃ L, L = [UInt8.ofNat (n / 256), UInt8.ofNat n, UInt8.ofNat (6 + lab.length)] := ⟨_, rfl⟩
  rw [← hL6] at hx hfl
  rw [← hL3] at hzs hfl
  have l6 : L6.length ≤ 300 := by rw [hL6]; simp; omega
  have l3 : 3 = L3.length := by rw [hL3]; rfl
  have Hx := Lib.hid hx; clear hx
  have Hz := Lib.hid hz; clear hz
  have Hzs := Lib.hid hzs; clear hzs
  have Hzc := Lib.hid hzc; clear hzc
  have Hfl := Lib.hid hfl; clear hfl
  have Hil := Lib.hid hil; clear hil
  have HO := Lib.hid hO; clear hO
  have HI := Lib.hid hI; clear hI
  have H6 := Lib.hid hL6; clear hL6
  have H3 := Lib.hid hL3; clear hL3
  have HS := Lib.hid hS; clear hS
  have Hl3 := Lib.hid l3; clear l3
  have Hs := Lib.hid hs; clear hs
  go_enter Try.func50, Try.ntmps50
  go_wp2_with (first
    | (refine box_abs rfl 25 (.tmp 0) rfl (b8s sec).toArray rfl ?_; intro g1 w1 hg1 hg1' hr1 hb1
       have hu1 := (hu0.below hb1 (Nat.le_refl _)).more hb1.size)
    | (refine lit8 rfl 3 [(0, .tmp 28), (1, .tmp 30), (2, .tmp 34)] rfl [(n : Int) / 256, (n : Int) % 256, 6 + (S.size : Int)] L3 rfl Hzs.out Hl3.out (by decide) ?_; intro g2 w2 hg2 hg2' hO2 hb2
       have x2 : Below w1.heap.size w1 w2 := hb2)
    | (at_builtin; refine app8s rfl (.tmp 35) (.tmp 37) rfl w1.heap.size _ L3 rfl hO2 L6 Hx.out (by rw [← Hl3.out]; omega) x2.size ?_; intro v3 w3 hO3 hg3
       have x3 := x2.grown hg3 x2.size (fun x hx => (hO2.lt x hx).1))
    | (refine mk81 rfl (.tmp 42) rfl _ _ rfl Hzc.out ?_; intro g4 w4 hg4 hg4' hO4 hb4
       have x4 := x3.trans (hb4.mono x3.size)
       have hO3' := hO3.below hb4 (Nat.le_refl _))
    | (at_builtin; refine app8 rfl (.tmp 39) (.tmp 43) rfl w1.heap.size _ _ rfl hO3' _ _ _ _ _ rfl hO4.rd rfl (by rw [List.length_append, ← Hl3.out]; simp; omega) x4.size ?_; intro v5 w5 hO5 hg5 hat5
       have x5 := x4.grown hg5 x4.size (fun x hx => (hO3'.lt x hx).1)
       have hu5 := (hu1.below x5 (Nat.le_refl _)).more x5.size
       have hr5 : RdB w5 w5.heap.size A ctx := by obtain ⟨_, _, e, _, _, r⟩ := hu5; injection e with e; rw [e]; exact r)
    | (at_builtin; refine app8 rfl (.tmp 44) (.tmp 45) rfl w1.heap.size _ _ rfl hO5 _ _ _ _ _ rfl hr5 rfl (by rw [List.length_append, List.length_append, ← Hl3.out]; simp; omega) x5.size ?_; intro v6 w6 hO6 hg6 hat6
       have x6 := x5.grown hg6 x5.size (fun x hx => (hO5.lt x hx).1)
       rw [Hfl.out] at hO6
       have hr6 := Blk.call hr1 x6)
    | (refine ldB rfl 25 (.tmp 4) rfl g1 rfl sec hr6 32 Try.underlying25 info25 Hs.out ?_)
    | (go_at_call 48; refine (expand_yes sec I _ n _ Hs.out hO6.sl (by rw [Hil.out]; omega) h1 h2).mono ?_; rintro e w7 ⟨v7, rfl, hS7, hb7⟩))
  go_ret
  rw [HO.out]
  exact ⟨_, rfl, hS7.wk (Nat.le_trans hb1.size x6.size), hb1.trans ((x6.trans (hb7.mono x6.size)).mono hb1.size)⟩

set_option maxRecDepth 100000 in
set_option maxHeartbeats 2000000 in
theorem same_any (b : UInt8) (n : Nat) (w : World) (hn : n ≤ 1000000) :
    Calls Try.prog 149 #[.int .u8 (u8v b), .int .i64 (n : Int)] w fun e w' => ∃ v, e = .returned v ∧ Own w' w.heap.size v (List.replicate n b) ∧ Below w.heap.size w w' := by
  obtain ⟨P, hP⟩ : ∃ P, P = List.replicate n (0 : UInt8) := ⟨_, rfl⟩
  obtain ⟨N, hN⟩ : ∃ N, N = List.replicate n b := ⟨_, rfl⟩
  have lP : P.length = n := by rw [hP]; simp
  have lN : N.length = n := by rw [hN]; simp
  have gN : ∀ i, i < n → bAt N i = b := by
    intro i hi
    rw [hN]
    unfold bAt
    rw [List.getD_eq_getElem?_getD, List.getElem?_replicate, if_pos hi]; rfl
  have HN := Lib.hid hN; clear hN
  have HP := Lib.hid hP; clear hP
  have LN := Lib.hid lN; clear lN
  have LP := Lib.hid lP; clear lP
  have GN := Lib.hid gN; clear gN
  go_enter Try.func149, Try.ntmps149
  go_wp2_with (refine make8 rfl _ _ rfl .i64 .i64 (n : Int) (n : Int) n rfl rfl rfl rfl (by omega) ?_; intro w1 hb1 hbb1 hz1
               rw [← HP.out] at hb1)
  go_loopw [11] (fun i wr => ∃ k : Nat, k ≤ n ∧ i = .int .i64 k ∧ BlB wr w.heap.size 5 (mixTo k N P) ∧ Below w.heap.size w wr) (fun i _ => n - (intOf i).toNat)
  case atStart => exact ⟨0, by omega, rfl, by rw [mixTo_zero]; exact hb1, hbb1⟩
  case round =>
    obtain ⟨k, hk, rfl, hB, hbel⟩ := hrel
    by_cases hlt : k < n
    · have c1 := hB.at k (by rw [mixTo_length _ _ _ (by rw [LN.out, LP.out]), LP.out]; exact hlt)
      have f1 := Blk.frozen hB k
      have hset := hB.set k (bAt N k)
      rw [mixTo_set k N P _ (by rw [LN.out, LP.out]) (by rw [LN.out]; exact hlt) (bAt_get _ _ (by rw [LN.out]; exact hlt)), GN.out k hlt] at hset
      have Hset := Lib.hid hset; clear hset
      go_wp2
      go_roundw
      case rel => exact ⟨k + 1, by omega, by go_num, Hset.out, hbel.setCell (p := ⟨w.heap.size, k, none⟩) (Nat.le_refl _) _⟩
      case measure => simp [intOf]; omega
    · have e64 : k = n := by omega
      subst e64
      rw [mixTo_all k N P LN.out LP.out] at hB
      go_wp2
      go_ret
      refine ⟨_, rfl, ?_, hbel⟩
      rw [← HN.out]
      exact Own.blb hB (Nat.le_refl _) (by rw [LN.out]; unfold maxLen; omega) k LN.out.symm

theorem ofNat_add' (a : UInt8) (k : Nat) : (u8v a + (k : Int) % 256) % 256 = u8v (a + UInt8.ofNat k) := by
  have e := conv_nat_8 k
  rw [IntKind.wrap_u8'] at e
  rw [e, mod_add_u8]
/-- bytes from one on -/
def riseL (a : UInt8) (n : Nat) : List UInt8 := (List.range n).map fun i => a + UInt8.ofNat i
theorem riseL_succ (a : UInt8) (n : Nat) : riseL a (n + 1) = riseL a n ++ [a + UInt8.ofNat n] := by
  unfold riseL
  rw [List.range_succ, List.map_append]; rfl
set_option maxRecDepth 100000 in
set_option maxHeartbeats 2000000 in
theorem rise_any (b : UInt8) (n : Nat) (w : World) (hn : n ≤ 1000000) :
    Calls Try.prog 150 #[.int .u8 (u8v b), .int .i64 (n : Int)] w fun e w' => ∃ v, e = .returned v ∧ Own w' w.heap.size v (riseL b n) ∧ Below w.heap.size w w' := by
  go_enter Try.func150, Try.ntmps150
  go_wp2
  go_loopw [5, 8] (fun v5 i wr => ∃ k : Nat, k ≤ n ∧ i = .int .i64 k ∧ Own wr w.heap.size v5 (riseL b k) ∧ Below w.heap.size w wr) (fun _ i _ => n - (intOf i).toNat)
  case atStart => exact ⟨0, by omega, rfl, Own.nil _ _, Below.refl _ _⟩
  case round =>
    obtain ⟨k, hk, rfl, hO, hbel⟩ := hrel
    by_cases hlt : k < n
    · have hs := riseL_succ b k
      have hl : (riseL b k).length = k := by simp [riseL]
      obtain ⟨R, hR⟩ : ∃ R, R = riseL b k := ⟨_, rfl⟩
      rw [← hR] at hs hl hO
      have he := ofNat_add' b k
      have Hs := Lib.hid hs; clear hs
      have Hl := Lib.hid hl; clear hl
      have HR := Lib.hid hR; clear hR
      have He := Lib.hid he; clear he
      go_wp2_with (first
        | (refine mk81 rfl (.tmp 15) rfl _ _ rfl He.out ?_; intro g1 w1 hg1 hg1' hO1 hb1
           have hO' := hO.below hb1 (Nat.le_refl _)
           have x1 := hbel.trans (hb1.mono hbel.size))
        | (at_builtin; refine app8 rfl (.tmp 11) (.tmp 16) rfl w.heap.size _ R rfl hO' _ _ _ _ _ rfl hO1.rd rfl (by rw [Hl.out]; simp; omega) x1.size ?_; intro v2 w2 hO2 hg2 hat2
           have x2 := x1.grown hg2 x1.size (fun x hx => (hO'.lt x hx).1)))
      go_roundw
      case rel => exact ⟨k + 1, by omega, by go_num, by rw [Hs.out]; exact hO2, x2⟩
      case measure => simp [intOf]; omega
    · have e64 : k = n := by omega
      subst e64
      go_wp2
      go_ret
      exact ⟨_, rfl, hO, hbel⟩
end Go.Proofs.Ytillnpllcfleeaa
