/- Layer 7, walks: the reference's side. -/
import Derived.Test.YtillnpllcfleeaaKdf4
namespace Go.Proofs.Ytillnpllcfleeaa
open Go Go.RowKit

theorem refsum_sl (v : Value) (bs : List UInt8) (w : World) (h : Sl w w.heap.size v bs) (hn : bs.length ≤ 1099511627776) :
    Calls Try.prog 34 #[v] w fun e w' => e = .returned (.agg (b8s (sha bs)).toArray) ∧ Below w.heap.size w w' := by
  obtain ⟨A, c, rfl, _, _, hr⟩ := h
  exact ref_sum A bs c w hr hn
theorem take_bAt (l : List UInt8) (k : Nat) (h : k < l.length) : l.take (k + 1) = l.take k ++ [bAt l k] := by
  rw [List.take_succ_eq_append_getElem h, bAt_elem l k h]
theorem padKey_lo (key : List UInt8) (k : Nat) (h : k < (cutKey key).length) : bAt (padKey key) k = bAt (cutKey key) k := by
  unfold padKey
  rw [bAt_append_left _ _ _ h]
theorem padKey_hi (key : List UInt8) (k : Nat) (h : (cutKey key).length ≤ k) : bAt (padKey key) k = 0 := by
  unfold padKey
  rw [bAt_append_right _ _ _ h]
  unfold bAt
  rw [List.getD_eq_getElem?_getD, List.getElem?_replicate]
  split <;> rfl

set_option maxRecDepth 100000 in
set_option maxHeartbeats 4000000 in
theorem padded_any (v : Value) (key : List UInt8) (x : UInt8) (w : World) (hv : Sl w w.heap.size v key) (hn : key.length ≤ 1099511627776) :
    Calls Try.prog 151 #[v, .int .u8 (u8v x)] w fun e w' => ∃ r, e = .returned r ∧ Own w' w.heap.size r (keyBlk x key) ∧ Below w.heap.size w w' := by
  have hv0 := hv
  obtain ⟨A, c, rfl, hc, hm, hr⟩ := hv
  unfold maxLen at hm
  obtain ⟨Z, hZ⟩ : ∃ Z, Z = (b8s (List.replicate 32 0)).toArray := ⟨_, rfl⟩
  have hz := zero25
  rw [← hZ] at hz
  have HZ := Lib.hid hZ; clear hZ
  have Hz := Lib.hid hz; clear hz
  have hsl : (sha key).length = 32 := sha_length' key
  have Hsl := Lib.hid hsl; clear hsl
  have hck : cutKey key = if 64 < key.length then sha key else key := rfl
  have Hck := Lib.hid hck; clear hck
  go_enter Try.func151, Try.ntmps151
  go_upto_if 16 with (first
    | (refine lit8 rfl 0 [] rfl [] [] rfl rfl rfl (by decide) ?_; intro g1 w1 hg1 hg1' hO1 hb1
       have hr1 := hr.below hb1 (Nat.le_refl _))
    | (at_builtin; refine app8 rfl (.tmp 11) (.tmp 12) rfl w.heap.size _ [] rfl hO1 _ A _ _ key rfl hr1 rfl (by simp; omega) hb1.size ?_; intro v2 w2 hO2 hg2 hat2
       have x2 := hb1.grown hg2 hb1.size (fun x hx => (hO1.lt x hx).1)
       rw [List.nil_append] at hO2
       obtain ⟨A2, c2, rfl, hc2, hm2, hr2⟩ := hO2.form))
  go_cut [5] (fun v5 wx => Own wx w.heap.size v5 (cutKey key) ∧ Below w.heap.size w wx)
  case first =>
    by_cases hk : 64 < key.length
    · go_wp2_with (first
        | (go_at_call 34; refine (refsum_sl _ key _ hO2.sl hn).mono ?_; rintro e w3 ⟨rfl, hb3⟩
           have x3 := x2.trans (hb3.mono x2.size))
        | (refine alloc_abs rfl 25 rfl Z Hz.out ?_; intro g4 w4 hg4 hg4' hr4 hb4
           rw [HZ.out] at hr4
           have x4 := x3.trans (hb4.mono x3.size))
        | (refine stB rfl 25 (.tmp 6) (.tmp 18) rfl g4 rfl (sha key) rfl _ hr4 32 info25 Hsl.out (by simp) ?_; intro w5 hr5 hg5
           have x5 := x4.grown hg5 x4.size (fun x hx => by cases hx; exact Nat.le_trans x3.size hg4)))
      have hg5' := hr5.lt
      go_loopw [5, 7] (fun v5 i wr => ∃ k : Nat, k ≤ 32 ∧ i = .int .i64 k ∧ Own wr w5.heap.size v5 ((sha key).take k) ∧ Below w5.heap.size w5 wr) (fun _ i _ => 32 - (intOf i).toNat)
      case atStart => exact ⟨0, by omega, rfl, Own.nil _ _, Below.refl _ _⟩
      case round =>
        obtain ⟨k, hk2, rfl, hO, hbel⟩ := hrel
        by_cases hlt : k < 32
        · have hts := take_bAt (sha key) k (by rw [Hsl.out]; exact hlt)
          have cR := BlB.at (Blk.call hr5 hbel) k (by rw [Hsl.out]; exact hlt)
          have hl : ((sha key).take k).length = k := by rw [List.length_take, Hsl.out]; omega
          obtain ⟨T, hT⟩ : ∃ T, T = (sha key).take k := ⟨_, rfl⟩
          rw [← hT] at hts hl hO
          have Hts := Lib.hid hts; clear hts
          have Hl := Lib.hid hl; clear hl
          have HT := Lib.hid hT; clear hT
          go_wp2_with (first
            | (refine mk81 rfl (.tmp 26) rfl _ _ rfl rfl ?_; intro g6 w6 hg6 hg6' hO6 hb6
               have hO' := hO.below hb6 (Nat.le_refl _)
               have x6 := hbel.trans (hb6.mono hbel.size))
            | (at_builtin; refine app8 rfl (.tmp 23) (.tmp 27) rfl w5.heap.size _ T rfl hO' _ _ _ _ _ rfl hO6.rd rfl (by rw [Hl.out]; simp; omega) x6.size ?_; intro v7 w7 hO7 hg7 hat7
               have x7 := x6.grown hg7 x6.size (fun x hx => (hO'.lt x hx).1)))
          go_roundw
          case rel => exact ⟨k + 1, by omega, by go_num, by rw [Hts.out]; exact hO7, x7⟩
          case measure => simp [intOf]; omega
        · have e : k = 32 := by omega
          subst e
          rw [List.take_of_length_le (by rw [Hsl.out]; omega)] at hO
          go_wp2_with fail
          go_meet
          case rel =>
            refine ⟨?_, x5.trans (hbel.mono x5.size)⟩
            rw [Hck.out, if_pos hk]
            exact hO.wk x5.size
    · go_wp2_with fail
      go_meet
      case rel =>
        refine ⟨?_, x2⟩
        rw [Hck.out, if_neg hk]
        exact hO2
  case rest =>
    clear hv0 hr hm hc hO1 hb1 hr1 x2 hO2 hg2 hat2 hc2 hm2 hr2 A2 c2
    obtain ⟨hO5, hbw⟩ := hcut
    have hkl := cutKey_length key
    obtain ⟨A5, c5, rfl, hc5, hm5, hr5⟩ := hO5.form
    unfold maxLen at hm5
    have hlo := padKey_lo key
    have hhi := padKey_hi key
    have hN := keyBlk_length x key
    have hg := padKey_get x key
    obtain ⟨K, hK⟩ : ∃ K, K = cutKey key := ⟨_, rfl⟩
    rw [← hK] at hc5 hO5 hr5 hkl hlo hhi ⊢
    obtain ⟨N, hNe⟩ : ∃ N, N = keyBlk x key := ⟨_, rfl⟩
    rw [← hNe] at hN hg
    have HK := Lib.hid hK; clear hK
    have Hlo := Lib.hid hlo; clear hlo
    have Hhi := Lib.hid hhi; clear hhi
    have HN := Lib.hid hN; clear hN
    have Hg := Lib.hid hg; clear hg
    have HNe := Lib.hid hNe; clear hNe
    go_wp2_with fail
    go_loopw [8, 9] (fun v8 i wr => ∃ k : Nat, k ≤ 64 ∧ i = .int .i64 k ∧ Own wr wc.heap.size v8 (N.take k) ∧ Below wc.heap.size wc wr) (fun _ i _ => 64 - (intOf i).toNat)
    case atStart => exact ⟨0, by omega, rfl, Own.nil _ _, Below.refl _ _⟩
    case round =>
      obtain ⟨k, hk2, rfl, hO, hbel⟩ := hrel
      by_cases hlt : k < 64
      · have hts := take_bAt N k (by rw [HN.out]; exact hlt)
        have hl : (N.take k).length = k := by rw [List.length_take, HN.out]; omega
        obtain ⟨T, hT⟩ : ∃ T, T = N.take k := ⟨_, rfl⟩
        rw [← hT] at hts hl hO
        have Hts := Lib.hid hts; clear hts
        have Hl := Lib.hid hl; clear hl
        have HT := Lib.hid hT; clear hT
        by_cases hkk : k < K.length
        · obtain ⟨gb, ob, rfl, hgb, cK⟩ := (hr5.below hbel (Nat.le_refl _)).at1 hkk
          rw [bAt_elem K k hkk] at cK
          have hy : u8v (bAt K k ^^^ x) = u8v (bAt N k) := by rw [Hg.out k hlt, Hlo.out k hkk]
          have Hy := Lib.hid hy; clear hy
          go_wp2_with (first
            | (refine mk81 rfl (.tmp 44) rfl _ _ rfl Hy.out ?_; intro g6 w6 hg6 hg6' hO6 hb6
               have hO' := hO.below hb6 (Nat.le_refl _)
               have x6 := hbel.trans (hb6.mono hbel.size))
            | (at_builtin; refine app8 rfl (.tmp 41) (.tmp 45) rfl wc.heap.size _ T rfl hO' _ _ _ _ _ rfl hO6.rd rfl (by rw [Hl.out]; simp; omega) x6.size ?_; intro v7 w7 hO7 hg7 hat7
               have x7 := x6.grown hg7 x6.size (fun x hx => (hO'.lt x hx).1)))
          go_roundw
          case rel => exact ⟨k + 1, by omega, by go_num, by rw [Hts.out]; exact hO7, x7⟩
          case measure => simp [intOf]; omega
        · have hy : u8v x = u8v (bAt N k) := by rw [Hg.out k hlt, Hhi.out k (by omega), UInt8.zero_xor]
          have Hy := Lib.hid hy; clear hy
          go_wp2_with (first
            | (refine mk81 rfl (.tmp 44) rfl _ _ rfl Hy.out ?_; intro g6 w6 hg6 hg6' hO6 hb6
               have hO' := hO.below hb6 (Nat.le_refl _)
               have x6 := hbel.trans (hb6.mono hbel.size))
            | (at_builtin; refine app8 rfl (.tmp 41) (.tmp 45) rfl wc.heap.size _ T rfl hO' _ _ _ _ _ rfl hO6.rd rfl (by rw [Hl.out]; simp; omega) x6.size ?_; intro v7 w7 hO7 hg7 hat7
               have x7 := x6.grown hg7 x6.size (fun x hx => (hO'.lt x hx).1)))
          go_roundw
          case rel => exact ⟨k + 1, by omega, by go_num, by rw [Hts.out]; exact hO7, x7⟩
          case measure => simp [intOf]; omega
      · have e : k = 64 := by omega
        subst e
        rw [List.take_of_length_le (by rw [HN.out]; omega)] at hO
        go_wp2
        go_ret
        refine ⟨_, rfl, ?_, hbw.trans (hbel.mono hbw.size)⟩
        rw [← HNe.out]
        exact hO.wk hbw.size

set_option maxRecDepth 100000 in
set_option maxHeartbeats 4000000 in
theorem refmac_any (v u : Value) (key text : List UInt8) (w : World) (hv : Sl w w.heap.size v key) (hu : Sl w w.heap.size u text) (hn : key.length ≤ 1099511627776) (hf : text.length ≤ 549755813888) :
    Calls Try.prog 45 #[v, u] w fun e w' => e = .returned (.agg (b8s (mac key text)).toArray) ∧ Below w.heap.size w w' := by
  obtain ⟨At, ct, rfl, hct, hmt, hrt⟩ := hu
  obtain ⟨Z, hZ⟩ : ∃ Z, Z = (b8s (List.replicate 32 0)).toArray := ⟨_, rfl⟩
  have hz := zero25
  rw [← hZ] at hz
  have HZ := Lib.hid hZ; clear hZ
  have Hz := Lib.hid hz; clear hz
  obtain ⟨B1, hB1⟩ : ∃ B, B = keyBlk 54 key := ⟨_, rfl⟩
  obtain ⟨B2, hB2⟩ : ∃ B, B = keyBlk 92 key := ⟨_, rfl⟩
  have hl1 : B1.length = 64 := by rw [hB1]; exact keyBlk_length _ _
  have hl2 : B2.length = 64 := by rw [hB2]; exact keyBlk_length _ _
  obtain ⟨I, hI⟩ : ∃ I, I = sha (B1 ++ text) := ⟨_, rfl⟩
  have hIl : I.length = 32 := by rw [hI]; exact sha_length' _
  obtain ⟨M, hM⟩ : ∃ M, M = mac key text := ⟨_, rfl⟩
  have hMe : sha (B2 ++ I) = M := by rw [hM, hI, hB1, hB2]; rfl
  have hMl : M.length = 32 := by rw [hM]; exact mac_length _ _
  have hs1 : (B1 ++ text).length ≤ 1099511627776 := by rw [List.length_append]; omega
  have hs2 : (B2 ++ I).length ≤ 1099511627776 := by rw [List.length_append]; omega
  have hbk1 : ∀ W, Sl W W.heap.size v key → Calls Try.prog 151 #[v, .int .u8 54] W fun e w' => ∃ r, e = .returned r ∧ Own w' W.heap.size r B1 ∧ Below W.heap.size W w' := fun W h => by
    rw [hB1]; exact padded_any v key 54 W h hn
  have hbk2 : ∀ W, Sl W W.heap.size v key → Calls Try.prog 151 #[v, .int .u8 92] W fun e w' => ∃ r, e = .returned r ∧ Own w' W.heap.size r B2 ∧ Below W.heap.size W w' := fun W h => by
    rw [hB2]; exact padded_any v key 92 W h hn
  have Hbk1 := Lib.hid hbk1; clear hbk1
  have Hbk2 := Lib.hid hbk2; clear hbk2
  clear hB1 hB2
  have Hl1 := Lib.hid hl1; clear hl1
  have Hl2 := Lib.hid hl2; clear hl2
  have HI := Lib.hid hI; clear hI
  have HIl := Lib.hid hIl; clear hIl
  have HM := Lib.hid hM; clear hM
  have HMe := Lib.hid hMe; clear hMe
  have HMl := Lib.hid hMl; clear hMl
  unfold maxLen at hmt
  go_enter Try.func45, Try.ntmps45
  go_wp2_with (first
    | (refine alloc_abs rfl 25 rfl Z Hz.out ?_; intro g1 w1 hg1 hg1' hr1 hb1
       rw [HZ.out] at hr1
       have hv1 : Sl w1 w1.heap.size v key := (hv.below hb1 (Nat.le_refl _)).more hb1.size)
    | (go_at_call 151; have _t := hr1; refine (Hbk1.out _ hv1).mono ?_; rintro e w2 ⟨r2, rfl, hO2, hb2⟩
       clear hv1
       have x2 := hb2
       have hrt2 := hrt.below (hb1.trans (hb2.mono hb1.size)) (Nat.le_refl _))
    | (at_builtin; refine app8 rfl (.tmp 9) (.tmp 10) rfl w1.heap.size _ B1 rfl hO2 _ At _ _ text rfl hrt2 rfl (by rw [Hl1.out]; omega) x2.size ?_; intro v3 w3 hO3 hg3 hat3
       have x3 := x2.grown hg3 x2.size (fun x hx => (hO2.lt x hx).1))
    | (go_at_call 34; refine (refsum_sl _ (B1 ++ text) _ hO3.sl hs1).mono ?_; rintro e w4 ⟨rfl, hb4⟩
       rw [← HI.out]
       have x4 := x3.trans (hb4.mono x3.size))
    | (refine alloc_abs rfl 25 rfl Z Hz.out ?_; intro g5 w5 hg5 hg5' hr5 hb5
       rw [HZ.out] at hr5
       have x5 := x4.trans (hb5.mono x4.size))
    | (refine stB rfl 25 (.tmp 5) (.tmp 12) rfl g5 rfl I rfl _ hr5 32 info25 HIl.out (by simp) ?_; intro w6 hr6 hg6
       have x6 := x5.grown hg6 x5.size (fun x hx => by cases hx; exact Nat.le_trans x4.size hg5)
       have hv6 : Sl w6 w6.heap.size v key := (hv.below (hb1.trans (x6.mono hb1.size)) (Nat.le_refl _)).more (Nat.le_trans hb1.size x6.size))
    | (go_at_call 151; refine (Hbk2.out _ hv6).mono ?_; rintro e w7 ⟨r7, rfl, hO7, hb7⟩
       have x7 := x6.trans (hb7.mono x6.size)
       have hr7 := Blk.call hr6 hb7
       have hg7 : g5 < w6.heap.size := hr6.lt
       have hR7 := Blk.call hr1 x7))
  clear hv6 hr6 hO2 hO3 hr5 hg3 hg6 hb4 hb5 hb2 x2 x3 x4 x5 hrt2 hr1
  have hbw7 := hb1.trans (x7.mono hb1.size)
  go_loopw [6, 7] (fun v6 i wr => ∃ k : Nat, k ≤ 32 ∧ i = .int .i64 k ∧ Own wr w6.heap.size v6 (B2 ++ I.take k) ∧ Below w6.heap.size w7 wr) (fun _ i _ => 32 - (intOf i).toNat)
  case atStart => exact ⟨0, by omega, rfl, by rw [List.take_zero, List.append_nil]; exact hO7, Below.refl _ _⟩
  case round =>
    obtain ⟨k, hk2, rfl, hO, hbel⟩ := hrel
    have hsz7 : w6.heap.size ≤ wr.heap.size := Nat.le_trans hb7.size hbel.size
    by_cases hlt : k < 32
    · have hts := take_bAt I k (by rw [HIl.out]; exact hlt)
      have cR := BlB.at (Blk.below hr7 hbel hg7) k (by rw [HIl.out]; exact hlt)
      have hl : (B2 ++ I.take k).length = 64 + k := by rw [List.length_append, List.length_take, HIl.out, Hl2.out]; omega
      have hts2 : B2 ++ I.take (k + 1) = B2 ++ I.take k ++ [bAt I k] := by rw [hts, List.append_assoc]
      clear hts
      obtain ⟨T, hT⟩ : ∃ T, T = B2 ++ I.take k := ⟨_, rfl⟩
      rw [← hT] at hts2 hl hO
      have Hts := Lib.hid hts2; clear hts2
      have Hl := Lib.hid hl; clear hl
      have HT := Lib.hid hT; clear hT
      go_wp2_with (first
        | (refine mk81 rfl (.tmp 22) rfl _ _ rfl rfl ?_; intro g8 w8 hg8 hg8' hO8 hb8
           have hO' := hO.below hb8 (Nat.le_refl _)
           have x8 := hbel.trans (hb8.mono hsz7))
        | (at_builtin; refine app8 rfl (.tmp 19) (.tmp 23) rfl w6.heap.size _ T rfl hO' _ _ _ _ _ rfl hO8.rd rfl (by rw [Hl.out]; simp; omega) (Nat.le_trans hsz7 hb8.size) ?_; intro v9 w9 hO9 hg9 hat9
           have x9 := x8.grown hg9 (Nat.le_trans hsz7 hb8.size) (fun x hx => (hO'.lt x hx).1)))
      go_roundw
      case rel => exact ⟨k + 1, by omega, by go_num, by rw [Hts.out]; exact hO9, x9⟩
      case measure => simp [intOf]; omega
    · have e : k = 32 := by omega
      subst e
      rw [List.take_of_length_le (by rw [HIl.out]; omega)] at hO
      have hgw : g1 < w6.heap.size := Nat.lt_of_lt_of_le hg1' x6.size
      have hRr := Blk.below hR7 hbel hgw
      have hbr := hbw7.trans (hbel.mono (Nat.le_trans hb1.size x6.size))
      go_wp2_with (first
        | (go_at_call 34; refine (refsum_sl _ (B2 ++ I) _ hO.sl hs2).mono ?_; rintro e w10 ⟨rfl, hb10⟩
           rw [HMe.out]
           have hR10 := Blk.call hRr hb10)
        | (refine stB rfl 25 (.tmp 4) (.tmp 26) rfl g1 rfl M rfl _ hR10 32 info25 HMl.out (by simp) ?_; intro w11 hr11 hg11))
      refine bodyPost_ret (retB rfl g1 rfl M hr11 32 Try.underlying25 info25 HMl.out) rfl ⟨by rw [HM.out], ?_⟩
      exact (hbr.trans (hb10.mono hbr.size)).grown hg11 (Nat.le_trans hbr.size hb10.size) (fun x hx => by cases hx; exact hg1)
end Go.Proofs.Ytillnpllcfleeaa
