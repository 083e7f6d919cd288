/- The reference's side of layer 6: a block's words. -/
import Derived.Test.YtillnpllcfleeaaRef06e
import Derived.Test.YtillnpllcfleeaaRef06b
import Derived.Test.YtillnpllcfleeaaOrd
import Derived.Test.YtillnpllcfleeaaApp2
namespace Go.Proofs.Ytillnpllcfleeaa
open Go Go.RowKit

theorem word4_sum (a b c d : UInt8) : ((a.toUInt32 * 256 + b.toUInt32) * 256 + c.toUInt32) * 256 + d.toUInt32 = word4 a b c d := by
  apply UInt32.toNat_inj.1
  have ha := a.toNat_lt
  have hb := b.toNat_lt
  have hc := c.toNat_lt
  have hd := d.toNat_lt
  unfold word4
  simp only [UInt32.toNat_or, UInt32.toNat_mul, UInt32.toNat_add, UInt8.toNat_toUInt32]
  show (((a.toNat * 256 % 4294967296 + b.toNat) % 4294967296 * 256 % 4294967296 + c.toNat) % 4294967296 * 256 % 4294967296 + d.toNat) % 4294967296 = a.toNat * 16777216 % 4294967296 ||| b.toNat * 65536 % 4294967296 ||| c.toNat * 256 % 4294967296 ||| d.toNat
  rw [Nat.mod_eq_of_lt (show a.toNat * 16777216 < 4294967296 by omega), Nat.mod_eq_of_lt (show b.toNat * 65536 < 4294967296 by omega), Nat.mod_eq_of_lt (show c.toNat * 256 < 4294967296 by omega)]
  rw [nat_join 24 (a.toNat * 16777216) (b.toNat * 65536) (by omega) (by omega), nat_join 16 (a.toNat * 16777216 + b.toNat * 65536) (c.toNat * 256) (by omega) (by omega), nat_join 8 (a.toNat * 16777216 + b.toNat * 65536 + c.toNat * 256) d.toNat (by omega) (by omega)]
  omega

theorem turnI (x : UInt32) (n : Int) (w : World) (hn : 0 ≤ n ∧ n ≤ 32) : Calls Try.prog 141 #[.int .u32 (u32v x), .int .i64 n] w fun e w' => e = .returned (.int .u32 (u32v (rotr x n.toNat))) ∧ w' = w := by
  obtain ⟨k, rfl⟩ := Int.eq_ofNat_of_zero_le hn.1
  exact ref_turn x k w (by omega)
theorem shiftI (x : UInt32) (n : Int) (w : World) (hn : 0 ≤ n ∧ n ≤ 32) : Calls Try.prog 142 #[.int .u32 (u32v x), .int .i64 n] w fun e w' => e = .returned (.int .u32 (u32v (shr x n.toNat))) ∧ w' = w := by
  obtain ⟨k, rfl⟩ := Int.eq_ofNat_of_zero_le hn.1
  exact ref_shift x k w (by omega)
theorem shr3 (x : UInt32) : shr x 3 = x / 8 := UInt32.toNat_inj.1 (by rw [shr_toNat, UInt32.toNat_div]; rfl)
theorem shr10 (x : UInt32) : shr x 10 = x / 1024 := UInt32.toNat_inj.1 (by rw [shr_toNat, UInt32.toNat_div]; rfl)

set_option maxRecDepth 100000 in
set_option maxHeartbeats 1000000 in
theorem ref_words (A : Option Addr) (bs : List UInt8) (c : Nat) (w : World) (hb : RdB w w.heap.size A bs) (hl : bs.length = 64) :
    Calls Try.prog 140 #[.slice A 64 c] w fun e w' => ∃ v, e = .returned v ∧ OwnW w' w.heap.size v (sched bs 48) ∧ Below w.heap.size w w' := by
  obtain ⟨ab, aoff, rfl, hab, hcell⟩ := hb.all (by omega)
  have Hl := Lib.hid hl; clear hl
  have Hc := Lib.hid hcell; clear hcell
  go_enter Try.func140, Try.ntmps140
  go_wp2
  go_loopw [3, 4] (fun v3 i wr => ∃ t : Nat, t ≤ 16 ∧ i = .int .i64 t ∧ OwnW wr w.heap.size v3 (lead bs t) ∧ Below w.heap.size w wr) (fun _ i _ => 16 - (intOf i).toNat)
  case atStart => exact ⟨0, by omega, rfl, OwnW.nil _ _, Below.refl _ _⟩
  case round =>
    obtain ⟨t, ht, rfl, hO, hbel⟩ := hrel
    have hll := lead_length bs t
    obtain ⟨Ao, co, rfl, hco, hmo, hrdo⟩ := hO.form
    rw [hll] at hO hco ⊢
    have Hll := Lib.hid hll; clear hll
    by_cases hlt : t < 16
    · have cc : ∀ j, j < 64 → ∀ W, Below w.heap.size w W → W.cell? ⟨ab, aoff + j, none⟩ = some (.int .u8 (u8v (byteAt bs j))) := by
        intro j hj W hW
        have hj' : j < bs.length := by rw [Hl.out]; exact hj
        rw [hW.cell (p := ⟨ab, aoff + j, none⟩) hab, Hc.out j hj']
        unfold byteAt
        rw [List.getD_eq_getElem?_getD, List.getElem?_eq_getElem hj']; rfl
      obtain ⟨q, hq⟩ : ∃ q, q = 4 * t := ⟨_, rfl⟩
      have c0 := cc q (by omega)
      have c1 := cc (q + 1) (by omega)
      have c2 := cc (q + 2) (by omega)
      have c3 := cc (q + 3) (by omega)
      have Cc := Lib.hid cc; clear cc
      have j0 : (0 : Int) ≤ (q : Int) ∧ (q : Int) < 64 := by omega
      have j1 : (0 : Int) ≤ (q : Int) + 1 ∧ (q : Int) + 1 < 64 := by omega
      have j2 : (0 : Int) ≤ (q : Int) + 2 ∧ (q : Int) + 2 < 64 := by omega
      have j3 : (0 : Int) ≤ (q : Int) + 3 ∧ (q : Int) + 3 < 64 := by omega
      have i0 : IntKind.i64.wrap (4 * (t : Int)) = ((q : Nat) : Int) := by rw [IntWalk.i64_in _ (by omega)]; omega
      have i1 : IntKind.i64.wrap ((q : Int) + 1) = (q : Int) + 1 := by rw [IntWalk.i64_in _ (by omega)]
      have n1 : ((q : Int) + 1).toNat = q + 1 := by omega
      have i2 : IntKind.i64.wrap ((q : Int) + 2) = (q : Int) + 2 := by rw [IntWalk.i64_in _ (by omega)]
      have n2 : ((q : Int) + 2).toNat = q + 2 := by omega
      have i3 : IntKind.i64.wrap ((q : Int) + 3) = (q : Int) + 3 := by rw [IntWalk.i64_in _ (by omega)]
      have n3 : ((q : Int) + 3).toNat = q + 3 := by omega
      have Hq := Lib.hid hq; clear hq
      have hy := congrArg u32v (word4_sum (byteAt bs q) (byteAt bs (q + 1)) (byteAt bs (q + 2)) (byteAt bs (q + 3)))
      have Hy := Lib.hid hy; clear hy
      generalize hL : lead bs t = L at *
      have HL := Lib.hid hL; clear hL
      go_wp2
      refine wp_region_ord (Below w.heap.size w) (.q 0 <| .q 1 <| .q 2 <| .q 3 <| .q 4 <| .q 5 <| .q 6 <| .q 7 <| .q 8 <| .q 9 <| .q 10 <| .q 11 <| .q 12 <| .q 13 <| .q 14 <| .q 15 <| .q 16 <| .q 17 <| .q 18 <| .q 19 <| .q 20 <| .q 21 <| .q 22 <| .q 23 <| .q 24 <| .q 25 <| .q 26 <| .q 27 <| .q 28 <| .q 29 <| .q 30 <| .q 31 <| .q 32 <| .q 33 <| .m 34 <| .m 35 <| .q 36 <| .done) (by kernel_rfl) (by kernel_rfl) (by kernel_rfl) hbel.drew ?_
      simp only [tr, List.getElem?_cons_succ, List.getElem?_cons_zero]
      iterate 34 (first
        | (refine wpTr_skip (by rfl) ?_; simp only [Act.put, List.setIfInBounds_toArray, List.set_cons_zero, List.set_cons_succ])
        | (refine wpTr_q (v := ?_) (by rfl) (fun W hW => ?_) ?_
           rotate_left
           · first | (go_simp; done) | (go_simp; with_reducible rfl)
           simp only [Act.put, List.setIfInBounds_toArray, List.set_cons_zero, List.set_cons_succ]))
      refine wpTr_m (fun K hK => ?_)
      go_wp2
      refine hK _ _ (hbel.drew.alloc hbel.size _) ?_
      clear hK K
      refine wpTr_m (fun K hK => ?_)
      refine appW1 (by rfl) (.tmp 12) (.tmp 46) (by rfl) w.heap.size _ L (by rfl) hO.drew _ _ Hy.out (by rfl) (by rw [Hll.out]; omega) hbel.size ?_
      intro v1 w1 hown1 hg1 hat1
      obtain ⟨A3, c3', rfl, hc3, hm3, hrd3⟩ := hown1.form
      have hb1 : Below w.heap.size w w1 := (hbel.drew).grown hg1 hbel.size (fun x hx => (hO.lt x hx).1)
      have hl1 : (L ++ [word4 (byteAt bs q) (byteAt bs (q + 1)) (byteAt bs (q + 2)) (byteAt bs (q + 3))]).length = t + 1 := by rw [List.length_append, Hll.out]; rfl
      rw [hl1] at hown1 ⊢
      clear hl1
      go_wp2
      refine hK _ _ hb1 ?_
      clear hK K
      refine wpTr_q (by rfl) (fun W hW => by go_simp; with_reducible rfl) ?_
      refine wpTr_done ?_
      go_wp2
      go_roundw
      case rel =>
        refine ⟨t + 1, by omega, by go_num, ?_, hb1⟩
        have e : lead bs (t + 1) = L ++ [word4 (byteAt bs q) (byteAt bs (q + 1)) (byteAt bs (q + 2)) (byteAt bs (q + 3))] := by rw [lead, HL.out, Hq.out]
        rw [e]
        exact hown1
      case measure => simp [intOf]; omega
    · have e16 : t = 16 := by omega
      subst e16
      clear ht hlt
      obtain ⟨w1, rfl⟩ : ∃ w1 : World, w1 = wr := ⟨_, rfl⟩
      have hO' : OwnW w1 w.heap.size (.slice Ao 16 co) (sched bs 0) := hO
      clear hO Hll hrdo hmo hco
      go_wp2
      simp only [Int.cast_ofNat_Int]
      go_loopw [3, 5] (fun v3 i wr => ∃ n : Nat, 16 ≤ n ∧ n ≤ 64 ∧ i = .int .i64 n ∧ OwnW wr w.heap.size v3 (sched bs (n - 16)) ∧ Below w.heap.size w wr) (fun _ i _ => 64 - (intOf i).toNat)
      case atStart => exact ⟨16, by omega, by omega, rfl, hO', hbel⟩
      case round =>
        clear hbel hO'
        obtain ⟨n, hn, hn2, rfl, hO, hbel⟩ := hrel
        have hln : (sched bs (n - 16)).length = n := by rw [sched_length]; omega
        by_cases hlt : n < 64
        · obtain ⟨g, co, rfl, hg, hgl, hco, hmo⟩ := hO.loc (by omega)
          rw [hln] at hO ⊢
          have cc : ∀ j, j < n → ∀ W, OwnW W w.heap.size (.slice (some ⟨g, 0, none⟩) n co) (sched bs (n - 16)) → W.cell? ⟨g, j, none⟩ = some (.int .u32 (u32v (wordAt (sched bs (n - 16)) j))) := by
            intro j hj W hW
            exact hW.at j (by omega)
          have c0 := cc (n - 15) (by omega) wr hO
          have c1 := cc (n - 2) (by omega) wr hO
          have k2 : ∀ W, Below w.heap.size w W ∧ OwnW W w.heap.size (.slice (some ⟨g, 0, none⟩) n co) (sched bs (n - 16)) → W.cell? ⟨g, n - 16, none⟩ = some (.int .u32 (u32v (wordAt (sched bs (n - 16)) (n - 16)))) := fun W hW => cc (n - 16) (by omega) W hW.2
          have k3 : ∀ W, Below w.heap.size w W ∧ OwnW W w.heap.size (.slice (some ⟨g, 0, none⟩) n co) (sched bs (n - 16)) → W.cell? ⟨g, n - 7, none⟩ = some (.int .u32 (u32v (wordAt (sched bs (n - 16)) (n - 7)))) := fun W hW => cc (n - 7) (by omega) W hW.2
          have Cc := Lib.hid cc; clear cc
          have Hln := Lib.hid hln; clear hln
          have hy : u32v (wordAt (sched bs (n - 16)) (n - 16) + (rotr (wordAt (sched bs (n - 16)) (n - 15)) 7 ^^^ rotr (wordAt (sched bs (n - 16)) (n - 15)) 18 ^^^ shr (wordAt (sched bs (n - 16)) (n - 15)) 3) + wordAt (sched bs (n - 16)) (n - 7) +
              (rotr (wordAt (sched bs (n - 16)) (n - 2)) 17 ^^^ rotr (wordAt (sched bs (n - 16)) (n - 2)) 19 ^^^ shr (wordAt (sched bs (n - 16)) (n - 2)) 10)) = u32v (nextW (sched bs (n - 16))) := by
            unfold nextW sg0 sg1
            rw [Hln.out, shr3, shr10]
          have Hy := Lib.hid hy; clear hy
          have i0 : (0 : Int) ≤ ((n - 15 : Nat) : Int) ∧ ((n - 15 : Nat) : Int) < (n : Int) := by omega
          have i1 : (0 : Int) ≤ ((n - 2 : Nat) : Int) ∧ ((n - 2 : Nat) : Int) < (n : Int) := by omega
          have i2 : (0 : Int) ≤ ((n - 16 : Nat) : Int) ∧ ((n - 16 : Nat) : Int) < (n : Int) := by omega
          have i3 : (0 : Int) ≤ ((n - 7 : Nat) : Int) ∧ ((n - 7 : Nat) : Int) < (n : Int) := by omega
          have j0 : IntKind.i64.wrap ((n : Int) - 15) = ((n - 15 : Nat) : Int) := by rw [IntWalk.i64_in _ (by omega)]; omega
          have j1 : IntKind.i64.wrap ((n : Int) - 2) = ((n - 2 : Nat) : Int) := by rw [IntWalk.i64_in _ (by omega)]; omega
          have j2 : IntKind.i64.wrap ((n : Int) - 16) = ((n - 16 : Nat) : Int) := by rw [IntWalk.i64_in _ (by omega)]; omega
          have j3 : IntKind.i64.wrap ((n : Int) - 7) = ((n - 7 : Nat) : Int) := by rw [IntWalk.i64_in _ (by omega)]; omega
          go_wp2
          go_quiet ((first | (go_at_call 141; exact Calls.quiet_of_same (turnI _ _ _ (by omega))) | (go_at_call 142; exact Calls.quiet_of_same (shiftI _ _ _ (by omega)))))
          go_wp2
          go_quiet ((first | (go_at_call 141; exact quiet_add_same (turnI _ _ _ (by omega))) | (go_at_call 142; exact quiet_add_same (shiftI _ _ _ (by omega)))))
          go_wp2
          refine wp_region_ordW (fun W => Below w.heap.size w W ∧ OwnW W w.heap.size (.slice (some ⟨g, 0, none⟩) n co) (sched bs (n - 16))) (.q 0 <| .q 1 <| .q 2 <| .q 3 <| .q 4 <| .q 5 <| .q 6 <| .q 7 <| .q 8 <| .q 9 <| .q 10 <| .q 11 <| .q 12 <| .q 13 <| .q 14 <| .q 15 <| .m 16 <| .m 17 <| .q 18 <| .done) (by kernel_rfl) (by kernel_rfl) (by kernel_rfl) ⟨(below_drewN (below_drewN hbel _) _).drew, hO⟩ ?_
          intro W0 hW0
          obtain ⟨hbW, hOW⟩ := hW0
          have hbz := hbW.size
          simp only [tr, List.getElem?_cons_succ, List.getElem?_cons_zero]
          iterate 16 (first
            | (refine wpTr_skip (by rfl) ?_; simp only [Act.put, List.setIfInBounds_toArray, List.set_cons_zero, List.set_cons_succ])
            | (refine wpTr_q (v := ?_) (by rfl) (fun W hW => ?_) ?_
               rotate_left
               · first | (go_simp; done) | (go_simp; with_reducible rfl)
               simp only [Act.put, List.setIfInBounds_toArray, List.set_cons_zero, List.set_cons_succ]))
          refine wpTr_m (fun K hK => ?_)
          go_wp2
          refine hK _ _ ⟨hbW.alloc hbz _, hOW.alloc _⟩ ?_
          clear hK K
          refine wpTr_m (fun K hK => ?_)
          refine appW1o (by rfl) (.tmp 92) (.tmp 108) (by rfl) w.heap.size _ (sched bs (n - 16)) (by rfl) hOW _ _ Hy.out (by rfl) (by rw [Hln.out]; omega) hbz ?_
          intro v1 w2 hown1 hg1 hold
          have hb1 : Below w.heap.size w w2 := hbW.grown hg1 hbz (fun x hx => by cases hx; exact hg)
          go_wp2
          refine hK _ _ ⟨hb1, hold⟩ ?_
          clear hK K
          refine wpTr_q (by rfl) (fun W hW => by go_simp; with_reducible rfl) ?_
          refine wpTr_done ?_
          go_wp2
          obtain ⟨A3, c3', rfl, hc3, hm3, hrd3⟩ := hown1.form
          have hl1 : (sched bs (n - 16) ++ [nextW (sched bs (n - 16))]).length = n + 1 := by rw [List.length_append, Hln.out]; rfl
          rw [hl1] at hown1 ⊢
          clear hl1
          go_roundw
          case rel =>
            refine ⟨n + 1, by omega, by omega, by go_num, ?_, hb1⟩
            rw [show n + 1 - 16 = (n - 16) + 1 by omega]
            exact hown1
          case measure => simp [intOf]; omega
        · have e64 : n = 64 := by omega
          subst e64
          go_wp2
          go_ret
          exact ⟨_, rfl, hO, hbel⟩
end Go.Proofs.Ytillnpllcfleeaa
