/- Law 4, the main case: the walk of ShaCut where the cut lies inside the text. -/
import Derived.Test.YtillnpllcfleeaaCut06
import Derived.Test.YtillnpllcfleeaaOrd
namespace Go.Proofs.Ytillnpllcfleeaa
open Go Go.RowKit

/-- texts whose slices lie in a block of their own -/
theorem RdL.blk1 {W : World} {g : Nat} {t : TypeId} {A0 : Option Addr} {n0 c0 : Nat} {b0 : List UInt8} (hb : Blk W g t #[.slice A0 n0 c0]) (h0 : n0 = b0.length ∧ n0 ≤ c0 ∧ c0 ≤ maxLen ∧ RdB W W.heap.size A0 b0) :
    RdL W W.heap.size (some ⟨g, 0, none⟩) [b0] := by
  obtain ⟨rfl, h01, h02, h03⟩ := h0
  refine ⟨[.slice A0 b0.length c0], ⟨rfl, fun _ => ⟨g, 0, rfl, hb.lt, fun j u hu => ?_⟩⟩, fun k b hk => ?_⟩
  · rw [Nat.zero_add, hb.cell]
    simpa using hu
  · match k with
    | 0 => simp at hk; subst hk; exact ⟨_, _, rfl, h01, h02, h03⟩
    | k + 1 => simp at hk
theorem RdL.blk4 {W : World} {g : Nat} {t : TypeId} {A0 A1 A2 A3 : Option Addr} {n0 n1 n2 n3 c0 c1 c2 c3 : Nat} {b0 b1 b2 b3 : List UInt8} (hb : Blk W g t #[.slice A0 n0 c0, .slice A1 n1 c1, .slice A2 n2 c2, .slice A3 n3 c3])
    (h0 : n0 = b0.length ∧ n0 ≤ c0 ∧ c0 ≤ maxLen ∧ RdB W W.heap.size A0 b0) (h1 : n1 = b1.length ∧ n1 ≤ c1 ∧ c1 ≤ maxLen ∧ RdB W W.heap.size A1 b1)
    (h2 : n2 = b2.length ∧ n2 ≤ c2 ∧ c2 ≤ maxLen ∧ RdB W W.heap.size A2 b2) (h3 : n3 = b3.length ∧ n3 ≤ c3 ∧ c3 ≤ maxLen ∧ RdB W W.heap.size A3 b3) :
    RdL W W.heap.size (some ⟨g, 0, none⟩) [b0, b1, b2, b3] := by
  obtain ⟨rfl, h01, h02, h03⟩ := h0
  obtain ⟨rfl, h11, h12, h13⟩ := h1
  obtain ⟨rfl, h21, h22, h23⟩ := h2
  obtain ⟨rfl, h31, h32, h33⟩ := h3
  refine ⟨[.slice A0 b0.length c0, .slice A1 b1.length c1, .slice A2 b2.length c2, .slice A3 b3.length c3], ⟨rfl, fun _ => ⟨g, 0, rfl, hb.lt, fun j u hu => ?_⟩⟩, fun k b hk => ?_⟩
  · rw [Nat.zero_add, hb.cell]
    simpa using hu
  · match k with
    | 0 => simp at hk; subst hk; exact ⟨_, _, rfl, h01, h02, h03⟩
    | 1 => simp at hk; subst hk; exact ⟨_, _, rfl, h11, h12, h13⟩
    | 2 => simp at hk; subst hk; exact ⟨_, _, rfl, h21, h22, h23⟩
    | 3 => simp at hk; subst hk; exact ⟨_, _, rfl, h31, h32, h33⟩
    | k + 4 => simp at hk

set_option maxRecDepth 100000 in
set_option maxHeartbeats 1000000 in
theorem cut_main (A : Option Addr) (bs : List UInt8) (c : Nat) (p q r : Nat) (w : World) (hc : bs.length ≤ c) (hm : c ≤ maxLen) (hb : RdB w w.heap.size A bs)
    (hn : bs.length ≤ 3000) (hr : IntKind.i64.wrap ((p : Int) + (q : Int)) = (r : Int)) (hpr : p ≤ r) (hrn : r ≤ bs.length) (hqi : (q : Int) ≤ (bs.length : Int) - (p : Int)) :
    Calls Try.prog 4 #[.slice A bs.length c, .int .i64 p, .int .i64 q] w fun e w' => e = .returned (.bool true) ∧ Below w.heap.size w w' := by
  have hp : p ≤ bs.length := by omega
  have hpc : p ≤ c := by omega
  have hrc : r ≤ c := by omega
  obtain ⟨L, hD⟩ : ∃ L, L = b8s (sha bs) := ⟨_, rfl⟩
  have hcat : bs.take p ++ ([] ++ ((bs.drop p).take (r - p) ++ bs.drop r)) = bs := by
    rw [List.nil_append, show bs.drop r = (bs.drop p).drop (r - p) by rw [List.drop_drop]; congr 1; omega, List.take_append_drop, List.take_append_drop]
  have c1 : ∀ (W : World) (A' : Option Addr), RdL W W.heap.size A' [bs] → Calls Try.prog 33 #[.slice A' 1 1] W fun e w' => e = .returned (.agg L.toArray) ∧ Below W.heap.size W w' := by
    intro W A' h
    rw [hD]
    have := sum_any [bs] A' 1 W h (by simp) (by simp; omega)
    simpa using this
  have c2 : ∀ (W : World) (A' : Option Addr), RdL W W.heap.size A' [bs.take p, [], (bs.drop p).take (r - p), bs.drop r] → Calls Try.prog 33 #[.slice A' 4 4] W fun e w' => e = .returned (.agg L.toArray) ∧ Below W.heap.size W w' := by
    intro W A' h
    rw [hD]
    have hf : [bs.take p, [], (bs.drop p).take (r - p), bs.drop r].flatten = bs := by simpa using hcat
    have := sum_any [bs.take p, [], (bs.drop p).take (r - p), bs.drop r] A' 4 W h (by simp) (by rw [hf]; omega)
    rw [hf] at this
    exact this
  have hs : L.toArray.size = 32 := by rw [hD]; simp [b8s, sha_length]
  have ho : L.toArray.all (·.oneCell') = true := by rw [hD]; exact b8s_all _
  have he : ∀ W : World, (binOp .eql 25 (.agg L.toArray) (.agg L.toArray)).run Try.prog W = .ok (.bool true) W := by
    intro W; rw [hD, eql25 W _ _ (sha_length _) (sha_length _), beq_self_eq_true]
  have HR := Lib.hid hr; clear hr
  have C1 := Lib.hid c1; clear c1
  have C2 := Lib.hid c2; clear c2
  have HD := Lib.hid hD; clear hD
  have HS := Lib.hid hs; clear hs
  have HO := Lib.hid ho; clear ho
  clear hcat
  go_enter Try.func4, Try.ntmps4
  go_wp2_with (first
    | (go_at_call 31; refine (known06 _).mono ?_; rintro e w1 ⟨rfl, hb1⟩
       have hrd1 : RdB w1 w1.heap.size A bs := (hb.below hb1 (Nat.le_refl _)).more hb1.size
       have hst1 := run_to_string hrd1 c
       have hl1 : RdL (w1.alloc (.cells #[.slice A bs.length c] 28)) (w1.alloc (.cells #[.slice A bs.length c] 28)).heap.size (some ⟨w1.heap.size, 0, none⟩) [bs] := by
         have := RdL.one w1 A c bs 28 hc hm hrd1
         simpa using this
       have Hl1 := Lib.hid hl1; clear hl1)
    | (go_at_call 33; refine (C1.out _ _ Hl1.out).mono ?_; rintro e w2 ⟨rfl, hb2⟩
       have hbw2 : Below w.heap.size w w2 := hb1.trans (((Below.refl _ _).alloc hb1.size _).trans (hb2.mono (by have := hb1.size; simp; omega)))
       clear hb1 hb2 hst1 Hl1 hrd1)
    | (refine wpList_store_abs rfl 25 (.tmp 8) (.tmp 40) rfl w2.heap.size L.toArray rfl rfl 25 _ (Blk.new w2 25 _) 32 info25 HS.out rfl HO.out ?_; intro w3 h3 g3
       have hbw3 : Below w.heap.size w w3 := (hbw2.alloc hbw2.size _).grown g3 (by have := hbw2.size; simp; omega) (by have := hbw2.size; simp; omega)
       clear hbw2 g3))
  have hrd3 : RdB w3 w3.heap.size A bs := (hb.below hbw3 (Nat.le_refl _)).more hbw3.size
  have hR3 : ∀ W, Ext w3 W → W.rangeAt w2.heap.size 0 L := by
    intro W hW j v hv
    rw [Nat.zero_add, (hW.blk h3).cell]
    simpa using hv
  have hR := hR3 w3 (Ext.refl _)
  have hstr : ∀ W, Ext w3 W → (convert 28 9 (.slice A bs.length c)).run Try.prog W = .ok (.string (strOf bs)) W := fun W hW => run_to_string (hW.rdB hrd3 (Nat.le_refl _)) c
  have hu25 := Try.underlying25
  have hi25 : (Try.prog.info? 25).map (·.size) = some L.length := by rw [show L.length = 32 from by simpa using HS.out]; exact info25
  have hn25 : L.length = 32 := by simpa using HS.out
  have hr := HR.out
  have k1 : ∀ W g, Ext w3 W → Blk W g 28 #[.slice A bs.length c] → RdL W W.heap.size (some ⟨g, 0, none⟩) [bs] := fun W g hW hb =>
    RdL.blk1 hb ⟨rfl, hc, hm, (hW.rdB hrd3 (Nat.le_refl _)).more hW.below.size⟩
  have k2 : ∀ W g, Ext w3 W → Blk W g 28 #[.slice A p c, .slice none 0 0, .slice (cutA A 1 p c) (r - p) (c - p), .slice (cutA A 1 r c) (bs.length - r) (c - r)] → RdL W W.heap.size (some ⟨g, 0, none⟩) [bs.take p, [], (bs.drop p).take (r - p), bs.drop r] := by
    intro W g hW hb
    have hrW : RdB W W.heap.size A bs := (hW.rdB hrd3 (Nat.le_refl _)).more hW.below.size
    exact RdL.blk4 hb ⟨by rw [List.length_take]; omega, by omega, hm, hrW.cuth hp⟩ ⟨rfl, Nat.le_refl _, Nat.zero_le _, RdB.nil _⟩
      ⟨by rw [List.length_take, List.length_drop]; omega, by omega, by omega, hrW.cutlh (by omega) hc⟩ ⟨List.length_drop.symm, by omega, by omega, hrW.cutl hrn hc⟩
  have K1 := Lib.hid k1; clear k1
  have K2 := Lib.hid k2; clear k2
  have HR3 := Lib.hid hR3; clear hR3
  clear h3 hb
  have hE3 := Ext.refl w3
  refine wp_region_ord (Ext w3) (.q 0 <| .q 1 <| .q 2 <| .q 3 <| .q 4 <| .q 5 <| .q 6 <| .q 7 <| .q 8 <| .q 9 <| .q 10 <| .q 11 <| .q 12 <| .q 13 <| .q 16 <| .m 14 <| .m 15 <| .q 17 <| .q 18 <| .q 19 <| .q 22 <| .m 20 <| .m 21 <| .q 23 <| .q 24 <| .q 25 <| .q 26 <| .q 27 <| .q 28 <| .q 29 <| .q 30 <| .q 31 <| .done) (by kernel_rfl) (by kernel_rfl) (by kernel_rfl) (Ext.refl _).drew ?_
  simp only [tr, List.getElem?_cons_succ, List.getElem?_cons_zero]
  iterate 15 (first
    | (refine wpTr_skip (by rfl) ?_; simp only [Act.put, List.setIfInBounds_toArray, List.set_cons_zero, List.set_cons_succ])
    | (refine wpTr_load 25 (.tmp 8) rfl w2.heap.size 0 rfl L _ (by rfl) (fun W hW => HR3.out W hW) hu25 rfl hi25 ?_; simp only [Act.put, List.setIfInBounds_toArray, List.set_cons_zero, List.set_cons_succ])
    | (refine wpTr_q (v := ?_) (by rfl) (fun W hW => ?_) ?_
       rotate_left
       · first | (go_simp; done) | (go_simp; with_reducible rfl)
       simp only [Act.put, List.setIfInBounds_toArray, List.set_cons_zero, List.set_cons_succ]))
  refine wpTr_m (fun K hK => ?_)
  go_wp2
  refine hK _ _ ((Ext.refl _).alloc _).drew ?_
  clear hK K
  refine wpTr_m (fun K hK => ?_)
  have hl4 := K2.out _ w3.heap.size (((Ext.refl w3).alloc _).drew) (Blk.new _ _ _).drew
  go_wp2_with (go_at_call 33; refine (C2.out _ _ hl4).mono ?_; rintro e w4 ⟨rfl, hbW⟩)
  have hE4 := ((Ext.refl w3).alloc _).drew.call hbW
  refine hK _ _ hE4 ?_
  clear hK K
  clear hl4
  iterate 4 (first
    | (refine wpTr_skip (by rfl) ?_; simp only [Act.put, List.setIfInBounds_toArray, List.set_cons_zero, List.set_cons_succ])
    | (refine wpTr_load 25 (.tmp 8) rfl w2.heap.size 0 rfl L _ (by rfl) (fun W hW => HR3.out W hW) hu25 rfl hi25 ?_; simp only [Act.put, List.setIfInBounds_toArray, List.set_cons_zero, List.set_cons_succ])
    | (refine wpTr_q (v := ?_) (by rfl) (fun W hW => ?_) ?_
       rotate_left
       · first | (go_simp; done) | (go_simp; with_reducible rfl)
       simp only [Act.put, List.setIfInBounds_toArray, List.set_cons_zero, List.set_cons_succ]))
  refine wpTr_m (fun K hK => ?_)
  go_wp2
  refine hK _ _ (hE4.alloc _) ?_
  clear hK K
  refine wpTr_m (fun K hK => ?_)
  have hl1 := K1.out _ w4.heap.size (hE4.alloc _) (Blk.new _ _ _)
  go_wp2_with (go_at_call 33; refine (C1.out _ _ hl1).mono ?_; rintro e w5 ⟨rfl, hbX⟩)
  have hE5 := (hE4.alloc _).call hbX
  refine hK _ _ hE5 ?_
  clear hK K
  iterate 9 (first
    | (refine wpTr_skip (by rfl) ?_; simp only [Act.put, List.setIfInBounds_toArray, List.set_cons_zero, List.set_cons_succ])
    | (refine wpTr_load 25 (.tmp 8) rfl w2.heap.size 0 rfl L _ (by rfl) (fun W hW => HR3.out W hW) hu25 rfl hi25 ?_; simp only [Act.put, List.setIfInBounds_toArray, List.set_cons_zero, List.set_cons_succ])
    | (refine wpTr_q (v := ?_) (by rfl) (fun W hW => ?_) ?_
       rotate_left
       · first | (go_simp; done) | (go_simp; with_reducible rfl)
       simp only [Act.put, List.setIfInBounds_toArray, List.set_cons_zero, List.set_cons_succ]))
  refine wpTr_done ?_
  go_wp2
  go_ret
  exact ⟨rfl, hbw3.trans (hE5.mono hbw3.size)⟩
end Go.Proofs.Ytillnpllcfleeaa
