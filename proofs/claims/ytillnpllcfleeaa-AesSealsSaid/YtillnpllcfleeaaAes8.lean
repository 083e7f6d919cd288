/- Walks of layer 8: the law's 'known', and the law that keeps keys and blocks apart. -/
import Derived.Test.YtillnpllcfleeaaAes7
import Derived.Test.YtillnpllcfleeaaOrd3
namespace Go.Proofs.Ytillnpllcfleeaa
open Go Go.RowKit

section
variable {ops : Array Oper} {rest : List Oper} {o : Oper} {a : Act} {w : World} {Q : Exit → Act → World → Prop}
theorem alloc_at (d : Nat) (_hd : o.dst = some d) (hg : o.guard = none) (t : TypeId) (ho : o.op = .alloc t) (cs : Array Value) (hz : ((Try.prog.info? t).bind (·.zero)).map (·.cells) = some cs)
    (h : ∀ g w', w.heap.size ≤ g → g < w'.heap.size → Blk w' g t cs → Below w.heap.size w w' → wpList Try.prog ops Q rest (a.put o.dst (.pointer (some ⟨g, 0, none⟩))) w') : wpList Try.prog ops Q (o :: rest) a w :=
  alloc_abs hg t ho cs hz h
end
section
variable {P : Program} {ops : Array Oper} {rest : List Oper} {o : Oper} {a : Act} {w : World} {Q : Exit → Act → World → Prop}
theorem calls_of {f : FuncId} {args args' : Array Value} {Q : Ending → World → Prop} (e : args = args') (h : Calls P f args' w Q) : Calls P f args w Q := e ▸ h
theorem unguard (hw : Region.wanted o (yielded ops a.tmps) = true) (h : wpList P ops Q ({ o with guard := none } :: rest) a w) : wpList P ops Q (o :: rest) a w := by
  unfold wpList at h ⊢
  rw [if_pos hw]
  rw [if_pos (by simp [Region.wanted])] at h
  exact h
end
theorem seal_aes (gc : Nat) (key b : List UInt8) (w0 : World) (hk : key.length = 16) (hb : b.length = 16) (hc : BlB w0 gc 224 (sbox ++ cols key)) (W : World) (hS : Below w0.heap.size w0 W) :
    Calls Try.prog 38 #[.pointer (some ⟨gc, 0, none⟩), .agg (b8s b).toArray] W fun e w' => e = .returned (.agg (b8s (aes key b)).toArray) ∧ Below W.heap.size W w' := seal_any gc (cols key) b W (cols_length key hk) hb (Blk.call hc hS)

theorem grown_of_below_drew (w : World) : Below w.heap.size w w.drew := (Below.refl _ _).drew
theorem all16 {w : World} {g : Nat} {l : List UInt8} (hb : BlB w g 32 l) (h : l.length = 16) : w.rangeAt g 0 (b8s l) := by
  have := hb.range 0 16 (by omega)
  rwa [List.drop_zero, List.take_of_length_le (by omega)] at this

theorem sub_lit (n : Nat) (m : Nat) (h : u8v (sub (UInt8.ofNat n)) = m) (hn : u8v (UInt8.ofNat n) = n) (w : World) : Calls Try.prog 39 #[.int .u8 (n : Int)] w fun e w' => e = .returned (.int .u8 (m : Int)) ∧ Below w.heap.size w w' := by
  have := sub_any (UInt8.ofNat n) w
  rwa [h, hn] at this
theorem sub0 (w : World) : Calls Try.prog 39 #[.int .u8 0] w fun e w' => e = .returned (.int .u8 99) ∧ Below w.heap.size w w' := sub_lit 0 99 (by unfold u8v; decide +kernel) (by unfold u8v; decide) w
theorem sub83 (w : World) : Calls Try.prog 39 #[.int .u8 83] w fun e w' => e = .returned (.int .u8 237) ∧ Below w.heap.size w w' := sub_lit 83 237 (by unfold u8v; decide +kernel) (by unfold u8v; decide) w
theorem sub255 (w : World) : Calls Try.prog 39 #[.int .u8 255] w fun e w' => e = .returned (.int .u8 22) ∧ Below w.heap.size w w' := sub_lit 255 22 (by unfold u8v; decide +kernel) (by unfold u8v; decide) w
theorem to_string16 {w : World} {r : Nat} {l : List UInt8} (hb : BlB w r 32 l) (h : l.length = 16) : (convert 28 9 (.slice (some ⟨r, 0, none⟩) 16 16)).run Try.prog w = .ok (.string (strOf l)) w := by
  have hr := hb.rd 0 16 (by omega)
  rw [List.drop_zero, List.take_of_length_le (by omega)] at hr
  have := run_to_string hr 16
  rwa [h] at this
theorem eql32 (w : World) (xs ys : List UInt8) (hx : xs.length = 16) (hy : ys.length = 16) : (binOp .eql 32 (.agg (b8s xs).toArray) (.agg (b8s ys).toArray)).run Try.prog w = .ok (.bool (xs == ys)) w :=
  run_eql_bytes w 32 5 16 Try.underlying32 Try.underlying5 size5 xs ys hx hy
def kKey : List UInt8 := (List.range 16).map fun i => UInt8.ofNat i
def kBlk : List UInt8 := (List.range 16).map fun i => UInt8.ofNat (17 * i)
theorem kKey_get (i : Nat) (h : i < 16) : kKey[i]? = some (UInt8.ofNat i) := by unfold kKey; rw [List.getElem?_map, List.getElem?_range h]; rfl
theorem kBlk_get (i : Nat) (h : i < 16) : kBlk[i]? = some (17 * UInt8.ofNat i) := by unfold kBlk; rw [List.getElem?_map, List.getElem?_range h]; simp
theorem eq5 (x y : UInt8) : (u8v x == u8v y) = (x == y) := by
  rw [Bool.eq_iff_iff, beq_iff_eq, beq_iff_eq]
  exact ⟨u8v_inj, fun h => by rw [h]⟩
theorem beq_of_inj {f : UInt8 → UInt8} (hf : ∀ {a b}, f a = f b → a = b) (x y : UInt8) : (f x == f y) = (x == y) := by
  rw [Bool.eq_iff_iff, beq_iff_eq, beq_iff_eq]
  exact ⟨hf, fun h => by rw [h]⟩
theorem known_str : strOf (aes kKey kBlk) = ⟨#[105, 196, 224, 216, 106, 123, 4, 48, 216, 205, 183, 128, 112, 180, 197, 90]⟩ := by
  unfold kKey kBlk
  rw [aes_known]
  rfl

set_option maxRecDepth 100000 in
set_option maxHeartbeats 2000000 in
theorem known_any (w : World) : Calls Try.prog 36 #[] w fun e w' => e = .returned (.bool true) ∧ Below w.heap.size w w' := by
  obtain ⟨N, hN⟩ : ∃ N : List UInt8, N = List.replicate 16 0 := ⟨_, rfl⟩
  have hz := zero32
  rw [← hN] at hz
  have hNl : N.length = 16 := by rw [hN]; rfl
  have HN := Lib.hid hN; clear hN
  have HNl := Lib.hid hNl; clear hNl
  obtain ⟨Z, hZ⟩ : ∃ Z, Z = (b8s N).toArray := ⟨_, rfl⟩
  rw [← hZ] at hz
  have HZ := Lib.hid hZ; clear hZ
  have Hz := Lib.hid hz; clear hz
  obtain ⟨K, hK⟩ : ∃ K, K = kKey := ⟨_, rfl⟩
  obtain ⟨B, hB⟩ : ∃ K, K = kBlk := ⟨_, rfl⟩
  have hKl : K.length = 16 := by rw [hK]; rfl
  have hBl : B.length = 16 := by rw [hB]; rfl
  have HKg := Lib.hid (show ∀ i, i < 16 → K[i]? = some (UInt8.ofNat i) by rw [hK]; exact kKey_get)
  have HBg := Lib.hid (show ∀ i, i < 16 → B[i]? = some (17 * UInt8.ofNat i) by rw [hB]; exact kBlk_get)
  have HK := Lib.hid hK; clear hK
  have HB := Lib.hid hB; clear hB
  have HKl := Lib.hid hKl; clear hKl
  have HBl := Lib.hid hBl; clear hBl
  go_enter Try.func36, Try.ntmps36
  go_wp2_with (first
    | (have _h := h11; refine alloc_abs rfl 32 rfl Z Hz.out ?_; intro g2 w2 h21 h22 h2 hb2
       have h1A := Blk.call h1 hb2
       have hz2 := hb2.size
       have hbw2 := hb1.trans (hb2.mono hz1))
    | (refine alloc_abs rfl 32 rfl Z Hz.out ?_; intro g1 w1 h11 h12 h1 hb1
       have hz1 := hb1.size))
  rw [HZ.out] at h1A h2
  have hne : g1 ≠ g2 := by omega
  have hg1 : w.heap.size ≤ g1 ∧ w.heap.size ≤ g2 ∧ w.heap.size ≤ w2.heap.size := by omega
  obtain ⟨hg1, hg2, hzw⟩ := hg1
  clear h1 hb1 hb2 hz1 hz2 h11 h12 h21 _h
  go_loopw [6] (fun i wr => ∃ j : Nat, j ≤ 16 ∧ i = .int .i64 j ∧ BlB wr g1 32 (mixTo j K N) ∧ BlB wr g2 32 (mixTo j B N) ∧ Below w.heap.size w wr) (fun i _ => 16 - (intOf i).toNat)
  case atStart => exact ⟨0, by omega, rfl, by rw [mixTo_zero]; exact h1A, by rw [mixTo_zero]; exact h2, hbw2⟩
  case round =>
    clear h1A h2 hbw2
    obtain ⟨j, hj, rfl, hA, hC, hbel⟩ := hrel
    by_cases hlt : j < 16
    · have hl1 : (mixTo j K N).length = 16 := by rw [mixTo_length _ _ _ (by rw [HKl.out, HNl.out]), HNl.out]
      have hl2 : (mixTo j B N).length = 16 := by rw [mixTo_length _ _ _ (by rw [HBl.out, HNl.out]), HNl.out]
      have c1 := hA.at j (by rw [hl1]; exact hlt)
      have c2 := hC.at j (by rw [hl2]; exact hlt)
      have f1 := Blk.frozen hA j
      have f2 := Blk.frozen hC j
      have e1 : IntKind.u8.wrap (j : Int) = u8v (UInt8.ofNat j) := conv_nat_8 j
      have e17 : IntKind.i64.wrap (17 * (j : Int)) = 17 * (j : Int) := IntWalk.i64_in _ (by omega)
      have e2 : IntKind.u8.wrap (17 * (j : Int)) = u8v (UInt8.ofNat (17 * j)) := by rw [← conv_nat_8]; congr 1
      have j1 : (0 : Int) ≤ (j : Int) ∧ (j : Int) < 16 := by omega
      clear hl1 hl2
      go_wp2
      have q1 := grownBy_setCell wr ⟨g1, j, none⟩ (.int .u8 (u8v (UInt8.ofNat j)))
      have q2 := grownBy_setCell (wr.setCell ⟨g1, j, none⟩ (.int .u8 (u8v (UInt8.ofNat j)))) ⟨g2, j, none⟩ (.int .u8 (u8v (17 * UInt8.ofNat j)))
      have hA2 := BlB.set hA j (UInt8.ofNat j)
      rw [mixTo_set _ _ _ _ (by rw [HKl.out, HNl.out]) (by rw [HKl.out]; exact hlt) (HKg.out j hlt)] at hA2
      have hC2 := BlB.set (Blk.grown hC q1 (by simp [hne.symm])) j (17 * UInt8.ofNat j)
      rw [mixTo_set _ _ _ _ (by rw [HBl.out, HNl.out]) (by rw [HBl.out]; exact hlt) (HBg.out j hlt)] at hC2
      have hb2 := (hbel.grown q1 hbel.size (fun x hx => by cases hx; exact hg1))
      have hb3 := hb2.grown q2 hb2.size (fun x hx => by cases hx; exact hg2)
      go_roundw
      case rel => exact ⟨j + 1, hlt, by go_num, Blk.grown hA2 q2 (by simp [hne]), hC2, hb3⟩
      case measure => simp [intOf]; omega
    · have e16 : j = 16 := by omega
      subst e16
      rw [mixTo_all 16 _ _ HKl.out HNl.out] at hA
      rw [mixTo_all 16 _ _ HBl.out HNl.out] at hC
      go_wp2
      have hal := hA.lt
      have hcl := hC.lt
      refine wp_region_odR (fun W => Below wr.heap.size wr W) (fun a0 a W => ∃ gc r, a = ((((a0.put (some 19) (.agg (b8s K).toArray)).put (some 21) (.agg (b8s B).toArray)).put (some 20) (.pointer (some ⟨gc, 0, none⟩))).put (some 22) (.agg (b8s (aes K B)).toArray)).put (some 4) (.pointer (some ⟨r, 0, none⟩)) ∧ Below wr.heap.size wr W ∧ wr.heap.size ≤ r ∧ BlB W r 32 (aes K B))
        (.q 0 <| .q 2 <| .b 1 (.b 3 (.b 4 (.b 5 (.done) <| .e) <| .e) <| .b 4 (.b 3 (.b 5 (.done) <| .e) <| .e) <| .e) <| .b 4 (.b 1 (.b 3 (.b 5 (.done) <| .e) <| .e) <| .e) <| .e)
        (by kernel_rfl) (by kernel_rfl) (by kernel_rfl) (grown_of_below_drew wr) ?_ ?_
      · intro hcont W hS
        simp only [tw, List.getElem?_cons_succ, List.getElem?_cons_zero]
        refine wpTw_load 32 (.tmp 1) rfl g1 0 rfl (b8s K) _ (by rfl) (fun W hS => all16 (Blk.call hA hS) HKl.out) Try.underlying32 rfl (info32.trans (congrArg some (by rw [b8s_length, HKl.out]))) ?_
        simp only [Act.put, List.setIfInBounds_toArray, List.set_cons_zero, List.set_cons_succ]
        refine wpTw_load 32 (.tmp 2) rfl g2 0 rfl (b8s B) _ (by rfl) (fun W hS => all16 (Blk.call hC hS) HBl.out) Try.underlying32 rfl (info32.trans (congrArg some (by rw [b8s_length, HBl.out]))) ?_
        simp only [Act.put, List.setIfInBounds_toArray, List.set_cons_zero, List.set_cons_succ]
        repeat' (first
          | exact wpTw_e
          | (refine wpTw_b (fun KK hKK => ?_) ?_
             go_wp2_with (first
                 | (go_at_call 37; refine (new_any K _ HKl.out).mono ?_; rintro e Wn ⟨gc, rfl, hgc, hcG, hN⟩
                    try replace hr := Blk.call hr hN)
                 | (go_at_call 38; refine (seal_any gc (cols K) B _ (cols_length K HKl.out) HBl.out hcG).mono ?_; rintro e Wn ⟨rfl, hN⟩
                    try replace hr := Blk.call hr hN)
                 | (refine alloc_at 4 rfl rfl 32 rfl Z Hz.out ?_; intro r Wn hr1 hr2 hr hN
                    rw [HZ.out] at hr
                    replace hr1 := Nat.le_trans hS.size hr1
                    try replace hcG := Blk.call hcG hN)
                 | (refine stB rfl 32 (.tmp 4) (.tmp 22) rfl r rfl (aes K B) rfl N hr 16 info32 (aes_length _ _) HNl.out ?_; intro Wn hrW hN))
             first | replace hS := hS.trans (hN.mono hS.size) | replace hS := hS.grown hN hS.size (fun x hx => by cases hx; exact hr1)
             refine hKK _ _ hS ?_
             clear hKK KK))
        all_goals exact hcont _ _ ⟨gc, r, by simp only [Act.put, List.setIfInBounds_toArray, List.set_cons_zero, List.set_cons_succ]; rfl, hS, hr1, hrW⟩
      · rintro a' W ⟨gc, r, rfl, hS, hr1, hr⟩
        simp only [Act.put, List.setIfInBounds_toArray, List.set_cons_zero, List.set_cons_succ]
        have hA2 := Blk.call hA hS
        have hC2 := Blk.call hC hS
        have hcv := to_string16 hr (aes_length _ _)
        have hkn : strOf (aes K B) = ⟨#[105, 196, 224, 216, 106, 123, 4, 48, 216, 205, 183, 128, 112, 180, 197, 90]⟩ := by rw [HK.out, HB.out]; exact known_str
        rw [hkn] at hcv
        clear hkn
        have hb0 := build32
        rw [← HN.out] at hb0
        have Hb0 := Lib.hid hb0; clear hb0
        have heq : ∀ W, (binOp .eql 32 (.agg (b8s N).toArray) (.agg (b8s N).toArray)).run Try.prog W = .ok (.bool true) W := fun W => by rw [eql32 W N N HNl.out HNl.out, beq_self_eq_true]
        go_wp2_with (first
          | (go_at_call 39; refine (sub0 _).mono ?_; rintro e w7 ⟨rfl, hb7⟩)
          | (go_at_call 39; refine (sub83 _).mono ?_; rintro e w8 ⟨rfl, hb8⟩)
          | (go_at_call 39; refine (sub255 _).mono ?_; rintro e w9 ⟨rfl, hb9⟩
             have hbw9 := hb7.trans ((hb8.mono hb7.size).trans (hb9.mono (Nat.le_trans hb7.size hb8.size)))
             have hC9 := Blk.call hC2 hbw9)
          | (refine unguard (by rfl) ?_; refine ldB rfl 32 (.tmp 2) rfl g2 rfl B hC9 16 Try.underlying32 info32 HBl.out ?_)
          | (go_at_call 38; refine (seal_nil B _ HBl.out).mono ?_; rintro e w10 ⟨rfl, hb10⟩; rw [← HN.out])
          | (refine unguard (by rfl) ?_; refine build0_abs rfl 32 rfl _ Hb0.out ?_))
        go_ret
        exact ⟨rfl, hbel.trans ((hS.trans ((hbw9.trans (hb10.mono hbw9.size)).mono hS.size)).mono hbel.size)⟩
set_option maxRecDepth 100000 in
set_option maxHeartbeats 4000000 in
theorem apart_any (x y : UInt8) (key a b : List UInt8) (w : World) (hk : key.length = 16) (ha : a.length = 16) (hb : b.length = 16) :
    Calls Try.prog 5 #[.int .u8 (u8v x), .int .u8 (u8v y), .agg (b8s key).toArray, .agg (b8s a).toArray, .agg (b8s b).toArray] w fun e w' => e = .returned (.bool true) ∧ Below w.heap.size w w' := by
  have Hk := Lib.hid hk; clear hk
  have Ha := Lib.hid ha; clear ha
  have Hb := Lib.hid hb; clear hb
  go_enter Try.func5, Try.ntmps5
  go_wp2_with (first
    | (have _h := hga1; refine box_abs rfl 32 (.tmp 4) rfl (b8s b).toArray rfl ?_; intro gb w3 hgb1 hgb2 hbb hb3
       have hkB := hkA.call hb3
       have haB := haa.call hb3
       have hz3 := hb3.size)
    | (have _h := hgk1; refine box_abs rfl 32 (.tmp 3) rfl (b8s a).toArray rfl ?_; intro ga w2 hga1 hga2 haa hb2
       have hkA := hkk.call hb2
       have hz2 := hb2.size)
    | (refine box_abs rfl 32 (.tmp 2) rfl (b8s key).toArray rfl ?_; intro gk w1 hgk1 hgk2 hkk hb1
       have hz1 := hb1.size)
    | (go_at_call 36; refine (known_any _).mono ?_; rintro e w4 ⟨rfl, hb4⟩
       have hkC := hkB.call hb4
       have haC := haB.call hb4
       have hbC := hbb.call hb4
       have hz4 := hb4.size
       have hbw4 : Below w.heap.size w w4 := hb1.trans ((hb2.mono hz1).trans ((hb3.mono (Nat.le_trans hz1 hz2)).trans (hb4.mono (Nat.le_trans hz1 (Nat.le_trans hz2 hz3))))))
    | (refine ldB rfl 32 (.tmp 7) rfl gk rfl key hkC 16 Try.underlying32 info32 Hk.out ?_)
    | (go_at_call 37; refine (new_any key _ Hk.out).mono ?_; rintro e w5 ⟨gc, rfl, hgc, hc5, hb5⟩
       have hkD := hkC.call hb5
       have haD := haC.call hb5
       have hbD := hbC.call hb5
       have hz5 := hb5.size
       have hbw5 := hbw4.trans (hb5.mono hbw4.size)))
  have hkl := hkD.lt
  have hal := haD.lt
  have hbl := hbD.lt
  have hcl := hc5.lt
  clear hkA hkB hkC haB haC hbC hkk haa hbb hb1 hb2 hb3 hb4 hb5 hz1 hz2 hz3 hz4 hz5 _h hbw4 hgk1 hgk2 hga1 hga2 hgb1 hgb2 hgc
  obtain ⟨N, hN⟩ : ∃ N : List UInt8, N = List.replicate 16 0 := ⟨_, rfl⟩
  have hz := zero32
  rw [← hN] at hz
  have hNl : N.length = 16 := by rw [hN]; rfl
  have HN := Lib.hid hN; clear hN
  have HNl := Lib.hid hNl; clear hNl
  have Hz := Lib.hid hz; clear hz
  obtain ⟨A, hA⟩ : ∃ A, A = aes key a := ⟨_, rfl⟩
  obtain ⟨B, hB⟩ : ∃ A, A = aes key b := ⟨_, rfl⟩
  have hAl : A.length = 16 := by rw [hA]; exact aes_length _ _
  have hBl : B.length = 16 := by rw [hB]; exact aes_length _ _
  have sA : ∀ W, Below w5.heap.size w5 W → Calls Try.prog 38 #[.pointer (some ⟨gc, 0, none⟩), .agg (b8s a).toArray] W fun e w' => e = .returned (.agg (b8s A).toArray) ∧ Below W.heap.size W w' := by rw [hA]; exact seal_aes gc key a w5 Hk.out Ha.out hc5
  have sB : ∀ W, Below w5.heap.size w5 W → Calls Try.prog 38 #[.pointer (some ⟨gc, 0, none⟩), .agg (b8s b).toArray] W fun e w' => e = .returned (.agg (b8s B).toArray) ∧ Below W.heap.size W w' := by rw [hB]; exact seal_aes gc key b w5 Hk.out Hb.out hc5
  have HsA := Lib.hid sA; clear sA
  have HsB := Lib.hid sB; clear sB
  have HA := Lib.hid hA; clear hA
  have HB := Lib.hid hB; clear hB
  have HAl := Lib.hid hAl; clear hAl
  have HBl := Lib.hid hBl; clear hBl
  refine wp_region_odR (fun W => Below w5.heap.size w5 W) (fun a0 a' W => ∃ r1 r2, a' = (((((((a0.put (some 18) (.pointer (some ⟨gc, 0, none⟩))).put (some 19) (.agg (b8s a).toArray)).put (some 21) (.pointer (some ⟨gc, 0, none⟩))).put (some 22) (.agg (b8s b).toArray)).put (some 20) (.agg (b8s A).toArray)).put (some 23) (.agg (b8s B).toArray)).put (some 12) (.pointer (some ⟨r1, 0, none⟩))).put (some 13) (.pointer (some ⟨r2, 0, none⟩)) ∧ Below w5.heap.size w5 W ∧ BlB W r1 32 A ∧ BlB W r2 32 B)
    (.q 0 <| .q 1 <| .q 3 <| .q 4 <| .b 2 (.b 5 (.b 6 (.b 7 (.b 8 (.b 9 (.done) <| .e) <| .e) <| .e) <| .b 7 (.b 6 (.b 8 (.b 9 (.done) <| .e) <| .e) <| .e) <| .e) <| .b 6 (.b 5 (.b 7 (.b 8 (.b 9 (.done) <| .e) <| .e) <| .e) <| .b 7 (.b 5 (.b 8 (.b 9 (.done) <| .e) <| .e) <| .e) <| .e) <| .b 7 (.b 5 (.b 6 (.b 8 (.b 9 (.done) <| .e) <| .e) <| .e) <| .b 6 (.b 5 (.b 8 (.b 9 (.done) <| .e) <| .e) <| .e) <| .e) <| .e) <| .b 6 (.b 2 (.b 5 (.b 7 (.b 8 (.b 9 (.done) <| .e) <| .e) <| .e) <| .b 7 (.b 5 (.b 8 (.b 9 (.done) <| .e) <| .e) <| .e) <| .e) <| .b 7 (.b 2 (.b 5 (.b 8 (.b 9 (.done) <| .e) <| .e) <| .e) <| .e) <| .e) <| .b 7 (.b 2 (.b 5 (.b 6 (.b 8 (.b 9 (.done) <| .e) <| .e) <| .e) <| .b 6 (.b 5 (.b 8 (.b 9 (.done) <| .e) <| .e) <| .e) <| .e) <| .b 6 (.b 2 (.b 5 (.b 8 (.b 9 (.done) <| .e) <| .e) <| .e) <| .e) <| .e) <| .e)
    (by kernel_rfl) (by kernel_rfl) (by kernel_rfl) (grown_of_below_drew w5) ?_ ?_
  · intro hcont W hS
    simp only [tw, List.getElem?_cons_succ, List.getElem?_cons_zero]
    iterate 4 (first
      | (refine wpTw_load 32 (.tmp 8) rfl ga 0 rfl (b8s a) _ (by rfl) (fun W hS => all16 (Blk.call haD hS) Ha.out) Try.underlying32 rfl (info32.trans (congrArg some (by rw [b8s_length, Ha.out]))) ?_
         simp only [Act.put, List.setIfInBounds_toArray, List.set_cons_zero, List.set_cons_succ])
      | (refine wpTw_load 32 (.tmp 9) rfl gb 0 rfl (b8s b) _ (by rfl) (fun W hS => all16 (Blk.call hbD hS) Hb.out) Try.underlying32 rfl (info32.trans (congrArg some (by rw [b8s_length, Hb.out]))) ?_
         simp only [Act.put, List.setIfInBounds_toArray, List.set_cons_zero, List.set_cons_succ])
      | (refine wpTw_q (v := ?_) (by rfl) (fun W hW => ?_) ?_
         rotate_left
         · first | (go_simp; done) | (go_simp; with_reducible rfl)
         simp only [Act.put, List.setIfInBounds_toArray, List.set_cons_zero, List.set_cons_succ]))
    repeat' (first
      | exact wpTw_e
      | (refine wpTw_b (fun KK hKK => ?_) ?_
         go_wp2_with (first
             | (go_at_call 38; refine calls_of (args' := #[.pointer (some ⟨gc, 0, none⟩), .agg (b8s a).toArray]) (by with_reducible rfl) ?_; refine (HsA.out _ hS).mono ?_; rintro e Wn ⟨rfl, hN⟩
                try replace h12 := Blk.call h12 hN
                try replace h13 := Blk.call h13 hN)
             | (go_at_call 38; refine calls_of (args' := #[.pointer (some ⟨gc, 0, none⟩), .agg (b8s b).toArray]) (by with_reducible rfl) ?_; refine (HsB.out _ hS).mono ?_; rintro e Wn ⟨rfl, hN⟩
                try replace h12 := Blk.call h12 hN
                try replace h13 := Blk.call h13 hN)
             | (refine alloc_at 12 rfl rfl 32 rfl _ Hz.out ?_; intro r12 Wn p12 q12 h12 hN
                try have hne : r12 ≠ r13 := by (have := h13.lt; omega)
                replace p12 := Nat.le_trans hS.size p12
                try replace h13 := Blk.call h13 hN)
             | (refine alloc_at 13 rfl rfl 32 rfl _ Hz.out ?_; intro r13 Wn p13 q13 h13 hN
                try have hne : r12 ≠ r13 := by (have := h12.lt; omega)
                replace p13 := Nat.le_trans hS.size p13
                try replace h12 := Blk.call h12 hN)
             | (refine stB rfl 32 (.tmp 12) (.tmp 20) rfl r12 rfl A rfl N h12 16 info32 HAl.out HNl.out ?_; intro Wn h12' hN
                replace h13 := Blk.grown h13 hN (by simp [hne.symm]))
             | (refine stB rfl 32 (.tmp 13) (.tmp 23) rfl r13 rfl B rfl N h13 16 info32 HBl.out HNl.out ?_; intro Wn h13' hN
                replace h12' := Blk.grown h12' hN (by simp [hne])))
         first | replace hS := hS.trans (hN.mono hS.size) | replace hS := hS.grown hN hS.size (fun x hx => by cases hx; first | exact p12 | exact p13)
         refine hKK _ _ hS ?_
         clear hKK KK))
    all_goals exact hcont _ _ ⟨r12, r13, by simp only [Act.put, List.setIfInBounds_toArray, List.set_cons_zero, List.set_cons_succ], hS, h12', h13'⟩
  · rintro a' W ⟨r1, r2, rfl, hS, h1, h2⟩
    simp only [Act.put, List.setIfInBounds_toArray, List.set_cons_zero, List.set_cons_succ]
    go_wp2
    have hk2 := Blk.call hkD hS
    have ha2 := Blk.call haD hS
    have hb2 := Blk.call hbD hS
    have hc2 := Blk.call hc5 hS
    have g5s : (u8v (sub x) == u8v (sub y)) = (x == y) := by rw [eq5, beq_of_inj sub_inj]
    have g5 := eq5 x y
    have fa : ∀ W, (binOp .eql 32 (.agg (b8s a).toArray) (.agg (b8s b).toArray)).run Try.prog W = .ok (.bool (a == b)) W := fun W => eql32 W a b Ha.out Hb.out
    have fA : ∀ W, (binOp .eql 32 (.agg (b8s A).toArray) (.agg (b8s B).toArray)).run Try.prog W = .ok (.bool (a == b)) W := fun W => by
      rw [eql32 W A B HAl.out HBl.out, HA.out, HB.out]
      congr 2
      by_cases h : a = b
      · subst h; simp
      · rw [beq_false_of_ne h, beq_false_of_ne fun e => h (aes_inj key Ha.out Hb.out e)]
    have fAA : ∀ W, (binOp .eql 32 (.agg (b8s A).toArray) (.agg (b8s A).toArray)).run Try.prog W = .ok (.bool true) W := fun W => by rw [eql32 W A A HAl.out HAl.out, beq_self_eq_true]
    have fBB : ∀ W, (binOp .eql 32 (.agg (b8s B).toArray) (.agg (b8s B).toArray)).run Try.prog W = .ok (.bool true) W := fun W => by rw [eql32 W B B HBl.out HBl.out, beq_self_eq_true]
    obtain ⟨dx, hdx⟩ : ∃ d, d = (x == y) := ⟨_, rfl⟩
    obtain ⟨da, hda⟩ : ∃ d, d = (a == b) := ⟨_, rfl⟩
    rw [← hdx] at g5 g5s
    simp only [← hda] at fa fA
    clear hdx hda
    refine wp_region_od (fun W2 => Below W.heap.size W W2) (.q 0 <| .q 2 <| .q 5 <| .q 6 <| .q 7 <| .b 1 (.b 3 (.q 4 <| .q 8 <| .q 9 <| .q 10 <| .q 11 <| .q 12 <| .q 13 <| .q 14 <| .q 15 <| .q 16 <| .q 17 <| .q 18 <| .q 19 <| .q 20 <| .q 22 <| .b 21 (.q 23 <| .q 24 <| .q 25 <| .q 26 <| .q 28 <| .q 30 <| .b 27 (.b 29 (.q 31 <| .q 32 <| .q 33 <| .done) <| .e) <| .e) <| .e) <| .e) <| .e)
      (by kernel_rfl) (by kernel_rfl) (by kernel_rfl) (grown_of_below_drew W) ?_
    intro W2 hT
    simp only [tw, List.getElem?_cons_succ, List.getElem?_cons_zero]
    iterate 5 (
      first
      | (refine wpTw_load 32 (.tmp 12) rfl r1 0 rfl _ _ (by rfl) (fun W hS => all16 (Blk.call h1 hS) HAl.out) Try.underlying32 rfl (info32.trans (congrArg some (by rw [b8s_length, HAl.out]))) ?_)
      | (refine wpTw_load 32 (.tmp 13) rfl r2 0 rfl _ _ (by rfl) (fun W hS => all16 (Blk.call h2 hS) HBl.out) Try.underlying32 rfl (info32.trans (congrArg some (by rw [b8s_length, HBl.out]))) ?_)
      | (refine wpTw_load 32 (.tmp 7) rfl gk 0 rfl _ _ (by rfl) (fun W hS => all16 (Blk.call hk2 hS) Hk.out) Try.underlying32 rfl (info32.trans (congrArg some (by rw [b8s_length, Hk.out]))) ?_)
      | (refine wpTw_load 32 (.tmp 8) rfl ga 0 rfl _ _ (by rfl) (fun W hS => all16 (Blk.call ha2 hS) Ha.out) Try.underlying32 rfl (info32.trans (congrArg some (by rw [b8s_length, Ha.out]))) ?_)
      | (refine wpTw_load 32 (.tmp 9) rfl gb 0 rfl _ _ (by rfl) (fun W hS => all16 (Blk.call hb2 hS) Hb.out) Try.underlying32 rfl (info32.trans (congrArg some (by rw [b8s_length, Hb.out]))) ?_)
      | (refine wpTw_q (v := ?_) (by rfl) (fun W hW => ?_) ?_
         rotate_left
         · first | (go_simp; done) | (go_simp; with_reducible rfl))
      simp only [Act.put, List.setIfInBounds_toArray, List.set_cons_zero, List.set_cons_succ])
    refine wpTw_b (fun KK hKK => ?_) wpTw_e
    go_wp2_with (go_at_call 39; refine (sub_any x _).mono ?_; rintro e Wn ⟨rfl, hN⟩)
    replace hT := hT.trans (hN.mono hT.size)
    refine hKK _ _ hT ?_
    clear hKK KK
    refine wpTw_b (fun KK hKK => ?_) wpTw_e
    go_wp2_with (go_at_call 39; refine (sub_any y _).mono ?_; rintro e Wn ⟨rfl, hN⟩)
    replace hT := hT.trans (hN.mono hT.size)
    refine hKK _ _ hT ?_
    clear hKK KK
    iterate 15 (
      first
      | (refine wpTw_load 32 (.tmp 12) rfl r1 0 rfl _ _ (by rfl) (fun W hS => all16 (Blk.call h1 hS) HAl.out) Try.underlying32 rfl (info32.trans (congrArg some (by rw [b8s_length, HAl.out]))) ?_)
      | (refine wpTw_load 32 (.tmp 13) rfl r2 0 rfl _ _ (by rfl) (fun W hS => all16 (Blk.call h2 hS) HBl.out) Try.underlying32 rfl (info32.trans (congrArg some (by rw [b8s_length, HBl.out]))) ?_)
      | (refine wpTw_load 32 (.tmp 7) rfl gk 0 rfl _ _ (by rfl) (fun W hS => all16 (Blk.call hk2 hS) Hk.out) Try.underlying32 rfl (info32.trans (congrArg some (by rw [b8s_length, Hk.out]))) ?_)
      | (refine wpTw_load 32 (.tmp 8) rfl ga 0 rfl _ _ (by rfl) (fun W hS => all16 (Blk.call ha2 hS) Ha.out) Try.underlying32 rfl (info32.trans (congrArg some (by rw [b8s_length, Ha.out]))) ?_)
      | (refine wpTw_load 32 (.tmp 9) rfl gb 0 rfl _ _ (by rfl) (fun W hS => all16 (Blk.call hb2 hS) Hb.out) Try.underlying32 rfl (info32.trans (congrArg some (by rw [b8s_length, Hb.out]))) ?_)
      | (refine wpTw_q (v := ?_) (by rfl) (fun W hW => ?_) ?_
         rotate_left
         · first | (go_simp; done) | (go_simp; with_reducible rfl))
      simp only [Act.put, List.setIfInBounds_toArray, List.set_cons_zero, List.set_cons_succ])
    refine wpTw_b (fun KK hKK => ?_) wpTw_e
    go_wp2_with (go_at_call 38; refine (HsA.out _ (hS.trans (hT.mono hS.size))).mono ?_; rintro e Wn ⟨rfl, hN⟩)
    replace hT := hT.trans (hN.mono hT.size)
    refine hKK _ _ hT ?_
    clear hKK KK
    iterate 6 (
      first
      | (refine wpTw_load 32 (.tmp 12) rfl r1 0 rfl _ _ (by rfl) (fun W hS => all16 (Blk.call h1 hS) HAl.out) Try.underlying32 rfl (info32.trans (congrArg some (by rw [b8s_length, HAl.out]))) ?_)
      | (refine wpTw_load 32 (.tmp 13) rfl r2 0 rfl _ _ (by rfl) (fun W hS => all16 (Blk.call h2 hS) HBl.out) Try.underlying32 rfl (info32.trans (congrArg some (by rw [b8s_length, HBl.out]))) ?_)
      | (refine wpTw_load 32 (.tmp 7) rfl gk 0 rfl _ _ (by rfl) (fun W hS => all16 (Blk.call hk2 hS) Hk.out) Try.underlying32 rfl (info32.trans (congrArg some (by rw [b8s_length, Hk.out]))) ?_)
      | (refine wpTw_load 32 (.tmp 8) rfl ga 0 rfl _ _ (by rfl) (fun W hS => all16 (Blk.call ha2 hS) Ha.out) Try.underlying32 rfl (info32.trans (congrArg some (by rw [b8s_length, Ha.out]))) ?_)
      | (refine wpTw_load 32 (.tmp 9) rfl gb 0 rfl _ _ (by rfl) (fun W hS => all16 (Blk.call hb2 hS) Hb.out) Try.underlying32 rfl (info32.trans (congrArg some (by rw [b8s_length, Hb.out]))) ?_)
      | (refine wpTw_q (v := ?_) (by rfl) (fun W hW => ?_) ?_
         rotate_left
         · first | (go_simp; done) | (go_simp; with_reducible rfl))
      simp only [Act.put, List.setIfInBounds_toArray, List.set_cons_zero, List.set_cons_succ])
    refine wpTw_b (fun KK hKK => ?_) wpTw_e
    go_wp2_with (go_at_call 37; refine (new_any key _ Hk.out).mono ?_; rintro e Wn ⟨gn, rfl, hgn, hcn, hN⟩)
    replace hT := hT.trans (hN.mono hT.size)
    refine hKK _ _ hT ?_
    clear hKK KK
    refine wpTw_b (fun KK hKK => ?_) wpTw_e
    go_wp2_with (go_at_call 38; refine (seal_any gn (cols key) b _ (cols_length key Hk.out) Hb.out hcn).mono ?_; rintro e Wn ⟨rfl, hN⟩)
    replace hT := hT.trans (hN.mono hT.size)
    refine hKK _ _ hT ?_
    clear hKK KK
    rw [show sealAt (cols key) b 10 = B from HB.out.symm]
    iterate 3 (
      first
      | (refine wpTw_load 32 (.tmp 12) rfl r1 0 rfl _ _ (by rfl) (fun W hS => all16 (Blk.call h1 hS) HAl.out) Try.underlying32 rfl (info32.trans (congrArg some (by rw [b8s_length, HAl.out]))) ?_)
      | (refine wpTw_load 32 (.tmp 13) rfl r2 0 rfl _ _ (by rfl) (fun W hS => all16 (Blk.call h2 hS) HBl.out) Try.underlying32 rfl (info32.trans (congrArg some (by rw [b8s_length, HBl.out]))) ?_)
      | (refine wpTw_load 32 (.tmp 7) rfl gk 0 rfl _ _ (by rfl) (fun W hS => all16 (Blk.call hk2 hS) Hk.out) Try.underlying32 rfl (info32.trans (congrArg some (by rw [b8s_length, Hk.out]))) ?_)
      | (refine wpTw_load 32 (.tmp 8) rfl ga 0 rfl _ _ (by rfl) (fun W hS => all16 (Blk.call ha2 hS) Ha.out) Try.underlying32 rfl (info32.trans (congrArg some (by rw [b8s_length, Ha.out]))) ?_)
      | (refine wpTw_load 32 (.tmp 9) rfl gb 0 rfl _ _ (by rfl) (fun W hS => all16 (Blk.call hb2 hS) Hb.out) Try.underlying32 rfl (info32.trans (congrArg some (by rw [b8s_length, Hb.out]))) ?_)
      | (refine wpTw_q (v := ?_) (by rfl) (fun W hW => ?_) ?_
         rotate_left
         · first | (go_simp; done) | (go_simp; with_reducible rfl))
      simp only [Act.put, List.setIfInBounds_toArray, List.set_cons_zero, List.set_cons_succ])
    refine wpTw_done ?_
    go_wp2
    go_ret
    exact ⟨rfl, hbw5.trans ((hS.trans (hT.mono hS.size)).mono hbw5.size)⟩
end Go.Proofs.Ytillnpllcfleeaa
