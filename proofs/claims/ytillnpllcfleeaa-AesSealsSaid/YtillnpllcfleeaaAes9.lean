/- The reference of layer 8: a key's columns (function 41). -/
import Derived.Test.YtillnpllcfleeaaAes2
import Derived.Test.YtillnpllcfleeaaMk
import Derived.Test.YtillnpllcfleeaaOrd3
namespace Go.Proofs.Ytillnpllcfleeaa
open Go Go.RowKit

/-- the four bytes that the new column takes up -/
def colW (l : List UInt8) (c : UInt8) (i : Nat) : List UInt8 := tab 4 fun j => colT l c i j
theorem colW_length (l : List UInt8) (c : UInt8) (i : Nat) : (colW l c i).length = 4 := tab_length _ _

theorem run_lit84 (w : World) (a b c d : UInt8) : (Instr.buildSlice 28 4 #[(0, .int .u8 (u8v a)), (1, .int .u8 (u8v b)), (2, .int .u8 (u8v c)), (3, .int .u8 (u8v d))]).run Try.prog w = .ok (.slice (some ⟨w.heap.size, 0, none⟩) 4 4) (w.alloc (.cells (b8s [a, b, c, d]).toArray 5)) := by
  obtain ⟨i, hi, hz0, hz1, hz2⟩ := info_parts info5
  simp [Instr.buildSlice, run_underlying Try.underlying28, sizeOf, typeInfo, zeroValue, hi, hz0, hz1, Instr.fill, newRow, Value.cells, show Array.range 4 = #[0, 1, 2, 3] from rfl, b8s, b8]

section
variable {ops : Array Oper} {rest : List Oper} {o : Oper} {a : Act} {w : World} {Q : Exit → Act → World → Prop}
theorem mk84 (hg : o.guard = none) (x0 x1 x2 x3 : Operand) (hop : o.op = .buildSlice 28 4 #[(0, x0), (1, x1), (2, x2), (3, x3)]) (y0 y1 y2 y3 : UInt8) (h0 : a.eval x0 = .int .u8 (u8v y0)) (h1 : a.eval x1 = .int .u8 (u8v y1))
    (h2 : a.eval x2 = .int .u8 (u8v y2)) (h3 : a.eval x3 = .int .u8 (u8v y3))
    (h : ∀ g w', w.heap.size ≤ g → g < w'.heap.size → Own w' w.heap.size (.slice (some ⟨g, 0, none⟩) 4 4) [y0, y1, y2, y3] → Below w.heap.size w w' → wpList Try.prog ops Q rest (a.put o.dst (.slice (some ⟨g, 0, none⟩) 4 4)) w') : wpList Try.prog ops Q (o :: rest) a w := by
  refine wpList_plain hg fun K hK => ?_
  unfold Oper.wp
  simp only [execOp, hop, h0, h1, h2, h3, List.map_toArray, List.map_cons, List.map_nil, Sem.run_bind, Sem.run_pure, run_lit84 w, Result.andThen_ok]
  exact hK _ _ (h _ _ (Nat.le_refl _) (by simp) (Own.new w _ (Nat.le_refl _) [y0, y1, y2, y3] 4 rfl (by decide) _ rfl) ((Below.refl _ _).alloc (Nat.le_refl _) _))
end

section
variable {ops : Array Oper} {rest : List Oper} {o : Oper} {a : Act} {w : World} {Q : Exit → Act → World → Prop}
/-- append, with where the new value lies -/
theorem app8d (hgd : o.guard = none) (s x : Operand) (ho : o.op = .call { callee := .builtin .append, args := #[s, x], argTypes := #[28, 28] })
    (base : Nat) (v : Value) (xs : List UInt8) (hs : a.eval s = v) (hown : Own w base v xs) (B : Nat) (A : Option Addr) (m c : Nat) (ys : List UInt8) (hx : a.eval x = .slice A m c) (hr : RdB w B A ys) (hm : m = ys.length)
    (hsz : xs.length + ys.length ≤ 70368744177664) (hbase : base ≤ w.heap.size)
    (h : ∀ v' w', Own w' base v' (xs ++ ys) → w.grownBy w' v.ownBlock → (v'.ownBlock = v.ownBlock ∨ v'.ownBlock = some w.heap.size) → Own w' base v xs → wpList Try.prog ops Q rest (a.put o.dst v') w') : wpList Try.prog ops Q (o :: rest) a w :=
  wpList_plain hgd fun K hK => by
    obtain ⟨v', w', hrun, h2, h3, h4, h5⟩ := run_app8o w base o.type v xs hown B A m c ys hr hm hsz hbase
    unfold Oper.wp execOp
    simp only [ho, resolve, invoke, builtin, Sem.run_bind, Sem.run_pure, Result.andThen_ok, List.map_toArray, List.map_cons, List.map_nil, hs, hx, hrun]
    exact hK _ _ (h v' w' h2 h3 h4 h5)
theorem app1d (hgd : o.guard = none) (s x : Operand) (ho : o.op = .call { callee := .builtin .append, args := #[s, x], argTypes := #[28, 28] })
    (base : Nat) (v : Value) (xs : List UInt8) (hs : a.eval s = v) (hown : Own w base v xs) (z : Int) (y : UInt8) (hz : z = u8v y) (hx : a.eval x = .slice (some ⟨w.heap.size, 0, none⟩) 1 1)
    (hsz : xs.length ≤ 70368744177663) (hbase : base ≤ w.heap.size)
    (h : ∀ v' w', Own w' base v' (xs ++ [y]) → w.grownBy w' v.ownBlock → (v'.ownBlock = v.ownBlock ∨ v'.ownBlock = some (w.heap.size + 1)) → Own w' base v xs → wpList Try.prog ops Q rest (a.put o.dst v') w') :
    wpList Try.prog ops Q (o :: rest) a (w.alloc (.cells #[.int .u8 z] 5)) := by
  subst hz
  exact app8d hgd s x ho base v xs hs (hown.alloc _) (w.heap.size + 1) _ 1 1 [y] hx (RdB.new w [y] _ rfl) rfl (by simp; omega) (by simp; omega) fun v' w' h1 h2 h3 h4 => h v' w' h1 (grownBy_drop_alloc h2) (by simpa using h3) h4
end

theorem take4 (l : List UInt8) (m : Nat) (h : l.length = m + 4) : (l.drop m).take 4 = [bAt l m, bAt l (m + 1), bAt l (m + 2), bAt l (m + 3)] := by
  have hl : (l.drop m).length = 4 := by rw [List.length_drop]; omega
  rw [List.take_of_length_le (by omega), ← Nat.add_zero m]
  rw [← bAt_drop l m 0, Nat.add_zero, ← bAt_drop l m 1, ← bAt_drop l m 2, ← bAt_drop l m 3]
  match l.drop m, hl with
  | [a, b, c, d], _ => rfl
theorem colW_turn (l : List UInt8) (c : UInt8) (i : Nat) (hi : i % 4 = 0) (h1 : 1 ≤ i) : colW l c i = [sub (bAt l (4 * i - 4 + 1)) ^^^ c, sub (bAt l (4 * i - 4 + 2)), sub (bAt l (4 * i - 4 + 3)), sub (bAt l (4 * i - 4))] := by
  have e1 : 4 * i - 3 = 4 * i - 4 + 1 := by omega
  have e2 : 4 * i - 3 + 1 = 4 * i - 4 + 2 := by omega
  have e3 : 4 * i - 3 + 2 = 4 * i - 4 + 3 := by omega
  show [colT l c i 0, colT l c i 1, colT l c i 2, colT l c i 3] = _
  simp [colT, hi, e1]
theorem colW_same (l : List UInt8) (c : UInt8) (i : Nat) (hi : ¬ i % 4 = 0) (h1 : 1 ≤ i) (hl : l.length = 4 * i) : colW l c i = (l.drop (4 * i - 4)).take 4 := by
  rw [take4 l (4 * i - 4) (by omega)]
  show [colT l c i 0, colT l c i 1, colT l c i 2, colT l c i 3] = _
  simp [colT, hi]
theorem colNew_get (l : List UInt8) (c : UInt8) (i j : Nat) (h : j < 4) : (colNew l c i).take (j + 1) = (colNew l c i).take j ++ [bAt l (4 * i - 16 + j) ^^^ bAt (colW l c i) j] := by
  have e : (colNew l c i)[j]? = some (bAt l (4 * i - 16 + j) ^^^ bAt (colW l c i) j) := by
    unfold colW
    rw [bAt_tab _ _ _ h]
    exact tab_get _ _ _ h
  rw [List.take_add_one, e]; rfl

theorem colAt_step (key : List UInt8) (q : Nat) (h : 4 ≤ q) : colAt key (q + 1 - 4) = ((colAt key (q - 4)).1 ++ colNew (colAt key (q - 4)).1 (colAt key (q - 4)).2 q, if q % 4 = 0 then twice (colAt key (q - 4)).2 else (colAt key (q - 4)).2) := by
  obtain ⟨n, rfl⟩ : ∃ n, q = n + 4 := ⟨q - 4, by omega⟩
  rw [show n + 4 + 1 - 4 = n + 1 by omega, show n + 4 - 4 = n by omega]
  rfl
theorem times_lit (c : UInt8) (w : World) : Calls Try.prog 148 #[.int .u8 (u8v c), .int .u8 2] w fun e w' => e = .returned (.int .u8 (u8v (twice c))) ∧ w' = w := by
  have h := times_any c 2 w
  have e : u8v 2 = 2 := by unfold u8v; rfl
  rwa [times_2, e] at h

set_option maxRecDepth 100000 in
set_option maxHeartbeats 4000000 in
theorem columns_any (As Ak : Option Addr) (cs ck : Nat) (key : List UInt8) (w : World) (hk : key.length = 16) (hs : RdB w w.heap.size As sbox) (hr : RdB w w.heap.size Ak key) :
    Calls Try.prog 41 #[.slice As 256 cs, .slice Ak 16 ck] w fun e w' => ∃ v, e = .returned v ∧ Own w' w.heap.size v (cols key) ∧ Below w.heap.size w w' := by
  obtain ⟨S, hS⟩ : ∃ S, S = sbox := ⟨_, rfl⟩
  have hSl : S.length = 256 := by rw [hS]; exact sbox_length
  have hsub : ∀ b : UInt8, bAt S b.toNat = sub b := by rw [hS]; exact fun b => rfl
  rw [← hS] at hs
  have HS := Lib.hid hS; clear hS
  have HSl := Lib.hid hSl; clear hSl
  have Hsub := Lib.hid hsub; clear hsub
  have Hk := Lib.hid hk; clear hk
  go_enter Try.func41, Try.ntmps41
  go_wp2_with (first
    | (refine mk80 rfl rfl ?_; intro g0 w1 h01 h02 hO0 hb1
       have hz1 := hb1.size
       have hr1 := hr.below hb1 (Nat.le_refl _))
    | (refine app8o rfl (.tmp 10) (.tmp 11) rfl w.heap.size _ [] rfl hO0 _ Ak 16 ck key rfl hr1 Hk.out.symm (by rw [Hk.out]; decide) hz1 ?_; intro v1 w2 hO1 hg1 _))
  have hb2 : Below w.heap.size w w2 := hb1.grown hg1 hz1 (fun x hx => by cases hx; exact h01)
  clear hO0 hg1 hb1 hz1 hr1 h01 h02
  rw [List.nil_append] at hO1
  have hq2 := hO1
  clear hO1
  go_loopw [5, 6, 7] (fun v5 v6 i wr => ∃ q : Nat, 4 ≤ q ∧ q ≤ 44 ∧ i = .int .i64 (q : Int) ∧ v6 = .int .u8 (u8v (colAt key (q - 4)).2) ∧ Own wr w.heap.size v5 (colAt key (q - 4)).1 ∧ Below w.heap.size w wr) (fun _ _ i _ => 44 - (intOf i).toNat)
  case atStart => exact ⟨4, by omega, by omega, rfl, by unfold u8v; rfl, hq2, hb2⟩
  case round =>
    clear hq2 hb2
    obtain ⟨q, hq4, hq44, rfl, rfl, hO, hbel⟩ := hrel
    obtain ⟨L, hL⟩ : ∃ L, L = (colAt key (q - 4)).1 := ⟨_, rfl⟩
    obtain ⟨c, hc⟩ : ∃ L, L = (colAt key (q - 4)).2 := ⟨_, rfl⟩
    obtain ⟨p, hp⟩ : ∃ p, p = 4 * q := ⟨_, rfl⟩
    have hLl : L.length = p := by rw [hL, colAt_length key Hk.out, hp]; omega
    rw [← hL] at hO
    rw [← hc]
    have HL := Lib.hid hL; clear hL
    have Hc := Lib.hid hc; clear hc
    obtain ⟨g, co, rfl, hg, hgl, hco, hmo⟩ := hO.loc (by omega)
    rw [hLl] at hO hco ⊢
    by_cases hlt : q < 44
    · have hp1 : IntKind.i64.wrap (4 * (q : Int)) = (p : Int) := by rw [IntWalk.i64_in _ (by omega)]; omega
      obtain ⟨r, hr4⟩ : ∃ r, r = p - 4 := ⟨_, rfl⟩
      have hp2 : IntKind.i64.wrap ((p : Int) - 4) = (r : Int) := by rw [IntWalk.i64_in _ (by omega)]; omega
      have hsl : ∀ W, (Instr.slice 28 (.slice (some ⟨g, 0, none⟩) p co) (some (.int .i64 (r : Int))) (some (.int .i64 (p : Int))) none).run Try.prog W = .ok (.slice (cutA (some ⟨g, 0, none⟩) 1 r co) 4 (co - r)) W := fun W => by
        rw [slice28_lh', if_pos (by omega)]
        congr 2 <;> omega
      have hT := (hO.rd).cutlh (lo := r) (n := 4) (cap := co) (by omega) (by omega)
      obtain ⟨T, hTd⟩ : ∃ T, T = (L.drop r).take 4 := ⟨_, rfl⟩
      rw [← hTd] at hT
      have hTl : T.length = 4 := by rw [hTd, List.length_take, List.length_drop]; omega
      have HT := Lib.hid hTd; clear hTd
      have HTl := Lib.hid hTl; clear hTl
      have hwz := hbel.size
      have HP := Lib.hid hp; clear hp
      have HR := Lib.hid hr4; clear hr4
      have HLl := Lib.hid hLl; clear hLl
      have hqm : (q : Int).tmod 4 = (q : Int) % 4 := Int.tmod_eq_emod_of_nonneg (by omega)
      by_cases hq0 : q % 4 = 0
      · have hqb : ((q : Int) % 4 == 0) = true := by rw [beq_iff_eq]; omega
        go_wp2_with (first
          | (refine mk80 rfl rfl ?_; intro g8 w3 h81 h82 hO8 hb3
             have hO3 := hO.below hb3 (Nat.le_refl _)
             have hT3 := hT.below hb3 (Nat.le_refl _)
             have hz3 := hb3.size)
          | (refine app8d rfl (.tmp 17) (.tmp 24) rfl w.heap.size (.slice (some ⟨g8, 0, none⟩) 0 0) [] (by rfl) (hO8.wk hwz) _ _ 4 (co - r) T (by rfl) hT3 HTl.out.symm (by rw [HTl.out]; decide) (Nat.le_trans hwz hz3) ?_; intro v8 w4 hO9 hg4 hd4 _))
        rw [List.nil_append] at hO9
        have hO4 := hO3.kept hg4 (.inr (by simp [Value.ownBlock]; omega))
        have hbe4 : Below w.heap.size w w4 := (hbel.trans (hb3.mono hwz)).grown hg4 (Nat.le_trans hwz hz3) (fun x hx => by have e : g8 = x := (by simpa [Value.ownBlock] using hx); omega)
        obtain ⟨gs, oo, rfl, hgs, _⟩ := hs.all (by rw [HSl.out]; decide)
        obtain ⟨g9, c9, rfl, hg9, hl9, hc9, hm9⟩ := hO9.loc (by rw [HTl.out]; decide)
        rw [HTl.out] at hO9 hc9 ⊢
        have hzw4 := hbe4.size
        have hgl4 : g < w4.heap.size := (hO4.bs).2
        clear hO hT hO8 hb3 hO3 hT3 hg4 hd4 hbel hg9 hl9
        have tT : T = [bAt T 0, bAt T 1, bAt T 2, bAt T 3] := by
          have := take4 T 0 (by rw [HTl.out])
          rwa [List.drop_zero, List.take_of_length_le (by rw [HTl.out]; exact Nat.le_refl _)] at this
        obtain ⟨x0, hx0⟩ : ∃ x, x = bAt T 0 := ⟨_, rfl⟩
        obtain ⟨x1, hx1⟩ : ∃ x, x = bAt T 1 := ⟨_, rfl⟩
        obtain ⟨x2, hx2⟩ : ∃ x, x = bAt T 2 := ⟨_, rfl⟩
        obtain ⟨x3, hx3⟩ : ∃ x, x = bAt T 3 := ⟨_, rfl⟩
        have hVe : [sub x1 ^^^ c, sub x2, sub x3, sub x0] = colW L c q := by
          rw [colW_turn L c q hq0 (by omega), hx0, hx1, hx2, hx3, HT.out, HR.out, HP.out]
          rw [bAt_take _ _ _ (by decide), bAt_take _ _ _ (by decide), bAt_take _ _ _ (by decide), bAt_take _ _ _ (by decide), bAt_drop, bAt_drop, bAt_drop, bAt_drop]; rfl
        have cc : ∀ W, Below w4.heap.size w4 W → ∀ j, j < 4 → W.cell? ⟨g9, j, none⟩ = some (.int .u8 (u8v (bAt T j))) := fun W hW j hj => (hO9.below hW (Nat.le_refl _)).at j (by rw [HTl.out]; exact hj)
        have c0 : ∀ W, Below w4.heap.size w4 W → W.cell? ⟨g9, 0, none⟩ = some (.int .u8 (u8v x0)) := fun W hW => by rw [hx0]; exact cc W hW 0 (by decide)
        have c1 : ∀ W, Below w4.heap.size w4 W → W.cell? ⟨g9, 1, none⟩ = some (.int .u8 (u8v x1)) := fun W hW => by rw [hx1]; exact cc W hW 1 (by decide)
        have c2 : ∀ W, Below w4.heap.size w4 W → W.cell? ⟨g9, 2, none⟩ = some (.int .u8 (u8v x2)) := fun W hW => by rw [hx2]; exact cc W hW 2 (by decide)
        have c3 : ∀ W, Below w4.heap.size w4 W → W.cell? ⟨g9, 3, none⟩ = some (.int .u8 (u8v x3)) := fun W hW => by rw [hx3]; exact cc W hW 3 (by decide)
        have dd : ∀ W, Below w4.heap.size w4 W → ∀ x : UInt8, W.cell? ⟨gs, oo + x.toNat, none⟩ = some (.int .u8 (u8v (sub x))) := fun W hW x => by
          obtain ⟨b, off, e, _, hc⟩ := (hs.below (hbe4.trans (hW.mono hzw4)) (Nat.le_refl _)).all (by rw [HSl.out]; decide)
          injection e with e
          injection e with e1 e2
          subst e1 e2
          rw [hc x.toNat (by rw [HSl.out]; exact x.toNat_lt), bAt_elem, Hsub.out]
        have d0 : ∀ W, Below w4.heap.size w4 W → W.cell? ⟨gs, oo + x0.toNat, none⟩ = some (.int .u8 (u8v (sub x0))) := fun W hW => dd W hW x0
        have d1 : ∀ W, Below w4.heap.size w4 W → W.cell? ⟨gs, oo + x1.toNat, none⟩ = some (.int .u8 (u8v (sub x1))) := fun W hW => dd W hW x1
        have d2 : ∀ W, Below w4.heap.size w4 W → W.cell? ⟨gs, oo + x2.toNat, none⟩ = some (.int .u8 (u8v (sub x2))) := fun W hW => dd W hW x2
        have d3 : ∀ W, Below w4.heap.size w4 W → W.cell? ⟨gs, oo + x3.toNat, none⟩ = some (.int .u8 (u8v (sub x3))) := fun W hW => dd W hW x3
        obtain ⟨m01, m02⟩ := u8v_lt x0
        obtain ⟨m11, m12⟩ := u8v_lt x1
        obtain ⟨m21, m22⟩ := u8v_lt x2
        obtain ⟨m31, m32⟩ := u8v_lt x3
        have n0 : (u8v x0).toNat = x0.toNat := by unfold u8v; rfl
        have n1 : (u8v x1).toNat = x1.toNat := by unfold u8v; rfl
        have n2 : (u8v x2).toNat = x2.toNat := by unfold u8v; rfl
        have n3 : (u8v x3).toNat = x3.toNat := by unfold u8v; rfl
        clear hx0 hx1 hx2 hx3 cc dd tT
        obtain ⟨V, hV⟩ : ∃ V, V = colW L c q := ⟨_, rfl⟩
        have hVl : V.length = 4 := by rw [hV]; exact colW_length _ _ _
        rw [← hV] at hVe
        have HVe := Lib.hid hVe; clear hVe
        have HV := Lib.hid hV; clear hV
        have HVl := Lib.hid hVl; clear hVl
        refine wp_region_ordW (fun W => Below w4.heap.size w4 W) (.q 0 <| .q 1 <| .q 2 <| .q 3 <| .q 4 <| .q 5 <| .q 6 <| .q 7 <| .q 8 <| .q 9 <| .q 10 <| .q 11 <| .q 12 <| .q 13 <| .q 14 <| .q 15 <| .q 16 <| .q 17 <| .q 18 <| .q 19 <| .q 20 <| .q 21 <| .q 22 <| .q 23 <| .q 24 <| .q 25 <| .m 26 <| .q 27 <| .done) (by kernel_rfl) (by kernel_rfl) (by kernel_rfl) (Below.refl _ _).drew ?_
        intro W0 hW0
        simp only [tr, List.getElem?_cons_succ, List.getElem?_cons_zero]
        iterate 26 (
          (refine wpTr_q (v := ?_) (by rfl) (fun W hW => ?_) ?_
           rotate_left
           · first | (go_simp; done) | (go_simp; with_reducible rfl)
           simp only [Act.put, List.setIfInBounds_toArray, List.set_cons_zero, List.set_cons_succ]))
        refine wpTr_m (fun K hK => ?_)
        refine mk84 (by rfl) (.tmp 36) (.tmp 42) (.tmp 48) (.tmp 54) (by rfl) (sub x1 ^^^ c) (sub x2) (sub x3) (sub x0) (by rfl) (by rfl) (by rfl) (by rfl) ?_
        intro g84 w5 h841 h842 hO84 hb5
        have hW5 := hW0.trans (hb5.mono hW0.size)
        rw [HVe.out] at hO84
        go_wp2
        refine hK _ _ hW5 ?_
        clear hK K
        refine wpTr_q (by rfl) (fun W hW => by go_simp; with_reducible rfl) ?_
        refine wpTr_done ?_
        have hz40 := hW0.size
        replace hO9 := hO84.wk (Nat.le_trans hzw4 hW0.size)
        replace hO4 := hO4.below hW5 (Nat.le_refl _)
        replace hbe4 := hbe4.trans (hW5.mono hzw4)
        have h84g : g84 ≠ g := by omega
        clear hW0 hW5 hO84 hb5 c0 c1 c2 c3 d0 d1 d2 d3 m01 m02 m11 m12 m21 m22 m31 m32 n0 n1 n2 n3
        go_wp2_with (go_at_call 148; refine (times_lit c _).mono ?_; rintro e w6 ⟨rfl, rfl⟩)
        go_loopw [5, 9] (fun v5 i wu => ∃ j : Nat, j ≤ 4 ∧ i = .int .i64 (j : Int) ∧ Own wu w.heap.size v5 (L ++ (colNew L c q).take j) ∧ Own wu w.heap.size (.slice (some ⟨g84, 0, none⟩) 4 4) V ∧ v5.ownBlock ≠ some g84 ∧ Below w.heap.size w wu) (fun _ i _ => 4 - (intOf i).toNat)
        case atStart => exact ⟨0, by omega, rfl, by rw [List.take_zero, List.append_nil]; exact hO4, hO9, by simp [Value.ownBlock]; exact h84g.symm, hbe4⟩
        case round =>
          clear hO4 hO9 hbe4
          obtain ⟨j, hj, rfl, hA, hB, hne, hbl⟩ := hrel
          obtain ⟨X, hX⟩ : ∃ X, X = L ++ (colNew L c q).take j := ⟨_, rfl⟩
          obtain ⟨n5, hn5⟩ : ∃ n5, n5 = p + j := ⟨_, rfl⟩
          have hXl : X.length = n5 := by rw [hX, List.length_append, HLl.out, List.length_take, colNew, tab_length, hn5]; omega
          rw [← hX] at hA
          obtain ⟨g5, c5, rfl, hg5, hl5, hc5, hm5⟩ := hA.loc (by rw [hXl, hn5, HP.out]; omega)
          rw [hXl] at hA hc5 ⊢
          have hneq : g5 ≠ g84 := by simpa [Value.ownBlock] using hne
          clear hne
          have hPo := HP.out
          by_cases hlt2 : j < 4
          · obtain ⟨r16, e16⟩ : ∃ r16, r16 = p - 16 := ⟨_, rfl⟩
            obtain ⟨t, et⟩ : ∃ t, t = r16 + j := ⟨_, rfl⟩
            have hw1 : IntKind.i64.wrap ((p : Int) - 16) = (r16 : Int) := by rw [IntWalk.i64_in _ (by omega)]; omega
            have hw2 : IntKind.i64.wrap ((r16 : Int) + (j : Int)) = (t : Int) := by rw [IntWalk.i64_in _ (by omega)]; omega
            have i0 : (0 : Int) ≤ (t : Int) ∧ (t : Int) < (n5 : Int) := by omega
            have i1 : (0 : Int) ≤ (j : Int) ∧ (j : Int) < 4 := by omega
            have hyd : X ++ [bAt X t ^^^ bAt V j] = L ++ (colNew L c q).take (j + 1) := by
              rw [colNew_get L c q j hlt2, ← List.append_assoc, ← hX, ← HV.out]
              congr 3
              rw [hX, bAt_append_left _ _ _ (by rw [HLl.out]; omega)]
              congr 1
              omega
            have Hyd := Lib.hid hyd; clear hyd
            have k1 : ∀ W, (Below w.heap.size w W ∧ Own W w.heap.size (.slice (some ⟨g5, 0, none⟩) n5 c5) X ∧ Own W w.heap.size (.slice (some ⟨g84, 0, none⟩) 4 4) V) → W.cell? ⟨g5, t, none⟩ = some (.int .u8 (u8v (bAt X t))) := fun W hW => hW.2.1.at t (by rw [hXl]; omega)
            have k2 : ∀ W, (Below w.heap.size w W ∧ Own W w.heap.size (.slice (some ⟨g5, 0, none⟩) n5 c5) X ∧ Own W w.heap.size (.slice (some ⟨g84, 0, none⟩) 4 4) V) → W.cell? ⟨g84, j, none⟩ = some (.int .u8 (u8v (bAt V j))) := fun W hW => hW.2.2.at j (by rw [HVl.out]; omega)
            have hnn : n5 ≤ 180 := by omega
            have HX := Lib.hid hX; clear hX
            have HN := Lib.hid hn5; clear hn5
            have HXl := Lib.hid hXl; clear hXl
            have HE := Lib.hid e16; clear e16
            have HT2 := Lib.hid et; clear et
            clear hPo
            go_wp2
            refine wp_region_ordW (fun W => Below w.heap.size w W ∧ Own W w.heap.size (.slice (some ⟨g5, 0, none⟩) n5 c5) X ∧ Own W w.heap.size (.slice (some ⟨g84, 0, none⟩) 4 4) V) (.q 0 <| .q 1 <| .q 2 <| .q 3 <| .q 4 <| .q 5 <| .q 6 <| .q 7 <| .q 8 <| .q 9 <| .q 10 <| .q 11 <| .q 12 <| .q 13 <| .m 14 <| .m 15 <| .q 16 <| .done) (by kernel_rfl) (by kernel_rfl) (by kernel_rfl) ⟨hbl.drew, hA, hB⟩ ?_
            intro W0 hW0
            obtain ⟨hbW, hOW, hBW⟩ := hW0
            have hbz := hbW.size
            simp only [tr, List.getElem?_cons_succ, List.getElem?_cons_zero]
            iterate 14 (
              (refine wpTr_q (v := ?_) (by rfl) (fun W hW => ?_) ?_
               rotate_left
               · first | (go_simp; done) | (go_simp; with_reducible rfl)
               simp only [Act.put, List.setIfInBounds_toArray, List.set_cons_zero, List.set_cons_succ]))
            refine wpTr_m (fun K hK => ?_)
            go_wp2
            refine hK _ _ ⟨hbW.alloc hbz _, hOW.alloc _, hBW.alloc _⟩ ?_
            clear hK K
            refine wpTr_m (fun K hK => ?_)
            refine app1d (by rfl) (.tmp 62) (.tmp 76) (by rfl) w.heap.size (.slice (some ⟨g5, 0, none⟩) n5 c5) X (by rfl) hOW _ (bAt X t ^^^ bAt V j) (by rfl) (by rfl) (by rw [HXl.out]; omega) hbz ?_
            intro v5 w5 hA5 hg5' hd5 hold
            have hb5 : Below w.heap.size w w5 := hbW.grown hg5' hbz (fun x hx => by have e : g5 = x := (by simpa [Value.ownBlock] using hx); omega)
            have hB5 : Own w5 w.heap.size (.slice (some ⟨g84, 0, none⟩) 4 4) V := hBW.kept hg5' (.inr (by simp [Value.ownBlock]; exact fun h => hneq h.symm))
            have hn9 : v5.ownBlock ≠ some g84 := by
              have := (hBW.bs).2
              rcases hd5 with h | h
              · rw [h]; simp [Value.ownBlock]; exact hneq
              · rw [h]; simp; omega
            go_wp2
            refine hK _ _ ⟨hb5, hold, hB5⟩ ?_
            clear hK K
            refine wpTr_q (by rfl) (fun W hW => by go_simp; with_reducible rfl) ?_
            refine wpTr_done ?_
            go_wp2
            rw [Hyd.out] at hA5
            go_roundw
            case rel => exact ⟨j + 1, hlt2, by go_num, hA5, hB5, hn9, hb5⟩
            case measure => simp [intOf]; omega
          · have e4 : j = 4 := by omega
            subst e4
            have hXe : X = L ++ colNew L c q := by rw [hX, List.take_of_length_le (by rw [colNew, tab_length]; exact Nat.le_refl _)]
            have HX := Lib.hid hX; clear hX
            have HN := Lib.hid hn5; clear hn5
            have HXe := Lib.hid hXe; clear hXe
            clear hPo
            go_wp2
            go_roundw
            case rel =>
              refine ⟨q + 1, by omega, by omega, by go_num, ?_, ?_, hbl⟩
              · rw [colAt_step key q hq4, ← HL.out, ← Hc.out, if_pos hq0]
              · rw [colAt_step key q hq4, ← HL.out, ← Hc.out, ← HXe.out]
                exact hA
            case measure => simp [intOf]; omega
      · have hqb : ((q : Int) % 4 == 0) = false := by rw [beq_eq_false_iff_ne]; omega
        go_wp2_with (first
          | (refine mk80 rfl rfl ?_; intro g8 w3 h81 h82 hO8 hb3
             have hO3 := hO.below hb3 (Nat.le_refl _)
             have hT3 := hT.below hb3 (Nat.le_refl _)
             have hz3 := hb3.size)
          | (refine app8d rfl (.tmp 17) (.tmp 24) rfl w.heap.size (.slice (some ⟨g8, 0, none⟩) 0 0) [] (by rfl) (hO8.wk hwz) _ _ 4 (co - r) T (by rfl) hT3 HTl.out.symm (by rw [HTl.out]; decide) (Nat.le_trans hwz hz3) ?_; intro v8 w4 hO9 hg4 hd4 _))
        rw [List.nil_append] at hO9
        have hO4 := hO3.kept hg4 (.inr (by simp [Value.ownBlock]; omega))
        have hbe4 : Below w.heap.size w w4 := (hbel.trans (hb3.mono hwz)).grown hg4 (Nat.le_trans hwz hz3) (fun x hx => by have e : g8 = x := (by simpa [Value.ownBlock] using hx); omega)
        have hTw : T = colW L c q := by rw [colW_same L c q hq0 (by omega) (by rw [HLl.out, HP.out]), HT.out, HR.out, HP.out]
        obtain ⟨g9, c9, rfl, hg9, hl9, hc9, hm9⟩ := hO9.loc (by rw [HTl.out]; decide)
        have h89 : g9 ≠ g := by
          rcases hd4 with h | h
          · simp [Value.ownBlock] at h; omega
          · simp [Value.ownBlock] at h; omega
        clear hO hT hO8 hb3 hO3 hT3 hg4 hd4 hbel hg9 hl9
        rw [HTl.out] at hO9 hc9
        rw [hTw] at hO9
        obtain ⟨V, hV⟩ : ∃ V, V = colW L c q := ⟨_, rfl⟩
        have hVl : V.length = 4 := by rw [hV]; exact colW_length _ _ _
        rw [← hV] at hO9
        have HV := Lib.hid hV; clear hV
        have HVl := Lib.hid hVl; clear hVl
        rw [HTl.out]
        clear hTw
        go_loopw [5, 9] (fun v5 i wu => ∃ j : Nat, j ≤ 4 ∧ i = .int .i64 (j : Int) ∧ Own wu w.heap.size v5 (L ++ (colNew L c q).take j) ∧ Own wu w.heap.size (.slice (some ⟨g9, 0, none⟩) 4 c9) V ∧ v5.ownBlock ≠ some g9 ∧ Below w.heap.size w wu) (fun _ i _ => 4 - (intOf i).toNat)
        case atStart => exact ⟨0, by omega, rfl, by rw [List.take_zero, List.append_nil]; exact hO4, hO9, by simp [Value.ownBlock]; exact h89.symm, hbe4⟩
        case round =>
          clear hO4 hO9 hbe4
          obtain ⟨j, hj, rfl, hA, hB, hne, hbl⟩ := hrel
          obtain ⟨X, hX⟩ : ∃ X, X = L ++ (colNew L c q).take j := ⟨_, rfl⟩
          obtain ⟨n5, hn5⟩ : ∃ n5, n5 = p + j := ⟨_, rfl⟩
          have hXl : X.length = n5 := by rw [hX, List.length_append, HLl.out, List.length_take, colNew, tab_length, hn5]; omega
          rw [← hX] at hA
          obtain ⟨g5, c5, rfl, hg5, hl5, hc5, hm5⟩ := hA.loc (by rw [hXl, hn5, HP.out]; omega)
          rw [hXl] at hA hc5 ⊢
          have hneq : g5 ≠ g9 := by simpa [Value.ownBlock] using hne
          clear hne
          have hPo := HP.out
          by_cases hlt2 : j < 4
          · obtain ⟨r16, e16⟩ : ∃ r16, r16 = p - 16 := ⟨_, rfl⟩
            obtain ⟨t, et⟩ : ∃ t, t = r16 + j := ⟨_, rfl⟩
            have hw1 : IntKind.i64.wrap ((p : Int) - 16) = (r16 : Int) := by rw [IntWalk.i64_in _ (by omega)]; omega
            have hw2 : IntKind.i64.wrap ((r16 : Int) + (j : Int)) = (t : Int) := by rw [IntWalk.i64_in _ (by omega)]; omega
            have i0 : (0 : Int) ≤ (t : Int) ∧ (t : Int) < (n5 : Int) := by omega
            have i1 : (0 : Int) ≤ (j : Int) ∧ (j : Int) < 4 := by omega
            have hyd : X ++ [bAt X t ^^^ bAt V j] = L ++ (colNew L c q).take (j + 1) := by
              rw [colNew_get L c q j hlt2, ← List.append_assoc, ← hX, ← HV.out]
              congr 3
              rw [hX, bAt_append_left _ _ _ (by rw [HLl.out]; omega)]
              congr 1
              omega
            have Hyd := Lib.hid hyd; clear hyd
            have k1 : ∀ W, (Below w.heap.size w W ∧ Own W w.heap.size (.slice (some ⟨g5, 0, none⟩) n5 c5) X ∧ Own W w.heap.size (.slice (some ⟨g9, 0, none⟩) 4 c9) V) → W.cell? ⟨g5, t, none⟩ = some (.int .u8 (u8v (bAt X t))) := fun W hW => hW.2.1.at t (by rw [hXl]; omega)
            have k2 : ∀ W, (Below w.heap.size w W ∧ Own W w.heap.size (.slice (some ⟨g5, 0, none⟩) n5 c5) X ∧ Own W w.heap.size (.slice (some ⟨g9, 0, none⟩) 4 c9) V) → W.cell? ⟨g9, j, none⟩ = some (.int .u8 (u8v (bAt V j))) := fun W hW => hW.2.2.at j (by rw [HVl.out]; omega)
            have hnn : n5 ≤ 180 := by omega
            have HX := Lib.hid hX; clear hX
            have HN := Lib.hid hn5; clear hn5
            have HXl := Lib.hid hXl; clear hXl
            have HE := Lib.hid e16; clear e16
            have HT2 := Lib.hid et; clear et
            clear hPo
            go_wp2
            refine wp_region_ordW (fun W => Below w.heap.size w W ∧ Own W w.heap.size (.slice (some ⟨g5, 0, none⟩) n5 c5) X ∧ Own W w.heap.size (.slice (some ⟨g9, 0, none⟩) 4 c9) V) (.q 0 <| .q 1 <| .q 2 <| .q 3 <| .q 4 <| .q 5 <| .q 6 <| .q 7 <| .q 8 <| .q 9 <| .q 10 <| .q 11 <| .q 12 <| .q 13 <| .m 14 <| .m 15 <| .q 16 <| .done) (by kernel_rfl) (by kernel_rfl) (by kernel_rfl) ⟨hbl.drew, hA, hB⟩ ?_
            intro W0 hW0
            obtain ⟨hbW, hOW, hBW⟩ := hW0
            have hbz := hbW.size
            simp only [tr, List.getElem?_cons_succ, List.getElem?_cons_zero]
            iterate 14 (
              (refine wpTr_q (v := ?_) (by rfl) (fun W hW => ?_) ?_
               rotate_left
               · first | (go_simp; done) | (go_simp; with_reducible rfl)
               simp only [Act.put, List.setIfInBounds_toArray, List.set_cons_zero, List.set_cons_succ]))
            refine wpTr_m (fun K hK => ?_)
            go_wp2
            refine hK _ _ ⟨hbW.alloc hbz _, hOW.alloc _, hBW.alloc _⟩ ?_
            clear hK K
            refine wpTr_m (fun K hK => ?_)
            refine app1d (by rfl) (.tmp 62) (.tmp 76) (by rfl) w.heap.size (.slice (some ⟨g5, 0, none⟩) n5 c5) X (by rfl) hOW _ (bAt X t ^^^ bAt V j) (by rfl) (by rfl) (by rw [HXl.out]; omega) hbz ?_
            intro v5 w5 hA5 hg5' hd5 hold
            have hb5 : Below w.heap.size w w5 := hbW.grown hg5' hbz (fun x hx => by have e : g5 = x := (by simpa [Value.ownBlock] using hx); omega)
            have hB5 : Own w5 w.heap.size (.slice (some ⟨g9, 0, none⟩) 4 c9) V := hBW.kept hg5' (.inr (by simp [Value.ownBlock]; exact fun h => hneq h.symm))
            have hn9 : v5.ownBlock ≠ some g9 := by
              have := (hBW.bs).2
              rcases hd5 with h | h
              · rw [h]; simp [Value.ownBlock]; exact hneq
              · rw [h]; simp; omega
            go_wp2
            refine hK _ _ ⟨hb5, hold, hB5⟩ ?_
            clear hK K
            refine wpTr_q (by rfl) (fun W hW => by go_simp; with_reducible rfl) ?_
            refine wpTr_done ?_
            go_wp2
            rw [Hyd.out] at hA5
            go_roundw
            case rel => exact ⟨j + 1, hlt2, by go_num, hA5, hB5, hn9, hb5⟩
            case measure => simp [intOf]; omega
          · have e4 : j = 4 := by omega
            subst e4
            have hXe : X = L ++ colNew L c q := by rw [hX, List.take_of_length_le (by rw [colNew, tab_length]; exact Nat.le_refl _)]
            have HX := Lib.hid hX; clear hX
            have HN := Lib.hid hn5; clear hn5
            have HXe := Lib.hid hXe; clear hXe
            clear hPo
            go_wp2
            go_roundw
            case rel =>
              refine ⟨q + 1, by omega, by omega, by go_num, ?_, ?_, hbl⟩
              · rw [colAt_step key q hq4, ← HL.out, ← Hc.out, if_neg hq0]
              · rw [colAt_step key q hq4, ← HL.out, ← Hc.out, ← HXe.out]
                exact hA
            case measure => simp [intOf]; omega
    · have e44 : q = 44 := by omega
      subst e44
      go_wp2
      go_ret
      refine ⟨_, rfl, ?_, hbel⟩
      rw [show cols key = L from HL.out.symm]
      exact hO
end Go.Proofs.Ytillnpllcfleeaa
