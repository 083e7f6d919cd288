/- Walks of layer 8: a key's round keys. -/
import Derived.Test.YtillnpllcfleeaaAes4
namespace Go.Proofs.Ytillnpllcfleeaa
open Go Go.RowKit

/-! the columns, told by their places -/
theorem colAt_prefix (key : List UInt8) (h : key.length = 16) (n d m : Nat) (hm : m < 16 + 4 * n) : bAt (colAt key (n + d)).1 m = bAt (colAt key n).1 m := by
  induction d with
  | zero => rfl
  | succ d ih =>
    rw [← Nat.add_assoc, colAt]
    show bAt ((colAt key (n + d)).1 ++ _) m = _
    rw [bAt_append_left _ _ _ (by rw [colAt_length key h]; omega), ih]
theorem cols_at (key : List UInt8) (h : key.length = 16) (n m : Nat) (hn : n ≤ 40) (hm : m < 16 + 4 * n) : bAt (cols key) m = bAt (colAt key n).1 m := by
  have := colAt_prefix key h n (40 - n) m hm
  rwa [show n + (40 - n) = 40 by omega] at this
theorem cols_key (key : List UInt8) (h : key.length = 16) (m : Nat) (hm : m < 16) : bAt (cols key) m = bAt key m := cols_at key h 0 m (by omega) (by omega)
theorem colT_at (key : List UInt8) (h : key.length = 16) (n j : Nat) (hn : n ≤ 40) (hj : j < 4) (c : UInt8) : colT (colAt key n).1 c (n + 4) j = colT (cols key) c (n + 4) j := by
  have e : ∀ m, m < 16 + 4 * n → bAt (colAt key n).1 m = bAt (cols key) m := fun m hm => (cols_at key h n m hn hm).symm
  unfold colT
  rw [e (4 * (n + 4) - 3) (by omega), e (4 * (n + 4) - 4) (by omega), e (4 * (n + 4) - 4 + j) (by omega)]
  by_cases h3 : j = 3
  · have a0 : ¬ j = 0 := by omega
    simp only [if_neg a0, if_pos h3]
  · rw [e (4 * (n + 4) - 3 + j) (by omega)]
theorem cols_step (key : List UInt8) (h : key.length = 16) (n j : Nat) (hn : n < 40) (hj : j < 4) :
    bAt (cols key) (4 * (n + 4) + j) = bAt (cols key) (4 * (n + 4) - 16 + j) ^^^ colT (cols key) (colAt key n).2 (n + 4) j := by
  have hl := colAt_length key h n
  rw [cols_at key h (n + 1) _ (by omega) (by omega), colAt]
  show bAt ((colAt key n).1 ++ _) _ = _
  rw [bAt_append_right _ _ _ (by omega), hl, show 4 * (n + 4) + j - (16 + 4 * n) = j by omega, colNew, bAt_tab _ _ _ hj, colT_at key h n j (by omega) hj,
    cols_at key h n (4 * (n + 4) - 16 + j) (by omega) (by omega)]
theorem cols_take (key : List UInt8) (h : key.length = 16) : (cols key).take 16 = key := by
  refine bAt_ext _ _ (by rw [List.length_take, cols_length key h, h]; rfl) fun i hi => ?_
  rw [List.length_take, cols_length key h] at hi
  rw [bAt_take _ _ _ (by omega), cols_key key h i (by omega)]
theorem cols_cut (key : List UInt8) (h : key.length = 16) (j : Nat) (hj : j < 4) : (((key.drop (4 * j)).take (16 - 4 * j)).take 4) = ((cols key).drop (4 * j)).take 4 := by
  conv => lhs; rw [← cols_take key h]
  rw [List.take_take, List.drop_take, List.take_take]
  congr 1; omega
theorem colC_step (key : List UInt8) (n : Nat) : (colAt key (n + 1)).2 = if (n + 4) % 4 = 0 then twice (colAt key n).2 else (colAt key n).2 := rfl

theorem info295 : (Try.prog.info? 295).map (·.size) = some 176 := by kernel_rfl
theorem zero295 : ((Try.prog.info? 295).bind (·.zero)).map (·.cells) = some (b8s (List.replicate 176 0)).toArray := by kernel_rfl
theorem info40 : (Try.prog.info? 40).map (·.size) = some 176 := by kernel_rfl
theorem zero40 : ((Try.prog.info? 40).bind (·.zero)).map (·.cells) = some (b8s (List.replicate 176 0)).toArray := by kernel_rfl
theorem info253 : (Try.prog.info? 253).map (·.size) = some 4 := by kernel_rfl
theorem zero253 : ((Try.prog.info? 253).bind (·.zero)).map (·.cells) = some (b8s (List.replicate 4 0)).toArray := by kernel_rfl

set_option maxRecDepth 100000 in
set_option maxHeartbeats 4000000 in
theorem keys_any (gb : Nat) (key : List UInt8) (w : World) (hk : key.length = 16) (hgb : gb < w.heap.size) (hbx : ∀ i, i < 256 → w.cell? ⟨gb, i, none⟩ = some (.int .u8 (u8v (bAt sbox i)))) :
    Calls Try.prog 144 #[.pointer (some ⟨gb, 0, none⟩), .agg (b8s key).toArray] w fun e w' => e = .returned (.agg (b8s (cols key)).toArray) ∧ Below w.heap.size w w' := by
  obtain ⟨Z, hZ⟩ : ∃ Z, Z = (b8s (List.replicate 176 0)).toArray := ⟨_, rfl⟩
  have hz := zero40
  have hz' := zero295
  rw [← hZ] at hz hz'
  have HZ := Lib.hid hZ; clear hZ
  have Hz := Lib.hid hz; clear hz
  have Hz' := Lib.hid hz'; clear hz'
  obtain ⟨C, hC⟩ : ∃ C, C = cols key := ⟨_, rfl⟩
  have hCl : C.length = 176 := by rw [hC]; exact cols_length key hk
  have hcut : ∀ j, j < 4 → (((key.drop (4 * j)).take (16 - 4 * j)).take 4) = (C.drop (4 * j)).take 4 := by rw [hC]; exact cols_cut key hk
  have hkey : ∀ n j, n < 40 → j < 4 → bAt C (4 * (n + 4) + j) = bAt C (4 * (n + 4) - 16 + j) ^^^ colT C (colAt key n).2 (n + 4) j := by rw [hC]; exact cols_step key hk
  have Hcut := Lib.hid hcut; clear hcut
  have Hkey := Lib.hid hkey; clear hkey
  have HC := Lib.hid hC; clear hC
  have HCl := Lib.hid hCl; clear hCl
  have Hk := Lib.hid hk; clear hk
  have Hbx := Lib.hid hbx; clear hbx
  go_enter Try.func144, Try.ntmps144
  go_wp2_with (first
    | (refine box_abs rfl 32 (.tmp 1) rfl (b8s key).toArray rfl ?_; intro gk w1 hgk1 hgk2 hgk hb1
       have hz1 := hb1.size)
    | (refine alloc_abs rfl 40 rfl Z Hz.out ?_; intro r w2 hr1 hr2 hr hb2
       have hkA := hgk.call hb2
       have hz2 := hb2.size)
    | (refine alloc_abs rfl 295 rfl Z Hz'.out ?_; intro gw w3 hgw1 hgw2 hgw hb3
       have hkB := hkA.call hb3
       have hrB := hr.call hb3
       have hz3 := hb3.size
       rw [HZ.out] at hgw
       have hbw3 : Below w.heap.size w w3 := hb1.trans ((hb2.mono hz1).trans (hb3.mono (Nat.le_trans hz1 hz2)))))
  clear hgk hb1 hb2 hb3 hkA hr
  go_loopw [14] (fun i wr => ∃ j : Nat, j ≤ 4 ∧ i = .int .i64 j ∧ BlB wr gw 295 (mixTo (4 * j) C (List.replicate 176 0)) ∧ Below gw w3 wr) (fun i _ => 4 - (intOf i).toNat)
  case atStart => exact ⟨0, by omega, rfl, by rw [Nat.mul_zero, mixTo_zero]; exact hgw, Below.refl _ _⟩
  case round =>
    clear hgw
    obtain ⟨j, hj, rfl, hW, hbel⟩ := hrel
    by_cases hlt : j < 4
    · have hkR := hkB.below hbel (by omega)
      have hkr : RdB wr wr.heap.size (some ⟨gk, 4 * j, none⟩) ((key.drop (4 * j)).take (16 - 4 * j)) := BlB.rd hkR (4 * j) (16 - 4 * j) (by rw [Hk.out]; omega)
      have hmul : IntKind.i64.wrap (4 * (j : Int)) = 4 * (j : Int) := by rw [IntWalk.i64_in _ (by omega)]
      have hs1 : ∀ W, (Instr.sliceAt 253 (.pointer (some ⟨gw, j * 4, none⟩)) none none none).run Try.prog W = .ok (.slice (some ⟨gw, j * 4, none⟩) 4 4) W := fun W => cutP_all Try.underlying253 W gw (j * 4)
      have hs2 : ∀ W, (Instr.sliceAt 32 (.pointer (some ⟨gk, 0, none⟩)) (some (.int .i64 (4 * (j : Int)))) none none).run Try.prog W = .ok (.slice (some ⟨gk, 4 * j, none⟩) (16 - 4 * j) (16 - 4 * j)) W := fun W => by
        have := cutP_l Try.underlying32 W gk 0 (4 * j) (4 * (j : Int)) .i64 (by omega) (by omega)
        rwa [Nat.zero_add] at this
      have j1 : (0 : Int) ≤ (j : Int) ∧ (j : Int) < 44 := by omega
      go_wp2
      refine region_tail 6 (by kernel_rfl) (by kernel_rfl) ?_
      simp only [List.take_succ_cons, List.take_zero, List.drop_succ_cons, List.drop_zero]
      repeat still_step
      refine wpStill_nil ?_
      clear hs1 hs2 hmul
      refine copyB rfl (.tmp 19) (.tmp 22) rfl (some ⟨gw, j * 4, none⟩) (some ⟨gk, 4 * j, none⟩) 4 4 (16 - 4 * j) (16 - 4 * j) rfl rfl gw (4 * j) 295 _ (Blk.drew hW) wr.heap.size _ hkr (by rw [List.length_take, List.length_drop, Hk.out]; omega) (fun _ => by rw [Nat.mul_comm]) (by rw [mixTo_length _ _ _ (by rw [HCl.out]; simp)]; simp; omega) gw w3 hbel.drew (Nat.le_refl _) ?_
      intro wx hWx hbx
      rw [Hcut.out j hlt, splice_mixTo _ _ _ _ (by rw [HCl.out]; simp) (by rw [HCl.out]; omega)] at hWx
      go_wp2
      go_roundw
      case rel => exact ⟨j + 1, hlt, by go_num, hWx, hbx⟩
      case measure => simp [intOf]; omega
    · have e4 : j = 4 := by omega
      subst e4
      have hkR := hkB.below hbel (by omega)
      have hrR := hrB.below hbel (by omega)
      have hbwR := hbw3.trans (hbel.mono (by omega))
      have hzr := hbel.size
      have hZl : ∀ i, (mixTo i C (List.replicate 176 0)).length = 176 := fun i => by rw [mixTo_length _ _ _ (by rw [HCl.out]; simp)]; simp
      have HZl := Lib.hid hZl; clear hZl
      obtain ⟨w4, rfl⟩ : ∃ w4 : World, w4 = wr := ⟨_, rfl⟩
      have hW4 : BlB w4 gw 295 (mixTo (16 + 4 * 0) C (List.replicate 176 0)) := hW
      clear hW hkB hrB hbel hbw3 hj hlt
      go_wp2
      simp only [Int.cast_ofNat_Int]
      go_loopw [7, 8] (fun v7 i wr => ∃ (n : Nat) (c : UInt8), n ≤ 40 ∧ i = .int .i64 ((n + 4 : Nat) : Int) ∧ v7 = .int .u8 (u8v c) ∧ Hid (c = (colAt key n).2) ∧ BlB wr gw 295 (mixTo (16 + 4 * n) C (List.replicate 176 0)) ∧ w4.grownBy wr (some gw)) (fun _ i _ => 44 - (intOf i).toNat)
      case atStart => exact ⟨0, 1, by omega, rfl, rfl, Lib.hid rfl, hW4, grown_of_below (Below.refl _ _)⟩
      case round =>
        clear hW4
        obtain ⟨n, c, hn, rfl, rfl, hc, hW, hg⟩ := hrel
        have hzn := hg.size
        by_cases hlt : n < 40
        · obtain ⟨i, hi⟩ : ∃ i, i = n + 4 := ⟨_, rfl⟩
          have hi4 : 4 ≤ i ∧ i < 44 := by omega
          have hp : 16 + 4 * n = 4 * i := by omega
          rw [hp] at hW
          obtain ⟨T, hT⟩ : ∃ T, T = (C.drop (4 * (i - 1))).take 4 := ⟨_, rfl⟩
          have hTl : T.length = 4 := by rw [hT, List.length_take, List.length_drop, HCl.out]; omega
          have hTc : ((mixTo (4 * i) C (List.replicate 176 0)).drop ((i - 1) * 4)).take 4 = T := by rw [mixTo_cut _ _ _ _ _ (by omega) (by rw [HCl.out]; omega), hT, Nat.mul_comm]
          have hTb : ∀ j, j < 4 → bAt T j = bAt C (4 * i - 4 + j) := fun j hj => by rw [hT, bAt_take _ _ _ hj, bAt_drop]; congr 1; omega
          have hkey : ∀ j, j < 4 → bAt C (4 * i + j) = bAt C (4 * i - 16 + j) ^^^ colT C c i j := fun j hj => by rw [hi, hc.out]; exact Hkey.out n j hlt hj
          have hcn : (colAt key (n + 1)).2 = if i % 4 = 0 then twice c else c := by rw [colC_step, ← hc.out, hi]
          have Hcn := Lib.hid hcn; clear hcn
          have HT := Lib.hid hT; clear hT
          have HTl := Lib.hid hTl; clear hTl
          have HTc := Lib.hid hTc; clear hTc
          have HTb := Lib.hid hTb; clear hTb
          have Hkj := Lib.hid hkey; clear hkey
          have hgbR : ∀ i, i < 256 → wr.cell? ⟨gb, i, none⟩ = some (.int .u8 (u8v (bAt sbox i))) := fun i hi => by
            rw [(hbwR.grown hg hbwR.size (fun x hx => by cases hx; omega)).cell (p := ⟨gb, i, none⟩) hgb]; exact Hbx.out i hi
          have HgbR := Lib.hid hgbR; clear hgbR
          have i1 : IntKind.i64.wrap ((i : Int) - 1) = ((i - 1 : Nat) : Int) := by rw [IntWalk.i64_in _ (by omega)]; omega
          have j1 : (0 : Int) ≤ ((i - 1 : Nat) : Int) ∧ ((i - 1 : Nat) : Int) < 44 := by omega
          rw [← hi]
          have Hi := Lib.hid hi; clear hi
          have Hp := Lib.hid hp; clear hp
          obtain ⟨wn, rfl⟩ : ∃ wn : World, wn = wr := ⟨_, rfl⟩
          by_cases h4 : i % 4 = 0
          · have h4i : ((i : Int) % 4 == 0) = true := by simp; omega
            go_wp2_with (first
              | (refine ldM rfl 253 (.tmp 31) rfl gw ((i - 1) * 4) rfl 295 _ hW 4 Try.underlying253 info253 (by rw [HZl.out]; omega) T HTc.out ?_)
              | (refine alloc_abs rfl 253 rfl (b8s (List.replicate 4 0)).toArray zero253 ?_; intro gt wt hgt1 hgt2 hgt hbt
                 have hWt := Blk.call hW hbt)
              | (refine stB rfl 253 (.tmp 9) (.tmp 32) rfl gt rfl T rfl _ hgt 4 info253 HTl.out (by simp) ?_; intro wu hTu hgu
                 have hWu := Blk.grown hWt hgu (by have := hW.lt; simp; omega)))
            have hzu := hgu.size
            have hzt := hbt.size
            have hgU : w4.grownBy wu (some gw) := grown_far (grownB hg hbt) hgu (by omega)
            have hne : gt ≠ gw := by have := hW.lt; omega
            have hgtu : gt < wu.heap.size := by omega
            clear hbt hWt hgu
            have hx : ∀ j, j < 4 → wu.cell? ⟨gt, j, none⟩ = some (.int .u8 (u8v (bAt T j))) := fun j hj => hTu.at j (by rw [HTl.out]; exact hj)
            have cx0 := hx 0 (by omega)
            have cx1 := hx 1 (by omega)
            have cx2 := hx 2 (by omega)
            have cx3 := hx 3 (by omega)
            clear hx
            have fx : ∀ j, wu.frozen? ⟨gt, j, none⟩ = false := fun j => Blk.frozen hTu j
            have Fx := Lib.hid fx; clear fx
            have sx : ∀ x : UInt8, wu.cell? ⟨gb, x.toNat, none⟩ = some (.int .u8 (u8v (sub x))) := fun x => by
              rw [grown_cell hgU ⟨gb, x.toNat, none⟩ (by show gb < _; have := hbwR.size; omega) (by show some gb ≠ _; simp; omega)]
              rw [← grown_cell hg ⟨gb, x.toNat, none⟩ (by show gb < _; have := hbwR.size; omega) (by show some gb ≠ _; simp; omega)]
              exact HgbR.out x.toNat x.toNat_lt
            obtain ⟨x0, e0⟩ : ∃ x, x = bAt T 0 := ⟨_, rfl⟩
            obtain ⟨x1, e1⟩ : ∃ x, x = bAt T 1 := ⟨_, rfl⟩
            obtain ⟨x2, e2⟩ : ∃ x, x = bAt T 2 := ⟨_, rfl⟩
            obtain ⟨x3, e3⟩ : ∃ x, x = bAt T 3 := ⟨_, rfl⟩
            rw [← e0] at cx0
            rw [← e1] at cx1
            rw [← e2] at cx2
            rw [← e3] at cx3
            have s0 := sx x0
            have s1 := sx x1
            have s2 := sx x2
            have s3 := sx x3
            clear sx
            have n0 : (u8v x0).toNat = x0.toNat := by unfold u8v; rfl
            have n1 : (u8v x1).toNat = x1.toNat := by unfold u8v; rfl
            have n2 : (u8v x2).toNat = x2.toNat := by unfold u8v; rfl
            have n3 : (u8v x3).toNat = x3.toNat := by unfold u8v; rfl
            obtain ⟨l0, l0'⟩ := u8v_lt x0
            obtain ⟨l1, l1'⟩ := u8v_lt x1
            obtain ⟨l2, l2'⟩ := u8v_lt x2
            obtain ⟨l3, l3'⟩ := u8v_lt x3
            have hTc' : ∀ j, j < 4 → bAt [sub x1 ^^^ c, sub x2, sub x3, sub x0] j = colT C c i j := by
              intro j hj
              have k : j = 0 ∨ j = 1 ∨ j = 2 ∨ j = 3 := by omega
              unfold colT
              rw [if_pos h4]
              have t0 := HTb.out 0 (by omega)
              have t1 := HTb.out 1 (by omega)
              have t2 := HTb.out 2 (by omega)
              have t3 := HTb.out 3 (by omega)
              rcases k with rfl | rfl | rfl | rfl
              · show sub x1 ^^^ c = _
                rw [if_pos rfl, e1, t1, show 4 * i - 4 + 1 = 4 * i - 3 by omega]
              · show sub x2 = _
                rw [if_neg (by decide), if_neg (by decide), e2, t2, show 4 * i - 4 + 2 = 4 * i - 3 + 1 by omega]
              · show sub x3 = _
                rw [if_neg (by decide), if_neg (by decide), e3, t3, show 4 * i - 4 + 3 = 4 * i - 3 + 2 by omega]
              · show sub x0 = _
                rw [if_neg (by decide), if_pos rfl, e0, t0, Nat.add_zero]
            have HTc' := Lib.hid hTc'; clear hTc'
            have HTl' := Lib.hid (show ([sub x1 ^^^ c, sub x2, sub x3, sub x0] : List UInt8).length = 4 from rfl)
            clear e0 e1 e2 e3
            refine region_tail 27 (by kernel_rfl) (by kernel_rfl) ?_
            simp only [List.take_succ_cons, List.take_zero, List.drop_succ_cons, List.drop_zero]
            repeat still_step
            refine wpStill_nil ?_
            refine stB rfl 253 (.tmp 9) (.tmp 62) rfl gt rfl [sub x1 ^^^ c, sub x2, sub x3, sub x0] rfl T (Blk.drew hTu) 4 info253 rfl HTl.out ?_
            intro wy hTy hgy
            have hWy := Blk.grown (Blk.drew hWu) hgy (by simp [hne.symm])
            have hgY : w4.grownBy wy (some gw) := grown_far (grownBy_drew hgU) hgy (by omega)
            clear s0 s1 s2 s3 n0 n1 n2 n3 cx0 cx1 cx2 cx3
            go_wp2_with (go_at_call 210; refine (twice_any _ _).mono ?_; rintro e w' ⟨rfl, hz⟩; obtain rfl := hz.symm)
            go_loopw [65] (fun v65 wr => ∃ j : Nat, j ≤ 4 ∧ v65 = .int .i64 j ∧ BlB wr gw 295 (mixTo (4 * i + j) C (List.replicate 176 0)) ∧ wy.grownBy wr (some gw)) (fun v65 _ => 4 - (intOf v65).toNat)
            case atStart => exact ⟨0, by omega, rfl, by rw [Nat.add_zero]; exact hWy, grown_of_below (Below.refl _ _)⟩
            case round =>
              obtain ⟨j, hj, rfl, hWj, hgj⟩ := hrel
              by_cases hlt5 : j < 4
              · have hTj := Blk.grown hTy hgj (by simp [hne])
                have c1 : wr.cell? ⟨gt, j, none⟩ = some (.int .u8 (u8v (colT C c i j))) := by rw [← HTc'.out j hlt5]; exact BlB.at hTj j (by rw [HTl'.out]; exact hlt5)
                have c2 : wr.cell? ⟨gw, (i - 4) * 4 + j, none⟩ = some (.int .u8 (u8v (bAt C (4 * i - 16 + j)))) := by
                  have h := hWj.at ((i - 4) * 4 + j) (by rw [HZl.out]; omega)
                  rw [bAt_mixTo_new _ _ _ _ (by rw [HCl.out]; simp) (by omega), show (i - 4) * 4 + j = 4 * i - 16 + j by omega] at h
                  rw [show (i - 4) * 4 + j = 4 * i - 16 + j by omega]
                  exact h
                have c3 := hWj.at (i * 4 + j) (by rw [HZl.out]; omega)
                have hfr := Blk.frozen hWj (i * 4 + j)
                have jj : (0 : Int) ≤ (j : Int) ∧ (j : Int) < 4 := by omega
                have ji : (0 : Int) ≤ (i : Int) ∧ (i : Int) < 44 := by omega
                have ji4 : (0 : Int) ≤ ((i - 4 : Nat) : Int) ∧ ((i - 4 : Nat) : Int) < 44 := by omega
                have i4 : IntKind.i64.wrap ((i : Int) - 4) = ((i - 4 : Nat) : Int) := by rw [IntWalk.i64_in _ (by omega)]; omega
                go_wp2
                refine region_tail 14 (by kernel_rfl) (by kernel_rfl) ?_
                simp only [List.take_succ_cons, List.take_zero, List.drop_succ_cons, List.drop_zero]
                repeat still_step
                refine wpStill_nil ?_
                go_wp2
                go_roundw
                case rel =>
                  refine ⟨j + 1, hlt5, by go_num, ?_, grownBy_set (grownBy_drew hgj) _ _⟩
                  have h := hWj.set (4 * i + j) (bAt C (4 * i + j))
                  rw [mixTo_set _ _ _ _ (by rw [HCl.out]; simp) (by rw [HCl.out]; omega) (bAt_get _ _ (by rw [HCl.out]; omega)), Hkj.out j hlt5] at h
                  rw [Nat.mul_comm i 4]
                  exact h
                case measure => simp [intOf]; omega
              · have e4 : j = 4 := by omega
                subst e4
                go_wp2
                go_roundw
                case rel =>
                  refine ⟨n + 1, twice c, by omega, by rw [Hi.out]; go_num, rfl, Lib.hid (by rw [Hcn.out, if_pos h4]), ?_, grownBy_trans hgY hgj⟩
                  rw [show 16 + 4 * (n + 1) = 4 * i + 4 by rw [Hi.out]; omega]
                  exact hWj
                case measure => simp [intOf]; omega
          · have h4i : ((i : Int) % 4 == 0) = false := by simp; omega
            go_wp2_with (first
              | (refine ldM rfl 253 (.tmp 31) rfl gw ((i - 1) * 4) rfl 295 _ hW 4 Try.underlying253 info253 (by rw [HZl.out]; omega) T HTc.out ?_)
              | (refine alloc_abs rfl 253 rfl (b8s (List.replicate 4 0)).toArray zero253 ?_; intro gt wt hgt1 hgt2 hgt hbt
                 have hWt := Blk.call hW hbt)
              | (refine stB rfl 253 (.tmp 9) (.tmp 32) rfl gt rfl T rfl _ hgt 4 info253 HTl.out (by simp) ?_; intro wu hTu hgu
                 have hWu := Blk.grown hWt hgu (by have := hW.lt; simp; omega)))
            have hzu := hgu.size
            have hzt := hbt.size
            have hgU : w4.grownBy wu (some gw) := grown_far (grownB hg hbt) hgu (by omega)
            have hne : gt ≠ gw := by have := hW.lt; omega
            have hgtu : gt < wu.heap.size := by omega
            clear hbt hWt hgu
            have hTc' : ∀ j, j < 4 → bAt T j = colT C c i j := by
              intro j hj
              unfold colT
              rw [if_neg h4]
              exact HTb.out j hj
            have HTc' := Lib.hid hTc'; clear hTc'
            have HTl' := HTl
            go_loopw [65] (fun v65 wr => ∃ j : Nat, j ≤ 4 ∧ v65 = .int .i64 j ∧ BlB wr gw 295 (mixTo (4 * i + j) C (List.replicate 176 0)) ∧ wu.grownBy wr (some gw)) (fun v65 _ => 4 - (intOf v65).toNat)
            case atStart => exact ⟨0, by omega, rfl, by rw [Nat.add_zero]; exact hWu, grown_of_below (Below.refl _ _)⟩
            case round =>
              obtain ⟨j, hj, rfl, hWj, hgj⟩ := hrel
              by_cases hlt5 : j < 4
              · have hTj := Blk.grown hTu hgj (by simp [hne])
                have c1 : wr.cell? ⟨gt, j, none⟩ = some (.int .u8 (u8v (colT C c i j))) := by rw [← HTc'.out j hlt5]; exact BlB.at hTj j (by rw [HTl'.out]; exact hlt5)
                have c2 : wr.cell? ⟨gw, (i - 4) * 4 + j, none⟩ = some (.int .u8 (u8v (bAt C (4 * i - 16 + j)))) := by
                  have h := hWj.at ((i - 4) * 4 + j) (by rw [HZl.out]; omega)
                  rw [bAt_mixTo_new _ _ _ _ (by rw [HCl.out]; simp) (by omega), show (i - 4) * 4 + j = 4 * i - 16 + j by omega] at h
                  rw [show (i - 4) * 4 + j = 4 * i - 16 + j by omega]
                  exact h
                have c3 := hWj.at (i * 4 + j) (by rw [HZl.out]; omega)
                have hfr := Blk.frozen hWj (i * 4 + j)
                have jj : (0 : Int) ≤ (j : Int) ∧ (j : Int) < 4 := by omega
                have ji : (0 : Int) ≤ (i : Int) ∧ (i : Int) < 44 := by omega
                have ji4 : (0 : Int) ≤ ((i - 4 : Nat) : Int) ∧ ((i - 4 : Nat) : Int) < 44 := by omega
                have i4 : IntKind.i64.wrap ((i : Int) - 4) = ((i - 4 : Nat) : Int) := by rw [IntWalk.i64_in _ (by omega)]; omega
                go_wp2
                refine region_tail 14 (by kernel_rfl) (by kernel_rfl) ?_
                simp only [List.take_succ_cons, List.take_zero, List.drop_succ_cons, List.drop_zero]
                repeat still_step
                refine wpStill_nil ?_
                go_wp2
                go_roundw
                case rel =>
                  refine ⟨j + 1, hlt5, by go_num, ?_, grownBy_set (grownBy_drew hgj) _ _⟩
                  have h := hWj.set (4 * i + j) (bAt C (4 * i + j))
                  rw [mixTo_set _ _ _ _ (by rw [HCl.out]; simp) (by rw [HCl.out]; omega) (bAt_get _ _ (by rw [HCl.out]; omega)), Hkj.out j hlt5] at h
                  rw [Nat.mul_comm i 4]
                  exact h
                case measure => simp [intOf]; omega
              · have e4 : j = 4 := by omega
                subst e4
                go_wp2
                go_roundw
                case rel =>
                  refine ⟨n + 1, c, by omega, by rw [Hi.out]; go_num, rfl, Lib.hid (by rw [Hcn.out, if_neg h4]), ?_, grownBy_trans hgU hgj⟩
                  rw [show 16 + 4 * (n + 1) = 4 * i + 4 by rw [Hi.out]; omega]
                  exact hWj
                case measure => simp [intOf]; omega
        · have e40 : n = 40 := by omega
          subst e40
          rw [show 16 + 4 * 40 = 176 from rfl, mixTo_all 176 _ _ HCl.out (by simp)] at hW
          have hrX := hrR.grown hg (by simp; omega)
          have hbX := hbwR.grown hg hbwR.size (fun x hx => by cases hx; omega)
          have hgwl := hW.lt
          have hrl : r < wr.heap.size := hrX.lt
          have hwl := hbX.size
          clear hg hkR hrR hbwR hc hlt hn
          obtain ⟨wo, rfl⟩ : ∃ wo : World, wo = wr := ⟨_, rfl⟩
          have hsz253 : ∀ w, (sizeOf 253).run Try.prog w = .ok 4 w := fun w => by kernel_rfl
          have hag253 : ∀ w, (isAgg 253).run Try.prog w = .ok true w := fun w => by kernel_rfl
          have Hsz := Lib.hid hsz253; clear hsz253
          have Hag := Lib.hid hag253; clear hag253
          go_wp2_with (first
            | (refine alloc_abs rfl 40 rfl Z Hz.out ?_; intro gq wp hgq1 hgq2 hgq hbq
               have hWp := Blk.call hW hbq
               have hrp := hrX.call hbq
               rw [HZ.out] at hgq)
            | (refine ldA rfl 295 (.tmp 5) rfl gw rfl 295 C hWp 176 _ rfl Try.underlying295 info295 HCl.out ?_))
          have hbp := hbX.trans (hbq.mono hwl)
          have hzp := hbq.size
          clear hW hWp hrX hbX hbq
          go_loopw [84] (fun v84 wr => ∃ j : Nat, j ≤ 44 ∧ v84 = .int .i64 j ∧ BlB wr gq 40 (mixTo (4 * j) C (List.replicate 176 0)) ∧ Below gq wp wr) (fun v84 _ => 44 - (intOf v84).toNat)
          case atStart => exact ⟨0, by omega, rfl, by rw [Nat.mul_zero, mixTo_zero]; exact hgq, Below.refl _ _⟩
          case round =>
            clear hgq
            obtain ⟨j, hj, rfl, hQ, hbq⟩ := hrel
            have hzq := hbq.size
            by_cases hlt : j < 44
            · have hix := run_index_arr Try.underlying295 Hsz.out Hag.out C j hlt .i64
              obtain ⟨T, hT⟩ : ∃ T, T = (C.drop (j * 4)).take 4 := ⟨_, rfl⟩
              rw [← hT] at hix
              have hTl : T.length = 4 := by rw [hT, List.length_take, List.length_drop, HCl.out]; omega
              have hTt : T.take 4 = (C.drop (4 * j)).take 4 := by rw [List.take_of_length_le (by omega), hT, Nat.mul_comm]
              have HT := Lib.hid hT; clear hT
              have HTl := Lib.hid hTl; clear hTl
              have HTt := Lib.hid hTt; clear hTt
              have jj : (0 : Int) ≤ (j : Int) ∧ (j : Int) < 44 := by omega
              go_wp2_with (first
                | (refine alloc_abs rfl 253 rfl (b8s (List.replicate 4 0)).toArray zero253 ?_; intro gt wt hgt1 hgt2 hgt hbt
                   have hQt := Blk.call hQ hbt)
                | (refine stB rfl 253 (.tmp 13) (.tmp 87) rfl gt rfl T rfl _ hgt 4 info253 HTl.out (by simp) ?_; intro wu hTu hgu
                   have hQu := Blk.grown hQt hgu (by have := hQ.lt; simp; omega)))
              have hzt := hbt.size
              have hzu := hgu.size
              have hbU : Below gq wp wu := (hbq.trans (hbt.mono (by omega))).grown hgu (by omega) (fun x hx => by cases hx; omega)
              have hRt : RdB wu wu.heap.size (some ⟨gt, 0, none⟩) T := by
                have h := hTu.rd 0 4 (by rw [HTl.out]; omega)
                rwa [List.drop_zero, List.take_of_length_le (by rw [HTl.out]; omega)] at h
              clear hQ hbq hbt hQt hgu hgt
              have q1 : (j : Int).tdiv 4 = ((j / 4 : Nat) : Int) := by rw [Int.tdiv_eq_ediv_of_nonneg (by omega)]; omega
              have q2 : (j : Int).tmod 4 = ((j % 4 : Nat) : Int) := by rw [Int.tmod_eq_emod_of_nonneg (by omega)]; omega
              obtain ⟨jq, hjq⟩ : ∃ x, x = j / 4 := ⟨_, rfl⟩
              obtain ⟨jm, hjm⟩ : ∃ x, x = j % 4 := ⟨_, rfl⟩
              rw [← hjq] at q1
              rw [← hjm] at q2
              have hjj : 16 * jq + 4 * jm = 4 * j ∧ jq < 11 ∧ jm < 4 := by omega
              have Hjq := Lib.hid hjq; clear hjq
              have Hjm := Lib.hid hjm; clear hjm
              obtain ⟨hj1, hj2, hj3⟩ := hjj
              have k1 : (0 : Int) ≤ (jq : Int) ∧ (jq : Int) < 11 := by omega
              have q0 : IntKind.i64.wrap (jq : Int) = (jq : Int) := by rw [IntWalk.i64_in _ (by omega)]
              have q3 : IntKind.i64.wrap ((jm : Int) * 4) = (jm : Int) * 4 := by rw [IntWalk.i64_in _ (by omega)]
              have hs1 : ∀ W, (Instr.sliceAt 32 (.pointer (some ⟨gq, jq * 16, none⟩)) (some (.int .i64 ((jm : Int) * 4))) none none).run Try.prog W = .ok (.slice (some ⟨gq, 4 * j, none⟩) (16 - 4 * jm) (16 - 4 * jm)) W := fun W => by
                have := cutP_l Try.underlying32 W gq (jq * 16) (4 * jm) ((jm : Int) * 4) .i64 (by omega) (by omega)
                rwa [show jq * 16 + 4 * jm = 4 * j by omega] at this
              have hs2 : ∀ W, (Instr.sliceAt 253 (.pointer (some ⟨gt, 0, none⟩)) none none none).run Try.prog W = .ok (.slice (some ⟨gt, 0, none⟩) 4 4) W := fun W => cutP_all Try.underlying253 W gt 0
              refine region_tail 8 (by kernel_rfl) (by kernel_rfl) ?_
              simp only [List.take_succ_cons, List.take_zero, List.drop_succ_cons, List.drop_zero]
              repeat still_step
              refine wpStill_nil ?_
              clear hs1 hs2 q0 q1 q2 q3
              refine copyB rfl (.tmp 94) (.tmp 95) rfl (some ⟨gq, 4 * j, none⟩) (some ⟨gt, 0, none⟩) (16 - 4 * jm) (16 - 4 * jm) 4 4 rfl rfl gq (4 * j) 40 _ (Blk.drew hQu) wu.heap.size T hRt HTl.out.symm (fun _ => rfl) (by rw [HZl.out]; omega) gq wp hbU.drew (Nat.le_refl _) ?_
              intro wx hWx hbx
              rw [List.take_of_length_le (show T.length ≤ 16 - 4 * jm by rw [HTl.out]; omega), show T = (C.drop (4 * j)).take 4 by rw [← HTt.out, List.take_of_length_le (by rw [HTl.out]; omega)], splice_mixTo _ _ _ _ (by rw [HCl.out]; simp) (by rw [HCl.out]; omega)] at hWx
              go_wp2
              go_roundw
              case rel => exact ⟨j + 1, hlt, by go_num, hWx, hbx⟩
              case measure => simp [intOf]; omega
            · have e44 : j = 44 := by omega
              subst e44
              rw [show 4 * 44 = 176 from rfl, mixTo_all 176 _ _ HCl.out (by simp)] at hQ
              have hrq := hrp.below hbq (by omega)
              have hbY := hbp.trans (hbq.mono (by omega))
              rw [HZ.out] at hrq
              go_wp2_with (first
                | (refine ldA rfl 40 (.tmp 11) rfl gq rfl 40 C hQ 176 _ rfl Try.underlying40 info40 HCl.out ?_)
                | (refine stB rfl 40 (.tmp 4) (.tmp 98) rfl r rfl C rfl _ hrq 176 info40 HCl.out (by simp) ?_; intro w7 hres hg7))
              refine bodyPost_ret (retA rfl r rfl C hres 176 _ rfl Try.underlying40 info40 HCl.out) rfl ⟨by rw [HC.out], hbY.grown hg7 hbY.size (fun x hx => by cases hx; omega)⟩
end Go.Proofs.Ytillnpllcfleeaa
