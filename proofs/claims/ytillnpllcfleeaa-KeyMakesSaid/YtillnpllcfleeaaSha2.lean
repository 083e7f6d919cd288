/- Walks of layer 6: a block taken in. -/
import Derived.Test.YtillnpllcfleeaaSha1
import Derived.Deep.MidRow
namespace Go.Proofs.Ytillnpllcfleeaa
open Go Go.RowKit
def w32 (x : UInt32) : Value := .int .u32 (u32v x)
def w32s (l : List UInt32) : List Value := l.map w32
def St.cells (s : St) : Array Value := #[.int .u32 (u32v s.a), .int .u32 (u32v s.b), .int .u32 (u32v s.c), .int .u32 (u32v s.d), .int .u32 (u32v s.e), .int .u32 (u32v s.f), .int .u32 (u32v s.g), .int .u32 (u32v s.h)]
/-- the array of the schedule: l, and noughts behind -/
def wArr (l : List UInt32) : Array Value := (w32s l ++ List.replicate (64 - l.length) (Value.int .u32 0)).toArray
theorem wArr_hit (l : List UInt32) (i : Nat) (h : i < l.length) : (wArr l)[i]? = some (.int .u32 (u32v (wordAt l i))) := by
  unfold wArr w32s wordAt
  rw [List.getElem?_toArray, List.getElem?_append_left (by simpa using h), List.getElem?_map, List.getElem?_eq_getElem h]
  simp [w32, h]
theorem wArr_miss (l : List UInt32) (i : Nat) (h : l.length ≤ i) (h2 : i < 64) : (wArr l)[i]? = some (.int .u32 0) := by
  unfold wArr
  rw [List.getElem?_toArray, List.getElem?_append_right (by simpa [w32s] using h), List.getElem?_replicate, if_pos (by simp [w32s]; omega)]
theorem wArr_push (l : List UInt32) (x : UInt32) (h : l.length < 64) : (wArr l).setIfInBounds l.length (.int .u32 (u32v x)) = wArr (l ++ [x]) := by
  unfold wArr w32s
  obtain ⟨m, hm⟩ : ∃ m, 64 - l.length = m + 1 := ⟨63 - l.length, by omega⟩
  have h2 : 64 - (l ++ [x]).length = m := by simp; omega
  rw [hm, h2, List.setIfInBounds_toArray]
  congr 1
  rw [List.set_append_right _ _ (by simp)]
  simp [List.replicate_succ, w32]

theorem w32s_hit (l : List UInt32) (i : Nat) (h : i < l.length) : (w32s l).toArray[i]? = some (.int .u32 (u32v (wordAt l i))) := by
  unfold w32s wordAt
  rw [List.getElem?_toArray, List.getElem?_map, List.getElem?_eq_getElem h]
  simp [w32, h]
theorem quiet_add_same {P : Program} {f : FuncId} {args : Array Value} {w : World} {a n : Nat} {v : Value}
    (h : Calls P f args (w.drewN (a + n)) fun e w' => e = .returned v ∧ w' = w.drewN (a + n)) :
    Calls P f args (w.drewN (a + n)) fun e w'' => e = .returned v ∧ ∃ m, w'' = w.drewN (a + m) :=
  h.mono fun _ _ ⟨he, hm⟩ => ⟨he, n, hm⟩
theorem info209 {a b c d e f g h : Value} : (Try.prog.info? 209).map (·.size) = some (#[a, b, c, d, e, f, g, h] : Array Value).size := by
  show _ = some 8
  kernel_rfl
theorem cells8_one (a b c d e f g h : Int) : (#[.int .u32 a, .int .u32 b, .int .u32 c, .int .u32 d, .int .u32 e, .int .u32 f, .int .u32 g, .int .u32 h] : Array Value).all (·.oneCell') = true := by
  simp [Value.oneCell']
theorem blk8 {w : World} {g : Nat} {t : TypeId} {cs : Array Value} (h : Blk w g t cs) (hs : cs.size = 8) (a0 a1 a2 a3 a4 a5 a6 a7 : Value) :
    Blk ((((((((w.setCell ⟨g, 0, none⟩ a0).setCell ⟨g, 1, none⟩ a1).setCell ⟨g, 2, none⟩ a2).setCell ⟨g, 3, none⟩ a3).setCell ⟨g, 4, none⟩ a4).setCell ⟨g, 5, none⟩ a5).setCell ⟨g, 6, none⟩ a6).setCell ⟨g, 7, none⟩ a7) g t
      #[a0, a1, a2, a3, a4, a5, a6, a7] := by
  have h1 := (((((((h.set 0 a0).set 1 a1).set 2 a2).set 3 a3).set 4 a4).set 5 a5).set 6 a6).set 7 a7
  obtain ⟨l⟩ := cs
  have hl : l.length = 8 := hs
  obtain ⟨c0, l, rfl⟩ := List.exists_cons_of_length_eq_add_one hl
  simp only [List.length_cons, Nat.reduceEqDiff] at hl
  obtain ⟨c1, l, rfl⟩ := List.exists_cons_of_length_eq_add_one hl
  simp only [List.length_cons, Nat.reduceEqDiff] at hl
  obtain ⟨c2, l, rfl⟩ := List.exists_cons_of_length_eq_add_one hl
  simp only [List.length_cons, Nat.reduceEqDiff] at hl
  obtain ⟨c3, l, rfl⟩ := List.exists_cons_of_length_eq_add_one hl
  simp only [List.length_cons, Nat.reduceEqDiff] at hl
  obtain ⟨c4, l, rfl⟩ := List.exists_cons_of_length_eq_add_one hl
  simp only [List.length_cons, Nat.reduceEqDiff] at hl
  obtain ⟨c5, l, rfl⟩ := List.exists_cons_of_length_eq_add_one hl
  simp only [List.length_cons, Nat.reduceEqDiff] at hl
  obtain ⟨c6, l, rfl⟩ := List.exists_cons_of_length_eq_add_one hl
  simp only [List.length_cons, Nat.reduceEqDiff] at hl
  obtain ⟨c7, l, rfl⟩ := List.exists_cons_of_length_eq_add_one hl
  simp only [List.length_cons, Nat.reduceEqDiff] at hl
  obtain rfl := List.eq_nil_of_length_eq_zero hl
  simp only [List.setIfInBounds_toArray, List.set_cons_zero, List.set_cons_succ] at h1
  exact h1
theorem cells_one (s : St) : s.cells.all (·.oneCell') = true := by
  simp [St.cells, Value.oneCell']
theorem region_tail {P : Program} {id : Nat} {Q : Exit → Act → World → Prop} {a : Act} {w : World} {l : List Oper} (n : Nat) (hm : P.follows .mixedOrders = true) (hB : Region.lexTailB .any l.toArray n = true)
    (h : wpStill P l.toArray w.drew (fun a' => wpList P l.toArray Q (l.drop n) a' w.drew) (l.take n) a) : (Code.region id l.toArray true).wp P Q a w := wp_region_still_tail n hm hB h


theorem cells_list (s : St) : s.cells = (w32s s.list).toArray := rfl
/-- the first i words added -/
def addTo (i : Nat) (l m : List UInt32) : List UInt32 := List.zipWith (· + ·) (l.take i) (m.take i) ++ l.drop i
theorem addTo_zero (l m : List UInt32) : addTo 0 l m = l := by simp [addTo]
theorem addTo_at (i : Nat) (l m : List UInt32) (h : i < l.length) (hm : m.length = l.length) : wordAt (addTo i l m) i = wordAt l i := by
  unfold wordAt addTo
  rw [List.getD_eq_getElem?_getD, List.getD_eq_getElem?_getD, List.getElem?_append_right (by simp; omega)]
  simp [show min i m.length = i by omega, show min i l.length = i by omega]
theorem addTo_length (i : Nat) (l m : List UInt32) (h : i ≤ l.length) (hm : m.length = l.length) : (addTo i l m).length = l.length := by
  unfold addTo; simp; omega
theorem addTo_set (i : Nat) (l m : List UInt32) (h : i < l.length) (hm : m.length = l.length) : (addTo i l m).set i (wordAt l i + wordAt m i) = addTo (i + 1) l m := by
  unfold addTo wordAt
  have hl : (List.zipWith (· + ·) (l.take i) (m.take i)).length = i := by simp; omega
  rw [List.set_append_right _ _ (by omega), hl, Nat.sub_self, List.drop_eq_getElem_cons h, List.set_cons_zero]
  rw [List.take_succ_eq_append_getElem h, List.take_succ_eq_append_getElem (show i < m.length by omega)]
  rw [List.zipWith_append (by simp; omega)]
  simp [List.getD_eq_getElem?_getD, h, hm]
theorem addTo_all (s t : St) : addTo 8 s.list t.list = (s.add t).list := rfl
theorem w32s_set (l : List UInt32) (i : Nat) (x : UInt32) : (w32s l).toArray.setIfInBounds i (.int .u32 (u32v x)) = (w32s (l.set i x)).toArray := by
  unfold w32s
  rw [List.setIfInBounds_toArray, List.map_set]
  rfl
theorem wArr_sched (bs : List UInt8) (n : Nat) (h : 16 ≤ n) (h2 : n < 64) :
    (wArr (sched bs (n - 16))).setIfInBounds n (.int .u32 (u32v (wordAt (sched bs (n - 16)) (n - 16) + sg0 (wordAt (sched bs (n - 16)) (n - 15)) + wordAt (sched bs (n - 16)) (n - 7) + sg1 (wordAt (sched bs (n - 16)) (n - 2))))) = wArr (sched bs (n + 1 - 16)) := by
  have hl : (sched bs (n - 16)).length = n := by rw [sched_length]; omega
  have e := wArr_push (sched bs (n - 16)) (nextW (sched bs (n - 16))) (by omega)
  rw [show n + 1 - 16 = (n - 16) + 1 from by omega]
  show _ = wArr (sched bs (n - 16) ++ [nextW (sched bs (n - 16))])
  rw [← e, hl]
  unfold nextW
  rw [hl]
set_option maxRecDepth 100000 in
set_option maxHeartbeats 1000000 in
theorem take_any (g k : Nat) (s : St) (A : Option Addr) (c : Nat) (bs : List UInt8) (w : World) (hs : Blk w g 209 s.cells) (hk : Blk w k 211 (w32s kons).toArray)
    (hb : RdB w w.heap.size A bs) (hl : bs.length = 64) :
    Calls Try.prog 136 #[.pointer (some ⟨g, 0, none⟩), .pointer (some ⟨k, 0, none⟩), .slice A 64 c] w fun e w' => e = .returned (.tuple #[]) ∧ Blk w' g 209 (taken s bs).cells ∧ w.grownBy w' (some g) := by
  obtain ⟨ab, aoff, rfl, hab, hcell⟩ := hb.all (by omega)
  have Hl := Lib.hid hl; clear hl
  have Hc := Lib.hid hcell; clear hcell
  have hk1 := hk.lt
  have hg1 := hs.lt
  have hz : (w.alloc (.cells (wArr []) 211)).heap.size = w.heap.size + 1 := by simp
  go_enter Try.func136, Try.ntmps136
  go_wp2
  go_loopw [18] (fun i wr => ∃ t : Nat, t ≤ 16 ∧ i = .int .i64 t ∧ Blk wr w.heap.size 211 (wArr (lead bs t)) ∧ Below w.heap.size w wr) (fun i _ => 16 - (intOf i).toNat)
  case atStart => exact ⟨0, by omega, rfl, Blk.new _ _ _, (Below.refl _ _).alloc (Nat.le_refl _) _⟩
  case round =>
    obtain ⟨t, ht, rfl, hB, hbel⟩ := hrel
    have hlB := hB.lt
    by_cases hlt : t < 16
    · have cc : ∀ j, j < 64 → wr.cell? ⟨ab, aoff + j, none⟩ = some (.int .u8 (u8v (byteAt bs j))) := by
        intro j hj
        have hj' : j < bs.length := by rw [Hl.out]; exact hj
        rw [hbel.cell (p := ⟨ab, aoff + j, none⟩) hab, Hc.out j hj']
        unfold byteAt
        rw [List.getD_eq_getElem?_getD, List.getElem?_eq_getElem hj']; rfl
      have c0 := cc (4 * t) (by omega)
      have c1 := cc (4 * t + 1) (by omega)
      have c2 := cc (4 * t + 2) (by omega)
      have c3 := cc (4 * t + 3) (by omega)
      have Cc := Lib.hid cc; clear cc
      have cB : wr.cell? ⟨w.heap.size, t, none⟩ = some (.int .u32 0) := by rw [hB.cell, wArr_miss _ _ (by rw [lead_length]; omega) (by omega)]
      have fB := hB.frozen t
      go_wp2
      go_region
      all_goals go_wp2
      go_roundw
      case rel =>
        refine ⟨t + 1, by omega, by go_num, ?_, ((hbel.setCell (p := ⟨w.heap.size, t, none⟩) (Nat.le_refl _) _).drew)⟩
        have h := (hB.set t (.int .u32 (u32v (word4 (byteAt bs (4 * t)) (byteAt bs (4 * t + 1)) (byteAt bs (4 * t + 2)) (byteAt bs (4 * t + 3)))))).drew
        have e := wArr_push (lead bs t) (word4 (byteAt bs (4 * t)) (byteAt bs (4 * t + 1)) (byteAt bs (4 * t + 2)) (byteAt bs (4 * t + 3))) (by rw [lead_length]; omega)
        rw [lead_length] at e
        rw [e] at h
        exact h
      case measure => simp [intOf]; omega
    · have e16 : t = 16 := by omega
      subst e16
      clear ht hlt
      obtain ⟨w1, rfl⟩ : ∃ w1 : World, w1 = wr := ⟨_, rfl⟩
      have hB' : Blk w1 w.heap.size 211 (wArr (sched bs 0)) := hB
      clear hB
      go_wp2
      simp only [Int.cast_ofNat_Int]
      go_loopw [8] (fun i wr => ∃ n : Nat, 16 ≤ n ∧ n ≤ 64 ∧ i = .int .i64 n ∧ Blk wr w.heap.size 211 (wArr (sched bs (n - 16))) ∧ Below w.heap.size w wr) (fun i _ => 64 - (intOf i).toNat)
      case atStart => exact ⟨16, by omega, by omega, rfl, hB', hbel⟩
      case round =>
        clear hbel hB'
        obtain ⟨n, hn, hn2, rfl, hB, hbel⟩ := hrel
        by_cases hlt : n < 64
        · have hln : (sched bs (n - 16)).length = n := by rw [sched_length]; omega
          have cc : ∀ j, j < n → wr.cell? ⟨w.heap.size, j, none⟩ = some (.int .u32 (u32v (wordAt (sched bs (n - 16)) j))) := by
            intro j hj
            rw [hB.cell, wArr_hit _ _ (by omega)]
          have c0 := cc (n - 15) (by omega)
          have c1 := cc (n - 2) (by omega)
          have c2 := cc (n - 16) (by omega)
          have c3 := cc (n - 7) (by omega)
          have cB : wr.cell? ⟨w.heap.size, n, none⟩ = some (.int .u32 0) := by rw [hB.cell, wArr_miss _ _ (by omega) (by omega)]
          have fB := hB.frozen n
          have Cc := Lib.hid cc; clear cc
          have Hln := Lib.hid hln; clear hln
          go_wp2
          go_quiet (fail)
          go_wp2
          have i1 : IntKind.i64.wrap ((n : Int) - 16) = ((n - 16 : Nat) : Int) := by rw [IntWalk.i64_in _ (by omega)]; omega
          have i2 : IntKind.i64.wrap ((n : Int) - 7) = ((n - 7 : Nat) : Int) := by rw [IntWalk.i64_in _ (by omega)]; omega
          have i3 : (0 : Int) ≤ ((n - 16 : Nat) : Int) := by omega
          have i4 : ((n - 16 : Nat) : Int) < 64 := by omega
          have i5 : (0 : Int) ≤ ((n - 7 : Nat) : Int) := by omega
          have i6 : ((n - 7 : Nat) : Int) < 64 := by omega
          refine region_tail 29 (by kernel_rfl) (by kernel_rfl) ?_
          simp only [List.take_succ_cons, List.take_zero, List.drop_succ_cons, List.drop_zero]
          repeat still_step
          still_call (turn_any _ 7 _ (by omega))
          repeat still_step
          still_call (turn_any _ 18 _ (by omega))
          repeat still_step
          still_call (turn_any _ 17 _ (by omega))
          repeat still_step
          still_call (turn_any _ 19 _ (by omega))
          repeat still_step
          refine wpStill_nil ?_
          go_wp2
          go_roundw
          case rel =>
            refine ⟨n + 1, by omega, by omega, by go_num, ?_, (((below_drewN hbel _).setCell (p := ⟨w.heap.size, n, none⟩) (Nat.le_refl _) _))⟩
            rw [← wArr_sched bs n hn hlt]
            exact (hB.drewN _).set n _
          case measure => simp [intOf]; omega
        · have e64 : n = 64 := by omega
          subst e64
          clear hn hn2 hlt
          obtain ⟨w2, rfl⟩ : ∃ w2 : World, w2 = wr := ⟨_, rfl⟩
          have hs2 := hs.below hbel hg1
          have hk2 := hk.below hbel hk1
          have hlB2 := hB.lt
          go_wp2_with (first
            | (refine wpList_load_row rfl 209 (.tmp 99) rfl g rfl 209 s.cells (0, 0) _ hs2 Try.underlying209 rfl (by kernel_rfl) ?_)
            | (refine wpList_store_row rfl 209 (.tmp 11) (.tmp 100) rfl w2.heap.size s.cells rfl rfl 209 _ (Blk.new _ _ _) (by kernel_rfl) rfl (cells_one s) ?_))
          have e2 : (w2.alloc (.cells s.cells 209)).heap.size = w2.heap.size + 1 := by simp
          go_loopw [101] (fun i wr => ∃ t : Nat, t ≤ 64 ∧ i = .int .i64 t ∧ Blk wr w2.heap.size 209 (rnds (sched bs 48) s t).cells ∧ Below w2.heap.size w2 wr) (fun i _ => 64 - (intOf i).toNat)
          case atStart =>
            refine ⟨0, by omega, rfl, ?_, ?_⟩
            · exact setRow_heap _ _ _ _ _ _ (Blk.new _ _ _)
            · exact ((Below.refl _ _).alloc (Nat.le_refl _) _).trans ⟨rfl, rfl, rfl, by simp, fun j hj => setRow_other _ _ _ _ (by omega)⟩
          case round =>
            obtain ⟨t, ht, rfl, hV, hbel3⟩ := hrel
            by_cases hlt : t < 64
            · have hW := hB.below hbel3 hlB2
              have hK := hk2.below hbel3 (by have := hbel.size; omega)
              have hwt : wr.cell? ⟨w.heap.size, t, none⟩ = some (.int .u32 (u32v (wordAt (sched bs 48) t))) := by rw [hW.cell]; exact wArr_hit _ _ (by rw [sched_length]; exact hlt)
              have hkt : wr.cell? ⟨k, t, none⟩ = some (.int .u32 (u32v (wordAt kons t))) := by rw [hK.cell, w32s_hit _ _ hlt]
              obtain ⟨v, hv⟩ : ∃ v, v = rnds (sched bs 48) s t := ⟨_, rfl⟩
              rw [← hv] at hV
              have Hv := Lib.hid hv; clear hv
              have v0 : wr.cell? ⟨w2.heap.size, 0, none⟩ = some (.int .u32 (u32v v.a)) := hV.cell 0
              have v1 : wr.cell? ⟨w2.heap.size, 1, none⟩ = some (.int .u32 (u32v v.b)) := hV.cell 1
              have v2 : wr.cell? ⟨w2.heap.size, 2, none⟩ = some (.int .u32 (u32v v.c)) := hV.cell 2
              have v3 : wr.cell? ⟨w2.heap.size, 3, none⟩ = some (.int .u32 (u32v v.d)) := hV.cell 3
              have v4 : wr.cell? ⟨w2.heap.size, 4, none⟩ = some (.int .u32 (u32v v.e)) := hV.cell 4
              have v5 : wr.cell? ⟨w2.heap.size, 5, none⟩ = some (.int .u32 (u32v v.f)) := hV.cell 5
              have v6 : wr.cell? ⟨w2.heap.size, 6, none⟩ = some (.int .u32 (u32v v.g)) := hV.cell 6
              have v7 : wr.cell? ⟨w2.heap.size, 7, none⟩ = some (.int .u32 (u32v v.h)) := hV.cell 7
              go_wp2
              go_quiet (fail)
              go_wp2
              go_quiet ((go_at_call 209; exact quiet_add_same (turn_any _ _ _ (by omega))))
              go_wp2
              go_quiet ((go_at_call 209; exact quiet_add_same (turn_any _ _ _ (by omega))))
              have f0 := hV.frozen 0
              have f1 := hV.frozen 1
              have f2 := hV.frozen 2
              have f3 := hV.frozen 3
              have f4 := hV.frozen 4
              have f5 := hV.frozen 5
              have f6 := hV.frozen 6
              have f7 := hV.frozen 7
              go_wp2
              go_roundw
              case rel =>
                refine ⟨t + 1, by omega, by go_num, ?_, ?_⟩
                · rw [rnds, ← Hv.out]
                  simp only [sum_left_u32, sum_right_u32, mod_add_u32]
                  exact blk8 (hV.drewN _) rfl _ _ _ _ _ _ _ _
                · exact (((((((((below_drewN hbel3 _).setCell (Nat.le_refl _) _).setCell (Nat.le_refl _) _).setCell (Nat.le_refl _) _).setCell (Nat.le_refl _) _).setCell (Nat.le_refl _) _).setCell (Nat.le_refl _) _).setCell (Nat.le_refl _) _).setCell (Nat.le_refl _) _)
              case measure => simp [intOf]; omega
            · have e64' : t = 64 := by omega
              subst e64'
              clear ht hlt
              obtain ⟨w3, rfl⟩ : ∃ w3 : World, w3 = wr := ⟨_, rfl⟩
              obtain ⟨V, hVd⟩ : ∃ V, V = rnds (sched bs 48) s 64 := ⟨_, rfl⟩
              rw [← hVd] at hV
              have HV := Lib.hid hVd; clear hVd
              have hs3 := hs2.below hbel3 (by have := hbel.size; omega)
              have hgw : w.grownBy w3 (some g) := ⟨hbel3.os.trans hbel.os, hbel3.tape.trans hbel.tape, hbel3.output.trans hbel.output, Nat.le_trans hbel.size hbel3.size,
                fun j hj _ => (hbel3.block j (by have := hbel.size; omega)).trans (hbel.block j hj)⟩
              have hne : g ≠ w2.heap.size := by have := hbel.size; omega
              rw [cells_list] at hs3 hV
              have hlV : V.list.length = 8 := rfl
              have hlS : s.list.length = 8 := rfl
              have HlV := Lib.hid hlV; clear hlV
              have HlS := Lib.hid hlS; clear hlS
              go_wp2
              simp only [Int.cast_ofNat_Int]
              go_loopw [183] (fun i wr => ∃ t : Nat, t ≤ 8 ∧ i = .int .i64 t ∧ Blk wr g 209 (w32s (addTo t s.list V.list)).toArray ∧ Blk wr w2.heap.size 209 (w32s V.list).toArray ∧ w.grownBy wr (some g)) (fun i _ => 8 - (intOf i).toNat)
              case atStart => exact ⟨0, by omega, rfl, by rw [addTo_zero]; exact hs3, hV, hgw⟩
              case round =>
                clear hs3 hV hgw
                obtain ⟨t, ht, rfl, hG, hV, hgw⟩ := hrel
                by_cases hlt : t < 8
                · have cG : wr.cell? ⟨g, t, none⟩ = some (.int .u32 (u32v (wordAt s.list t))) := by
                    rw [hG.cell, w32s_hit _ _ (by rw [addTo_length _ _ _ (by rw [HlS.out]; omega) (by rw [HlS.out, HlV.out]), HlS.out]; omega), addTo_at _ _ _ (by rw [HlS.out]; omega) (by rw [HlS.out, HlV.out])]
                  have cV : wr.cell? ⟨w2.heap.size, t, none⟩ = some (.int .u32 (u32v (wordAt V.list t))) := by
                    rw [hV.cell, w32s_hit _ _ (by rw [HlV.out]; omega)]
                  have fG := hG.frozen t
                  go_wp2
                  go_region
                  all_goals go_wp2
                  go_roundw
                  case rel =>
                    refine ⟨t + 1, by omega, by go_num, ?_, ?_, ?_⟩
                    · have h := (hG.set t (.int .u32 (u32v (wordAt s.list t + wordAt V.list t))))
                      rw [w32s_set, addTo_set _ _ _ (by rw [HlS.out]; omega) (by rw [HlS.out, HlV.out])] at h
                      exact h
                    · exact hV.far (p := ⟨g, t, none⟩) hne.symm _
                    · exact ⟨hgw.os, hgw.tape, hgw.output, by simpa [World.setCell] using hgw.size, fun j hj hn => (Below.heap_setCell _ _ _ j (by intro e; exact hn (by rw [e]))).trans (hgw.block j hj hn)⟩
                  case measure => simp [intOf]; omega
                · have e8 : t = 8 := by omega
                  subst e8
                  go_wp2
                  go_end0
                  refine ⟨rfl, ?_, hgw⟩
                  rw [addTo_all, HV.out] at hG
                  exact hG
end Go.Proofs.Ytillnpllcfleeaa
