/- New variables, the block told by a letter; whole rows stored and loaded. No condition. -/
import Derived.Test.YtillnpllcfleeaaApp2
namespace Go.Proofs.Ytillnpllcfleeaa
open Go Go.RowKit

section
variable {P : Program} {ops : Array Oper} {rest : List Oper} {o : Oper} {a : Act} {w : World} {Q : Exit → Act → World → Prop}
theorem alloc_abs (hg : o.guard = none) (t : TypeId) (hop : o.op = .alloc t) (cs : Array Value) (hz : ((P.info? t).bind (·.zero)).map (·.cells) = some cs)
    (h : ∀ g w', w.heap.size ≤ g → g < w'.heap.size → Blk w' g t cs → Below w.heap.size w w' → wpList P ops Q rest (a.put o.dst (.pointer (some ⟨g, 0, none⟩))) w') : wpList P ops Q (o :: rest) a w := by
  refine wpList_plain hg fun K hK => ?_
  cases hi : P.info? t with
  | none => simp [hi] at hz
  | some i =>
    cases hq : i.zero with
    | none => simp [hi, hq] at hz
    | some z =>
      have hz' : z.cells = cs := by simpa [hi, hq] using hz
      unfold Oper.wp
      simp [execOp, hop, Instr.alloc, zeroValue, typeInfo, hi, hq, newVar, newRow, hz']
      exact hK _ _ (h _ _ (Nat.le_refl _) (by simp) (Blk.new w t cs) ((Below.refl _ _).alloc (Nat.le_refl _) _))
theorem box_abs (hg : o.guard = none) (t : TypeId) (x : Operand) (hop : o.op = .box t x) (cs : Array Value) (hx : (a.eval x).cells = cs)
    (h : ∀ g w', w.heap.size ≤ g → g < w'.heap.size → Blk w' g t cs → Below w.heap.size w w' → wpList P ops Q rest (a.put o.dst (.pointer (some ⟨g, 0, none⟩))) w') : wpList P ops Q (o :: rest) a w := by
  refine wpList_plain hg fun K hK => ?_
  unfold Oper.wp
  simp [execOp, hop, Instr.box, newVar, newRow, hx]
  exact hK _ _ (h _ _ (Nat.le_refl _) (by simp) (Blk.new w t cs) ((Below.refl _ _).alloc (Nat.le_refl _) _))
end

section
variable {ops : Array Oper} {rest : List Oper} {o : Oper} {a : Act} {w : World} {Q : Exit → Act → World → Prop}
theorem run_lit81 (w : World) (z : Int) : (Instr.buildSlice 28 1 #[(0, .int .u8 z)]).run Try.prog w = .ok (.slice (some ⟨w.heap.size, 0, none⟩) 1 1) (w.alloc (.cells #[.int .u8 z] 5)) := by
  obtain ⟨i, hi, hz0, hz1, hz2⟩ := info_parts info5
  simp [Instr.buildSlice, run_underlying Try.underlying28, sizeOf, typeInfo, zeroValue, hi, hz0, hz1, Instr.fill, newRow, Value.cells, show Array.range 1 = #[0] from rfl]
theorem run_lit80 (w : World) : (Instr.buildSlice 28 0 #[]).run Try.prog w = .ok (.slice (some ⟨w.heap.size, 0, none⟩) 0 0) (w.alloc (.cells #[] 5)) := by
  obtain ⟨i, hi, hz0, hz1, hz2⟩ := info_parts info5
  simp [Instr.buildSlice, run_underlying Try.underlying28, sizeOf, typeInfo, hi, Instr.fill, newRow, show Array.range 0 = #[] from rfl]
/-- a slice of one, new -/
theorem mk81 (hg : o.guard = none) (x : Operand) (hop : o.op = .buildSlice 28 1 #[(0, x)]) (z : Int) (y : UInt8) (hx : a.eval x = .int .u8 z) (hz : z = u8v y)
    (h : ∀ g w', w.heap.size ≤ g → g < w'.heap.size → Own w' w.heap.size (.slice (some ⟨g, 0, none⟩) 1 1) [y] → Below w.heap.size w w' → wpList Try.prog ops Q rest (a.put o.dst (.slice (some ⟨g, 0, none⟩) 1 1)) w') : wpList Try.prog ops Q (o :: rest) a w := by
  refine wpList_plain hg fun K hK => ?_
  subst hz
  unfold Oper.wp
  simp only [execOp, hop, hx, List.map_toArray, List.map_cons, List.map_nil, Sem.run_bind, Sem.run_pure, run_lit81 w (u8v y), Result.andThen_ok]
  exact hK _ _ (h _ _ (Nat.le_refl _) (by simp) (Own.new w _ (Nat.le_refl _) [y] 1 rfl (by decide) _ rfl) ((Below.refl _ _).alloc (Nat.le_refl _) _))
/-- a slice of none, new -/
theorem mk80 (hg : o.guard = none) (hop : o.op = .buildSlice 28 0 #[])
    (h : ∀ g w', w.heap.size ≤ g → g < w'.heap.size → Own w' w.heap.size (.slice (some ⟨g, 0, none⟩) 0 0) [] → Below w.heap.size w w' → wpList Try.prog ops Q rest (a.put o.dst (.slice (some ⟨g, 0, none⟩) 0 0)) w') : wpList Try.prog ops Q (o :: rest) a w := by
  refine wpList_plain hg fun K hK => ?_
  unfold Oper.wp
  simp only [execOp, hop, List.map_toArray, List.map_nil, Sem.run_bind, Sem.run_pure, run_lit80 w, Result.andThen_ok]
  exact hK _ _ (h _ _ (Nat.le_refl _) (by simp) (Own.new w _ (Nat.le_refl _) [] 0 rfl (by decide) _ rfl) ((Below.refl _ _).alloc (Nat.le_refl _) _))
end

section
variable {ops : Array Oper} {rest : List Oper} {o : Oper} {a : Act} {w : World} {Q : Exit → Act → World → Prop}
theorem run_litW1 (w : World) (z : Int) : (Instr.buildSlice 216 1 #[(0, .int .u32 z)]).run Try.prog w = .ok (.slice (some ⟨w.heap.size, 0, none⟩) 1 1) (w.alloc (.cells #[.int .u32 z] 79)) := by
  obtain ⟨i, hi, hz0, hz1, hz2⟩ := info_parts info79
  simp [Instr.buildSlice, run_underlying Try.underlying216, sizeOf, typeInfo, zeroValue, hi, hz0, hz1, Instr.fill, newRow, Value.cells, show Array.range 1 = #[0] from rfl]
theorem run_litW0 (w : World) : (Instr.buildSlice 216 0 #[]).run Try.prog w = .ok (.slice (some ⟨w.heap.size, 0, none⟩) 0 0) (w.alloc (.cells #[] 79)) := by
  obtain ⟨i, hi, hz0, hz1, hz2⟩ := info_parts info79
  simp [Instr.buildSlice, run_underlying Try.underlying216, sizeOf, typeInfo, hi, Instr.fill, newRow, show Array.range 0 = #[] from rfl]
/-- a slice of one, new -/
theorem mkW1 (hg : o.guard = none) (x : Operand) (hop : o.op = .buildSlice 216 1 #[(0, x)]) (z : Int) (y : UInt32) (hx : a.eval x = .int .u32 z) (hz : z = u32v y)
    (h : ∀ g w', w.heap.size ≤ g → g < w'.heap.size → OwnW w' w.heap.size (.slice (some ⟨g, 0, none⟩) 1 1) [y] → Below w.heap.size w w' → wpList Try.prog ops Q rest (a.put o.dst (.slice (some ⟨g, 0, none⟩) 1 1)) w') : wpList Try.prog ops Q (o :: rest) a w := by
  refine wpList_plain hg fun K hK => ?_
  subst hz
  unfold Oper.wp
  simp only [execOp, hop, hx, List.map_toArray, List.map_cons, List.map_nil, Sem.run_bind, Sem.run_pure, run_litW1 w (u32v y), Result.andThen_ok]
  exact hK _ _ (h _ _ (Nat.le_refl _) (by simp) (OwnW.new w _ (Nat.le_refl _) [y] 1 rfl (by decide) _ rfl) ((Below.refl _ _).alloc (Nat.le_refl _) _))
/-- a slice of none, new -/
theorem mkW0 (hg : o.guard = none) (hop : o.op = .buildSlice 216 0 #[])
    (h : ∀ g w', w.heap.size ≤ g → g < w'.heap.size → OwnW w' w.heap.size (.slice (some ⟨g, 0, none⟩) 0 0) [] → Below w.heap.size w w' → wpList Try.prog ops Q rest (a.put o.dst (.slice (some ⟨g, 0, none⟩) 0 0)) w') : wpList Try.prog ops Q (o :: rest) a w := by
  refine wpList_plain hg fun K hK => ?_
  unfold Oper.wp
  simp only [execOp, hop, List.map_toArray, List.map_nil, Sem.run_bind, Sem.run_pure, run_litW0 w, Result.andThen_ok]
  exact hK _ _ (h _ _ (Nat.le_refl _) (by simp) (OwnW.new w _ (Nat.le_refl _) [] 0 rfl (by decide) _ rfl) ((Below.refl _ _).alloc (Nat.le_refl _) _))
end

theorem Own.wk {w : World} {base b : Nat} {v : Value} {xs : List UInt8} (h : Own w base v xs) (hb : b ≤ base) : Own w b v xs := by
  refine ⟨h.1, ?_⟩
  rcases h.2 with h0 | ⟨g, cap, cur, hv, hg, r⟩
  · exact .inl h0
  · exact .inr ⟨g, cap, cur, hv, by omega, r⟩
theorem OwnW.wk {w : World} {base b : Nat} {v : Value} {xs : List UInt32} (h : OwnW w base v xs) (hb : b ≤ base) : OwnW w b v xs := by
  refine ⟨h.1, ?_⟩
  rcases h.2 with h0 | ⟨g, cap, cur, hv, hg, r⟩
  · exact .inl h0
  · exact .inr ⟨g, cap, cur, hv, by omega, r⟩
theorem grown_of_below {a b : World} {row : Option Nat} (h : Below a.heap.size a b) : a.grownBy b row := ⟨h.os, h.tape, h.output, h.size, fun k hk _ => h.block k hk⟩
theorem grownB {a b c : World} {row : Option Nat} (h : a.grownBy b row) (k : Below b.heap.size b c) : a.grownBy c row := grownBy_trans h (grown_of_below k)
theorem grownBy_set {a b : World} {g : Nat} (h : a.grownBy b (some g)) (i : Nat) (u : Value) : a.grownBy (b.setCell ⟨g, i, none⟩ u) (some g) := grownBy_trans h (grownBy_setCell b ⟨g, i, none⟩ u)
theorem grownBy_drew {a b : World} {row : Option Nat} (h : a.grownBy b row) : a.grownBy b.drew row := ⟨h.os, h.tape, h.output, h.size, h.block⟩
theorem grownBy_drewN {a b : World} {row : Option Nat} (h : a.grownBy b row) (n : Nat) : a.grownBy (b.drewN n) row := ⟨h.os, h.tape, h.output, h.size, h.block⟩
theorem below_undrewN {B : Nat} {a b : World} {n : Nat} (h : Below B (a.drewN n) b) : Below B a b := ⟨h.os, h.tape, h.output, h.size, h.block⟩
theorem below_undrew {B : Nat} {a b : World} (h : Below B a.drew b) : Below B a b := ⟨h.os, h.tape, h.output, h.size, h.block⟩
theorem size_drewN (w : World) (n : Nat) : (w.drewN n).heap.size = w.heap.size := rfl
theorem grownBy_undrewN {a b : World} {n : Nat} {row : Option Nat} (h : (a.drewN n).grownBy b row) : a.grownBy b row := ⟨h.os, h.tape, h.output, h.size, h.block⟩

/-! whole arrays of bytes -/
section
variable {ops : Array Oper} {rest : List Oper} {o : Oper} {a : Act} {w : World} {Q : Exit → Act → World → Prop}
theorem ldB (hgd : o.guard = none) (t : TypeId) (x : Operand) (ho : o.op = .load t x) (g : Nat) (hx : a.eval x = .pointer (some ⟨g, 0, none⟩)) (l : List UInt8) (hb : BlB w g t l) (n : Nat) (hu : Try.prog.underlying t = some (.array n 5))
    (hi : (Try.prog.info? t).map (·.size) = some n) (hl : l.length = n) (h : wpList Try.prog ops Q rest (a.put o.dst (.agg (b8s l).toArray)) w) : wpList Try.prog ops Q (o :: rest) a w :=
  wpList_load_row hgd t x ho g hx t _ (0, 0) _ hb hu rfl (hi.trans (congrArg some (by rw [b8s_size, hl]))) h
theorem stB (hgd : o.guard = none) (t : TypeId) (x y : Operand) (ho : o.op = .store t x y) (g : Nat) (hx : a.eval x = .pointer (some ⟨g, 0, none⟩)) (l : List UInt8) (hy : a.eval y = .agg (b8s l).toArray) (old : List UInt8) (hb : BlB w g t old)
    (n : Nat) (hi : (Try.prog.info? t).map (·.size) = some n) (hl : l.length = n) (hol : old.length = n)
    (h : ∀ w', BlB w' g t l → w.grownBy w' (some g) → wpList Try.prog ops Q rest (a.put o.dst undef) w') : wpList Try.prog ops Q (o :: rest) a w :=
  wpList_store_abs hgd t x y ho g _ hx hy t _ hb n hi (by rw [b8s_size, hl]) (by rw [b8s_size, hol]) (b8s_allOne l) h
end
theorem retB {fn : Func} {tmps : Array Value} {w : World} {t : TypeId} {u : Tmp} (h : fn.results = #[.cell u t]) (g : Nat) (hx : tmps.getD u undef = .pointer (some ⟨g, 0, none⟩)) (l : List UInt8) (hb : BlB w g t l) (n : Nat)
    (hu : Try.prog.underlying t = some (.array n 5)) (hi : (Try.prog.info? t).map (·.size) = some n) (hl : l.length = n) : (results fn tmps).run Try.prog w = .ok (.agg (b8s l).toArray) w :=
  results_cell_row h _ _ g t _ (0, 0) _ hx hb hu rfl (hi.trans (congrArg some (by rw [b8s_size, hl])))
end Go.Proofs.Ytillnpllcfleeaa
