/- New variables, the block told by a letter; whole rows stored and loaded. No condition. -/
import Derived.Test.YtillnpllcfleeaaApp2
import Derived.Laws.CopyOwn
namespace Go.Proofs.Ytillnpllcfleeaa
open Go Go.RowKit

section
variable {P : Program} {ops : Array Oper} {rest : List Oper} {o : Oper} {a : Act} {w : World} {Q : Exit → Act → World → Prop}
theorem alloc_abs (hg : o.guard = none) (t : TypeId) (hop : o.op = .alloc t) (cs : Array Value) (hz : ((P.info? t).bind (·.zero)).map (·.cells) = some cs)
    (h : ∀ g w', w.heap.size ≤ g → g < w'.heap.size → Blk w' g t cs → Below w.heap.size w w' → wpList P ops Q rest (a.put o.dst (.pointer (some ⟨g, 0, none⟩))) w') : wpList P ops Q (o :: rest) a w := by
  refine wpList_plain hg fun K hK => ?_
  cases hi : P.info? t with
  | none => simp [hi] at hz
  | some i =>
    cases hq : i.zero with
    | none => simp [hi, hq] at hz
    | some z =>
      have hz' : z.cells = cs := by simpa [hi, hq] using hz
      unfold Oper.wp
      simp [execOp, hop, Instr.alloc, zeroValue, typeInfo, hi, hq, newVar, newRow, hz']
      exact hK _ _ (h _ _ (Nat.le_refl _) (by simp) (Blk.new w t cs) ((Below.refl _ _).alloc (Nat.le_refl _) _))
theorem box_abs (hg : o.guard = none) (t : TypeId) (x : Operand) (hop : o.op = .box t x) (cs : Array Value) (hx : (a.eval x).cells = cs)
    (h : ∀ g w', w.heap.size ≤ g → g < w'.heap.size → Blk w' g t cs → Below w.heap.size w w' → wpList P ops Q rest (a.put o.dst (.pointer (some ⟨g, 0, none⟩))) w') : wpList P ops Q (o :: rest) a w := by
  refine wpList_plain hg fun K hK => ?_
  unfold Oper.wp
  simp [execOp, hop, Instr.box, newVar, newRow, hx]
  exact hK _ _ (h _ _ (Nat.le_refl _) (by simp) (Blk.new w t cs) ((Below.refl _ _).alloc (Nat.le_refl _) _))
end

section
variable {ops : Array Oper} {rest : List Oper} {o : Oper} {a : Act} {w : World} {Q : Exit → Act → World → Prop}
theorem run_lit81 (w : World) (z : Int) : (Instr.buildSlice 28 1 #[(0, .int .u8 z)]).run Try.prog w = .ok (.slice (some ⟨w.heap.size, 0, none⟩) 1 1) (w.alloc (.cells #[.int .u8 z] 5)) := by
  obtain ⟨i, hi, hz0, hz1, hz2⟩ := info_parts info5
  simp [Instr.buildSlice, run_underlying Try.underlying28, sizeOf, typeInfo, zeroValue, hi, hz0, hz1, Instr.fill, newRow, Value.cells, show Array.range 1 = #[0] from rfl]
theorem run_lit80 (w : World) : (Instr.buildSlice 28 0 #[]).run Try.prog w = .ok (.slice (some ⟨w.heap.size, 0, none⟩) 0 0) (w.alloc (.cells #[] 5)) := by
  obtain ⟨i, hi, hz0, hz1, hz2⟩ := info_parts info5
  simp [Instr.buildSlice, run_underlying Try.underlying28, sizeOf, typeInfo, hi, Instr.fill, newRow, show Array.range 0 = #[] from rfl]
/-- a slice of one, new -/
theorem mk81 (hg : o.guard = none) (x : Operand) (hop : o.op = .buildSlice 28 1 #[(0, x)]) (z : Int) (y : UInt8) (hx : a.eval x = .int .u8 z) (hz : z = u8v y)
    (h : ∀ g w', w.heap.size ≤ g → g < w'.heap.size → Own w' w.heap.size (.slice (some ⟨g, 0, none⟩) 1 1) [y] → Below w.heap.size w w' → wpList Try.prog ops Q rest (a.put o.dst (.slice (some ⟨g, 0, none⟩) 1 1)) w') : wpList Try.prog ops Q (o :: rest) a w := by
  refine wpList_plain hg fun K hK => ?_
  subst hz
  unfold Oper.wp
  simp only [execOp, hop, hx, List.map_toArray, List.map_cons, List.map_nil, Sem.run_bind, Sem.run_pure, run_lit81 w (u8v y), Result.andThen_ok]
  exact hK _ _ (h _ _ (Nat.le_refl _) (by simp) (Own.new w _ (Nat.le_refl _) [y] 1 rfl (by decide) _ rfl) ((Below.refl _ _).alloc (Nat.le_refl _) _))
/-- a slice of none, new -/
theorem mk80 (hg : o.guard = none) (hop : o.op = .buildSlice 28 0 #[])
    (h : ∀ g w', w.heap.size ≤ g → g < w'.heap.size → Own w' w.heap.size (.slice (some ⟨g, 0, none⟩) 0 0) [] → Below w.heap.size w w' → wpList Try.prog ops Q rest (a.put o.dst (.slice (some ⟨g, 0, none⟩) 0 0)) w') : wpList Try.prog ops Q (o :: rest) a w := by
  refine wpList_plain hg fun K hK => ?_
  unfold Oper.wp
  simp only [execOp, hop, List.map_toArray, List.map_nil, Sem.run_bind, Sem.run_pure, run_lit80 w, Result.andThen_ok]
  exact hK _ _ (h _ _ (Nat.le_refl _) (by simp) (Own.new w _ (Nat.le_refl _) [] 0 rfl (by decide) _ rfl) ((Below.refl _ _).alloc (Nat.le_refl _) _))
end

section
variable {ops : Array Oper} {rest : List Oper} {o : Oper} {a : Act} {w : World} {Q : Exit → Act → World → Prop}
theorem run_litW1 (w : World) (z : Int) : (Instr.buildSlice 216 1 #[(0, .int .u32 z)]).run Try.prog w = .ok (.slice (some ⟨w.heap.size, 0, none⟩) 1 1) (w.alloc (.cells #[.int .u32 z] 79)) := by
  obtain ⟨i, hi, hz0, hz1, hz2⟩ := info_parts info79
  simp [Instr.buildSlice, run_underlying Try.underlying216, sizeOf, typeInfo, zeroValue, hi, hz0, hz1, Instr.fill, newRow, Value.cells, show Array.range 1 = #[0] from rfl]
theorem run_litW0 (w : World) : (Instr.buildSlice 216 0 #[]).run Try.prog w = .ok (.slice (some ⟨w.heap.size, 0, none⟩) 0 0) (w.alloc (.cells #[] 79)) := by
  obtain ⟨i, hi, hz0, hz1, hz2⟩ := info_parts info79
  simp [Instr.buildSlice, run_underlying Try.underlying216, sizeOf, typeInfo, hi, Instr.fill, newRow, show Array.range 0 = #[] from rfl]
/-- a slice of one, new -/
theorem mkW1 (hg : o.guard = none) (x : Operand) (hop : o.op = .buildSlice 216 1 #[(0, x)]) (z : Int) (y : UInt32) (hx : a.eval x = .int .u32 z) (hz : z = u32v y)
    (h : ∀ g w', w.heap.size ≤ g → g < w'.heap.size → OwnW w' w.heap.size (.slice (some ⟨g, 0, none⟩) 1 1) [y] → Below w.heap.size w w' → wpList Try.prog ops Q rest (a.put o.dst (.slice (some ⟨g, 0, none⟩) 1 1)) w') : wpList Try.prog ops Q (o :: rest) a w := by
  refine wpList_plain hg fun K hK => ?_
  subst hz
  unfold Oper.wp
  simp only [execOp, hop, hx, List.map_toArray, List.map_cons, List.map_nil, Sem.run_bind, Sem.run_pure, run_litW1 w (u32v y), Result.andThen_ok]
  exact hK _ _ (h _ _ (Nat.le_refl _) (by simp) (OwnW.new w _ (Nat.le_refl _) [y] 1 rfl (by decide) _ rfl) ((Below.refl _ _).alloc (Nat.le_refl _) _))
/-- a slice of none, new -/
theorem mkW0 (hg : o.guard = none) (hop : o.op = .buildSlice 216 0 #[])
    (h : ∀ g w', w.heap.size ≤ g → g < w'.heap.size → OwnW w' w.heap.size (.slice (some ⟨g, 0, none⟩) 0 0) [] → Below w.heap.size w w' → wpList Try.prog ops Q rest (a.put o.dst (.slice (some ⟨g, 0, none⟩) 0 0)) w') : wpList Try.prog ops Q (o :: rest) a w := by
  refine wpList_plain hg fun K hK => ?_
  unfold Oper.wp
  simp only [execOp, hop, List.map_toArray, List.map_nil, Sem.run_bind, Sem.run_pure, run_litW0 w, Result.andThen_ok]
  exact hK _ _ (h _ _ (Nat.le_refl _) (by simp) (OwnW.new w _ (Nat.le_refl _) [] 0 rfl (by decide) _ rfl) ((Below.refl _ _).alloc (Nat.le_refl _) _))
end

theorem Own.wk {w : World} {base b : Nat} {v : Value} {xs : List UInt8} (h : Own w base v xs) (hb : b ≤ base) : Own w b v xs := by
  refine ⟨h.1, ?_⟩
  rcases h.2 with h0 | ⟨g, cap, cur, hv, hg, r⟩
  · exact .inl h0
  · exact .inr ⟨g, cap, cur, hv, by omega, r⟩
/-- fewer elements of a row of the call's own -/
theorem Own.cut0 {w : World} {base : Nat} {A : Option Addr} {m c : Nat} {xs : List UInt8} (h : Own w base (.slice A m c) xs) (n : Nat) (hn : n ≤ xs.length) (h0 : 0 < n) : Own w base (.slice A n c) (xs.take n) := by
  have hl : (xs.take n).length = n := by rw [List.length_take]; omega
  rcases h.2 with ⟨_, h1⟩ | ⟨g, cap, cur, hv, hg, hh, hc, hm, hcs, ht⟩
  · omega
  · injection hv with e1 e2 e3
    subst e1 e2 e3
    refine ⟨by rw [b8s_length, Nat.mul_one], .inr ⟨g, c, cur, by rw [hl], hg, hh, by rw [hl]; omega, hm, hcs, ?_⟩⟩
    rw [hl, b8s_take, ← ht, Nat.mul_one, Nat.mul_one, List.take_take, Nat.min_eq_left hn]
theorem OwnW.wk {w : World} {base b : Nat} {v : Value} {xs : List UInt32} (h : OwnW w base v xs) (hb : b ≤ base) : OwnW w b v xs := by
  refine ⟨h.1, ?_⟩
  rcases h.2 with h0 | ⟨g, cap, cur, hv, hg, r⟩
  · exact .inl h0
  · exact .inr ⟨g, cap, cur, hv, by omega, r⟩
theorem grown_of_below {a b : World} {row : Option Nat} (h : Below a.heap.size a b) : a.grownBy b row := ⟨h.os, h.tape, h.output, h.size, fun k hk _ => h.block k hk⟩
theorem grownB {a b c : World} {row : Option Nat} (h : a.grownBy b row) (k : Below b.heap.size b c) : a.grownBy c row := grownBy_trans h (grown_of_below k)
theorem grownBy_set {a b : World} {g : Nat} (h : a.grownBy b (some g)) (i : Nat) (u : Value) : a.grownBy (b.setCell ⟨g, i, none⟩ u) (some g) := grownBy_trans h (grownBy_setCell b ⟨g, i, none⟩ u)
theorem grownBy_drew {a b : World} {row : Option Nat} (h : a.grownBy b row) : a.grownBy b.drew row := ⟨h.os, h.tape, h.output, h.size, h.block⟩
theorem grownBy_drewN {a b : World} {row : Option Nat} (h : a.grownBy b row) (n : Nat) : a.grownBy (b.drewN n) row := ⟨h.os, h.tape, h.output, h.size, h.block⟩
theorem below_undrewN {B : Nat} {a b : World} {n : Nat} (h : Below B (a.drewN n) b) : Below B a b := ⟨h.os, h.tape, h.output, h.size, h.block⟩
theorem below_undrew {B : Nat} {a b : World} (h : Below B a.drew b) : Below B a b := ⟨h.os, h.tape, h.output, h.size, h.block⟩
theorem size_drewN (w : World) (n : Nat) : (w.drewN n).heap.size = w.heap.size := rfl
theorem grownBy_undrewN {a b : World} {n : Nat} {row : Option Nat} (h : (a.drewN n).grownBy b row) : a.grownBy b row := ⟨h.os, h.tape, h.output, h.size, h.block⟩

/-! whole arrays of bytes -/
section
variable {ops : Array Oper} {rest : List Oper} {o : Oper} {a : Act} {w : World} {Q : Exit → Act → World → Prop}
theorem ldB (hgd : o.guard = none) (t : TypeId) (x : Operand) (ho : o.op = .load t x) (g : Nat) (hx : a.eval x = .pointer (some ⟨g, 0, none⟩)) (l : List UInt8) (hb : BlB w g t l) (n : Nat) (hu : Try.prog.underlying t = some (.array n 5))
    (hi : (Try.prog.info? t).map (·.size) = some n) (hl : l.length = n) (h : wpList Try.prog ops Q rest (a.put o.dst (.agg (b8s l).toArray)) w) : wpList Try.prog ops Q (o :: rest) a w :=
  wpList_load_row hgd t x ho g hx t _ (0, 0) _ hb hu rfl (hi.trans (congrArg some (by rw [b8s_size, hl]))) h
theorem stB (hgd : o.guard = none) (t : TypeId) (x y : Operand) (ho : o.op = .store t x y) (g : Nat) (hx : a.eval x = .pointer (some ⟨g, 0, none⟩)) (l : List UInt8) (hy : a.eval y = .agg (b8s l).toArray) (old : List UInt8) (hb : BlB w g t old)
    (n : Nat) (hi : (Try.prog.info? t).map (·.size) = some n) (hl : l.length = n) (hol : old.length = n)
    (h : ∀ w', BlB w' g t l → w.grownBy w' (some g) → wpList Try.prog ops Q rest (a.put o.dst undef) w') : wpList Try.prog ops Q (o :: rest) a w :=
  wpList_store_abs hgd t x y ho g _ hx hy t _ hb n hi (by rw [b8s_size, hl]) (by rw [b8s_size, hol]) (b8s_allOne l) h
end
theorem retB {fn : Func} {tmps : Array Value} {w : World} {t : TypeId} {u : Tmp} (h : fn.results = #[.cell u t]) (g : Nat) (hx : tmps.getD u undef = .pointer (some ⟨g, 0, none⟩)) (l : List UInt8) (hb : BlB w g t l) (n : Nat)
    (hu : Try.prog.underlying t = some (.array n 5)) (hi : (Try.prog.info? t).map (·.size) = some n) (hl : l.length = n) : (results fn tmps).run Try.prog w = .ok (.agg (b8s l).toArray) w :=
  results_cell_row h _ _ g t _ (0, 0) _ hx hb hu rfl (hi.trans (congrArg some (by rw [b8s_size, hl])))
theorem grown_far {a b c : World} {row : Option Nat} {g : Nat} (h : a.grownBy b row) (k : b.grownBy c (some g)) (hg : a.heap.size ≤ g) : a.grownBy c row :=
  ⟨k.os.trans h.os, k.tape.trans h.tape, k.output.trans h.output, Nat.le_trans h.size k.size, fun i hi hn => (k.block i (Nat.lt_of_lt_of_le hi h.size) (fun e => by injection e with e; omega)).trans (h.block i hi hn)⟩

/-! cuts of arrays of bytes, by their address -/
section
variable {t n : Nat} (hu : Try.prog.underlying t = some (.array n 5)) (W : World) (g o : Nat)
include hu
theorem arr_len : Try.prog.arrayLen t = n := by simp [Program.arrayLen, hu]
theorem arr_elem : Try.prog.elem t = 5 := by simp [Program.elem, hu]
theorem cutP_lh (l h : Nat) (zl zh : Int) (kl kh : IntKind) (hzl : zl = (l : Int)) (hzh : zh = (h : Int)) (hlh : l ≤ h) (hh : h ≤ n) (hl : l < n) :
    (Instr.sliceAt t (.pointer (some ⟨g, o, none⟩)) (some (.int kl zl)) (some (.int kh zh)) none).run Try.prog W = .ok (.slice (some ⟨g, o + l, none⟩) (h - l) (n - l)) W := by
  subst hzl hzh
  have e1 := arr_len hu
  have e2 := arr_elem hu
  rw [run_sliceAt_array_lh W t ⟨g, o, none⟩ (by rw [e1, e2]; exact hu) kl kh l h (by omega) (by omega) (by rw [e1]; omega), e2, size5, e1]
  simp only [Result.andThen_ok, slicedAt, Int.toNat_natCast]
  rw [if_neg (by omega), Nat.mul_one, add_none]
theorem cutP_l (l : Nat) (zl : Int) (kl : IntKind) (hzl : zl = (l : Int)) (hl : l < n) :
    (Instr.sliceAt t (.pointer (some ⟨g, o, none⟩)) (some (.int kl zl)) none none).run Try.prog W = .ok (.slice (some ⟨g, o + l, none⟩) (n - l) (n - l)) W := by
  subst hzl
  have e1 := arr_len hu
  have e2 := arr_elem hu
  rw [run_sliceAt_array_l W t ⟨g, o, none⟩ (by rw [e1, e2]; exact hu) kl l (by omega) (by rw [e1]; omega), e2, size5, e1]
  simp only [Result.andThen_ok, slicedAt, Int.toNat_natCast]
  rw [if_neg (by omega), Nat.mul_one, add_none]
theorem cutP_all : (Instr.sliceAt t (.pointer (some ⟨g, o, none⟩)) none none none).run Try.prog W = .ok (.slice (some ⟨g, o, none⟩) n n) W := by
  have e1 := arr_len hu
  have e2 := arr_elem hu
  rw [run_sliceAt_array_all W t ⟨g, o, none⟩ (by rw [e1, e2]; exact hu), e2, size5, e1]
  simp only [Result.andThen_ok, slicedAt]
  split
  · rfl
  · rw [Nat.zero_mul, add_none]; rfl
end

/-! copy of bytes into a block of bytes -/
theorem b8s_splice (l m : List UInt8) (o : Nat) : splice (b8s l) o (b8s m) = b8s (splice l o m) := by
  unfold splice
  rw [b8s_append, b8s_append, b8s_take, b8s_drop, b8s_length]
theorem splice_mixTo {α : Type} (i n : Nat) (new old : List α) (h : new.length = old.length) (hi : i + n ≤ new.length) : splice (mixTo i new old) i ((new.drop i).take n) = mixTo (i + n) new old := by
  unfold splice mixTo
  have h1 : (new.take i).length = i := by rw [List.length_take]; omega
  have h2 : ((new.drop i).take n).length = n := by rw [List.length_take, List.length_drop]; omega
  rw [h2, List.take_append_of_le_length (by omega), List.take_of_length_le (by omega)]
  have h3 : (new.take i ++ old.drop i).drop (i + n) = old.drop (i + n) := by
    rw [List.drop_append, h1, List.drop_of_length_le (by omega), List.nil_append, List.drop_drop]
    congr 1; omega
  rw [h3, ← List.append_assoc]
  congr 1
  have := (List.take_append_drop i (new.take (i + n))).symm
  rw [this, List.take_take, Nat.min_eq_left (by omega), List.drop_take, Nat.add_sub_cancel_left]
theorem copyB {ops : Array Oper} {rest : List Oper} {o : Oper} {a : Act} {w : World} {Q : Exit → Act → World → Prop} (hgd : o.guard = none) (d s : Operand)
    (ho : o.op = .call { callee := .builtin .copy, args := #[d, s], argTypes := #[28, 28] }) (dp sp : Option Addr) (dLen dCap sLen sCap : Nat) (hd : a.eval d = .slice dp dLen dCap) (hs : a.eval s = .slice sp sLen sCap)
    (g off : Nat) (t : TypeId) (l : List UInt8) (hg : BlB w g t l) (Bs : Nat) (src : List UInt8) (hr : RdB w Bs sp src) (hsl : sLen = src.length) (hdp : 0 < dLen → dp = some ⟨g, off, none⟩) (hfit : off + dLen ≤ l.length)
    (B : Nat) (w0 : World) (hb : Below B w0 w) (hBg : B ≤ g) (h : ∀ w', BlB w' g t (splice l off (src.take dLen)) → Below B w0 w' → wpList Try.prog ops Q rest (a.put o.dst (goInt (src.take dLen).length)) w') :
    wpList Try.prog ops Q (o :: rest) a w := by
  obtain ⟨i, hi, hz0, hz1, hz2⟩ := info_parts info5
  have hl : (src.take dLen).length = Nat.min sLen dLen := by
    rw [List.length_take, hsl]
    exact Nat.min_comm _ _
  refine wpList_copy_splice hgd d s 28 28 ho 5 Try.underlying28 (by rw [hi]; exact congrArg some hz1) dp sp dLen dCap sLen sCap hd hs g off (b8s l) t hg (b8s (src.take dLen)) (by rw [b8s_length]; exact hl) ?_ ?_ (b8s_one _) B w0 hb hBg ?_
  · intro hpos
    rw [b8s_length, List.length_take] at hpos
    have hp1 : 0 < dLen := by omega
    have hp2 : 0 < src.length := by omega
    refine ⟨hdp hp1, ?_⟩
    obtain ⟨b, of, e, _, hc⟩ := hr.2 hp2
    refine ⟨_, e, fun j v hv => ?_⟩
    rw [add_none]
    rw [b8s_take, List.getElem?_take] at hv
    split at hv
    · exact hc j v hv
    · cases hv
  · rw [b8s_length, b8s_length, List.length_take]; omega
  · intro w' hG hB
    have h1 := hG.out
    rw [b8s_splice] at h1
    rw [b8s_length]
    exact h w' h1 hB

theorem mixTo_cut {α : Type} (i o n : Nat) (new old : List α) (h : o + n ≤ i) (hi : i ≤ new.length) : ((mixTo i new old).drop o).take n = (new.drop o).take n := by
  unfold mixTo
  have h1 : (new.take i).length = i := by rw [List.length_take]; omega
  rw [List.drop_append_of_le_length (by omega), List.take_append_of_le_length (by rw [List.length_drop]; omega), List.drop_take, List.take_take]
  congr 1; omega
/-- an array of bytes out of the midst of a block of bytes -/
theorem ldM {ops : Array Oper} {rest : List Oper} {o : Oper} {a : Act} {w : World} {Q : Exit → Act → World → Prop} (hgd : o.guard = none) (t : TypeId) (x : Operand) (ho : o.op = .load t x) (g off : Nat) (hx : a.eval x = .pointer (some ⟨g, off, none⟩))
    (T0 : TypeId) (l : List UInt8) (hb : BlB w g T0 l) (n : Nat) (hu : Try.prog.underlying t = some (.array n 5)) (hi : (Try.prog.info? t).map (·.size) = some n) (hfit : off + n ≤ l.length) (m : List UInt8) (hm : (l.drop off).take n = m)
    (h : wpList Try.prog ops Q rest (a.put o.dst (.agg (b8s m).toArray)) w) : wpList Try.prog ops Q (o :: rest) a w := by
  subst hm
  exact wpList_load_mid hgd t x ho g off hx _ _ (hb.range off n hfit) hu rfl (hi.trans (congrArg some (by rw [b8s_length, List.length_take, List.length_drop]; omega))) h

theorem grown_cell {a b : World} {row : Option Nat} (h : a.grownBy b row) (p : Addr) (hp : p.block < a.heap.size) (hn : some p.block ≠ row) : b.cell? p = a.cell? p := World.cell?_of_block (h.block p.block hp hn)

/-! a part of an array that is a value -/
theorem b8s_extract (l : List UInt8) (o m : Nat) : (b8s l).toArray.extract o (o + m) = (b8s ((l.drop o).take m)).toArray := by
  rw [List.extract_toArray, List.extract_eq_take_drop, Nat.add_sub_cancel_left, b8s_take, b8s_drop]
theorem run_index_arr {t e n m : Nat} (hu : Try.prog.underlying t = some (.array n e)) (hs : ∀ w, (sizeOf e).run Try.prog w = .ok m w) (ha : ∀ w, (isAgg e).run Try.prog w = .ok true w)
    (l : List UInt8) (i : Nat) (hi : i < n) (k : IntKind) (w : World) : (Instr.index t (.agg (b8s l).toArray) (.int k (i : Int))).run Try.prog w = .ok (.agg (b8s ((l.drop (i * m)).take m)).toArray) w := by
  have h0 : (0 : Int) ≤ (i : Int) ∧ (i : Int) < (n : Int) := by omega
  rw [← b8s_extract]
  simp [Instr.index, run_underlying hu, asIntOf, part, h0, hs, ha]
  intro hni; omega
/-- a whole array or struct, of bytes alone -/
theorem ldA {ops : Array Oper} {rest : List Oper} {o : Oper} {a : Act} {w : World} {Q : Exit → Act → World → Prop} (hgd : o.guard = none) (t : TypeId) (x : Operand) (ho : o.op = .load t x) (g : Nat) (hx : a.eval x = .pointer (some ⟨g, 0, none⟩)) (T0 : TypeId) (l : List UInt8) (hb : BlB w g T0 l)
    (n : Nat) (d : TypeDesc) (hd : d.isRow = true) (hu : Try.prog.underlying t = some d) (hi : (Try.prog.info? t).map (·.size) = some n) (hl : l.length = n) (h : wpList Try.prog ops Q rest (a.put o.dst (.agg (b8s l).toArray)) w) :
    wpList Try.prog ops Q (o :: rest) a w :=
  wpList_load_row hgd t x ho g hx T0 _ (0, 0) _ hb hu (by cases d <;> simp_all [TypeDesc.isRow]) (hi.trans (congrArg some (by rw [b8s_size, hl]))) h
theorem retA {fn : Func} {tmps : Array Value} {w : World} {t T0 : TypeId} {u : Tmp} (h : fn.results = #[.cell u t]) (g : Nat) (hx : tmps.getD u undef = .pointer (some ⟨g, 0, none⟩)) (l : List UInt8) (hb : BlB w g T0 l) (n : Nat)
    (d : TypeDesc) (hd : d.isRow = true) (hu : Try.prog.underlying t = some d) (hi : (Try.prog.info? t).map (·.size) = some n) (hl : l.length = n) : (results fn tmps).run Try.prog w = .ok (.agg (b8s l).toArray) w :=
  results_cell_row h _ _ g T0 _ (0, 0) _ hx hb hu (by cases d <;> simp_all [TypeDesc.isRow]) (hi.trans (congrArg some (by rw [b8s_size, hl])))

/-! an array of bytes into the midst of a block of bytes -/
theorem splice_cons (l m : List UInt8) (o : Nat) (x : UInt8) (h : o < l.length) : splice (l.set o x) (o + 1) m = splice l o (x :: m) := by
  unfold splice
  rw [List.length_cons, show o + 1 + m.length = o + (m.length + 1) by omega, List.drop_set_of_lt (by omega), List.take_set]
  rw [List.take_succ_eq_append_getElem h, List.set_append_right _ _ (by rw [List.length_take]; omega), List.length_take, Nat.min_eq_left (by omega), Nat.sub_self, List.set_cons_zero, List.append_assoc]
  rfl
theorem BlB.setCells {g : Nat} {t : TypeId} (m : List UInt8) : ∀ (l : List UInt8) (o : Nat) (w : World), BlB w g t l → o + m.length ≤ l.length → BlB (w.setCells g o (b8s m)) g t (splice l o m) := by
  induction m with
  | nil =>
    intro l o w h _
    have e : splice l o [] = l := by unfold splice; simp
    rw [e]; exact h
  | cons x m ih =>
    intro l o w h hl
    rw [List.length_cons] at hl
    have h1 := h.set o x
    have h2 := ih (l.set o x) (o + 1) _ h1 (by rw [List.length_set]; omega)
    rw [splice_cons l m o x (by omega)] at h2
    exact h2
theorem grownBy_setCells (g : Nat) (vs : List Value) : ∀ (o : Nat) (w : World), w.grownBy (w.setCells g o vs) (some g) := by
  induction vs with
  | nil => intro o w; exact grown_of_below (Below.refl _ _)
  | cons v vs ih =>
    intro o w
    exact grownBy_trans (grownBy_setCell w ⟨g, o, none⟩ v) (ih (o + 1) _)
theorem stM {ops : Array Oper} {rest : List Oper} {o : Oper} {a : Act} {w : World} {Q : Exit → Act → World → Prop} (hgd : o.guard = none) (t : TypeId) (x y : Operand) (ho : o.op = .store t x y) (g off : Nat) (hx : a.eval x = .pointer (some ⟨g, off, none⟩)) (m : List UInt8) (hy : a.eval y = .agg (b8s m).toArray)
    (T0 : TypeId) (l : List UInt8) (hb : BlB w g T0 l) (n : Nat) (hi : (Try.prog.info? t).map (·.size) = some n) (hm : m.length = n) (hfit : off + n ≤ l.length)
    (h : ∀ w', BlB w' g T0 (splice l off m) → w.grownBy w' (some g) → wpList Try.prog ops Q rest (a.put o.dst undef) w') : wpList Try.prog ops Q (o :: rest) a w := by
  refine wpList_store_mid hgd t x y ho g off _ hx hy (fun j hj => ?_) (hi.trans (congrArg some (by rw [b8s_size, hm]))) (b8s_allOne m) ?_
  · rw [b8s_size, hm] at hj
    exact ⟨by rw [hb.at (off + j) (by omega)]; rfl, Blk.frozen hb _⟩
  · exact h _ (BlB.setCells m l off w hb (by omega)) (grownBy_setCells g _ off w)
end Go.Proofs.Ytillnpllcfleeaa
