/- Blocks that hold any cells, told as lists: a piece read, a piece written; a struct built. No condition. -/
import Derived.Test.YtillnpllcfleeaaTexts
import Derived.Test.YtillnpllcfleeaaOrd4
namespace Go.Proofs.Ytillnpllcfleeaa
open Go Go.RowKit

section
variable {w : World} {g : Nat} {t : TypeId} {cs : List Value}
/-- a block that reads as a list of cells -/
def BlV (w : World) (g : Nat) (t : TypeId) (cs : List Value) : Prop := Blk w g t cs.toArray
theorem BlV.blk (h : BlV w g t cs) : Blk w g t cs.toArray := h
theorem BlV.at (h : BlV w g t cs) (i : Nat) : w.cell? ⟨g, i, none⟩ = cs[i]? := by
  rw [Blk.cell h, List.getElem?_toArray]
theorem BlV.range (h : BlV w g t cs) (o n : Nat) : w.rangeAt g o ((cs.drop o).take n) := by
  intro j v hv
  rw [List.getElem?_take] at hv
  split at hv
  · rw [Blk.cell h, List.getElem?_toArray]
    rw [List.getElem?_drop] at hv
    exact hv
  · cases hv
theorem BlV.rangeOf (h : BlV w g t cs) (o : Nat) (m : List Value) (hm : (cs.drop o).take m.length = m) : w.rangeAt g o m := by
  have := h.range o m.length
  rwa [hm] at this
theorem BlV.set (h : BlV w g t cs) (i : Nat) (u : Value) : BlV (w.setCell ⟨g, i, none⟩ u) g t (cs.set i u) := by
  have := Blk.set h i u
  rwa [List.setIfInBounds_toArray] at this
end
theorem spliceV_cons (l m : List Value) (o : Nat) (x : Value) (h : o < l.length) : splice (l.set o x) (o + 1) m = splice l o (x :: m) := by
  unfold splice
  rw [List.length_cons, show o + 1 + m.length = o + (m.length + 1) by omega, List.drop_set_of_lt (by omega), List.take_set]
  rw [List.take_succ_eq_append_getElem h, List.set_append_right _ _ (by rw [List.length_take]; omega), List.length_take, Nat.min_eq_left (by omega), Nat.sub_self, List.set_cons_zero, List.append_assoc]
  rfl
theorem BlV.setCells {g : Nat} {t : TypeId} (m : List Value) : ∀ (l : List Value) (o : Nat) (w : World), BlV w g t l → o + m.length ≤ l.length → BlV (w.setCells g o m) g t (splice l o m) := by
  induction m with
  | nil =>
    intro l o w h _
    have e : splice l o [] = l := by unfold splice; simp
    rw [e]; exact h
  | cons x m ih =>
    intro l o w h hl
    rw [List.length_cons] at hl
    have h1 := h.set o x
    have h2 := ih (l.set o x) (o + 1) _ h1 (by rw [List.length_set]; omega)
    rw [spliceV_cons l m o x (by omega)] at h2
    exact h2
section
variable {ops : Array Oper} {rest : List Oper} {o : Oper} {a : Act} {w : World} {Q : Exit → Act → World → Prop}
/-- cells into the midst of a block -/
theorem stV (hgd : o.guard = none) (t : TypeId) (x y : Operand) (ho : o.op = .store t x y) (g off : Nat) (hx : a.eval x = .pointer (some ⟨g, off, none⟩)) (m : List Value) (hy : a.eval y = .agg m.toArray)
    (T0 : TypeId) (l : List Value) (hb : BlV w g T0 l) (n : Nat) (hi : (Try.prog.info? t).map (·.size) = some n) (hm : m.length = n) (h1 : ∀ v ∈ m, v.oneCell' = true) (hfit : off + n ≤ l.length)
    (h : ∀ w', BlV w' g T0 (splice l off m) → w.grownBy w' (some g) → wpList Try.prog ops Q rest (a.put o.dst undef) w') : wpList Try.prog ops Q (o :: rest) a w := by
  refine wpList_store_mid hgd t x y ho g off _ hx hy (fun j hj => ?_) (hi.trans (congrArg some (by simp [hm]))) (by simpa using h1) ?_
  · have hj' : j < n := by simpa [hm] using hj
    exact ⟨by rw [hb.at, List.getElem?_eq_getElem (show off + j < l.length by omega)]; rfl, Blk.frozen hb _⟩
  · exact h _ (BlV.setCells m l off w hb (by omega)) (grownBy_setCells g _ off w)
/-- a whole row stored -/
theorem stW (hgd : o.guard = none) (t : TypeId) (x y : Operand) (ho : o.op = .store t x y) (g : Nat) (hx : a.eval x = .pointer (some ⟨g, 0, none⟩)) (m : List Value) (hy : a.eval y = .agg m.toArray)
    (l : List Value) (hb : BlV w g t l) (n : Nat) (hi : (Try.prog.info? t).map (·.size) = some n) (hm : m.length = n) (hl : l.length = n) (h1 : ∀ v ∈ m, v.oneCell' = true)
    (h : ∀ w', BlV w' g t m → w.grownBy w' (some g) → wpList Try.prog ops Q rest (a.put o.dst undef) w') : wpList Try.prog ops Q (o :: rest) a w :=
  wpList_store_abs hgd t x y ho g _ hx hy t _ hb n hi (by simp [hm]) (by simp [hl]) (by simpa using h1) h
/-- a piece loaded -/
theorem ldV (hgd : o.guard = none) (t : TypeId) (x : Operand) (ho : o.op = .load t x) (g off : Nat) (hx : a.eval x = .pointer (some ⟨g, off, none⟩)) (m : List Value) (hr : w.rangeAt g off m) (d : TypeDesc) (hd : d.isRow = true)
    (hu : Try.prog.underlying t = some d) (n : Nat) (hi : (Try.prog.info? t).map (·.size) = some n) (hm : m.length = n)
    (h : wpList Try.prog ops Q rest (a.put o.dst (.agg m.toArray)) w) : wpList Try.prog ops Q (o :: rest) a w :=
  wpList_load_mid hgd t x ho g off hx _ _ hr hu (by cases d <;> simp_all [TypeDesc.isRow]) (hi.trans (congrArg some hm.symm)) h
end
theorem retV {fn : Func} {tmps : Array Value} {w : World} {t T0 : TypeId} {u : Tmp} (h : fn.results = #[.cell u t]) (g : Nat) (hx : tmps.getD u undef = .pointer (some ⟨g, 0, none⟩)) (l : List Value) (hb : BlV w g T0 l) (n : Nat)
    (d : TypeDesc) (hd : d.isRow = true) (hu : Try.prog.underlying t = some d) (hi : (Try.prog.info? t).map (·.size) = some n) (hl : l.length = n) : (results fn tmps).run Try.prog w = .ok (.agg l.toArray) w :=
  results_cell_row h _ _ g T0 _ (0, 0) _ hx hb hu (by cases d <;> simp_all [TypeDesc.isRow]) (hi.trans (congrArg some (by simp [hl])))

/-- two results, each a row -/
theorem retV2 {fn : Func} {tmps : Array Value} {w : World} {t1 t2 T1 T2 : TypeId} {u1 u2 : Tmp} (h : fn.results = #[.cell u1 t1, .cell u2 t2]) (g1 g2 : Nat) (hx1 : tmps.getD u1 undef = .pointer (some ⟨g1, 0, none⟩)) (hx2 : tmps.getD u2 undef = .pointer (some ⟨g2, 0, none⟩))
    (l1 l2 : List Value) (hb1 : BlV w g1 T1 l1) (hb2 : BlV w g2 T2 l2) (n1 n2 : Nat)
    (d1 d2 : TypeDesc) (hd1 : d1.isRow = true) (hd2 : d2.isRow = true) (hu1 : Try.prog.underlying t1 = some d1) (hu2 : Try.prog.underlying t2 = some d2) (hi1 : (Try.prog.info? t1).map (·.size) = some n1) (hi2 : (Try.prog.info? t2).map (·.size) = some n2) (hl1 : l1.length = n1) (hl2 : l2.length = n2) :
    (results fn tmps).run Try.prog w = .ok (.tuple #[.agg l1.toArray, .agg l2.toArray]) w := by
  have hp1 : tmps[u1]?.getD undef = .pointer (some ⟨g1, 0, none⟩) := by simpa using hx1
  have hp2 : tmps[u2]?.getD undef = .pointer (some ⟨g2, 0, none⟩) := by simpa using hx2
  have r1 := run_loadVar_row (P := Try.prog) w g1 T1 t1 l1.toArray (0, 0) d1 hb1 hu1 (by cases d1 <;> simp_all [TypeDesc.isRow]) (hi1.trans (congrArg some (by simp [hl1])))
  have r2 := run_loadVar_row (P := Try.prog) w g2 T2 t2 l2.toArray (0, 0) d2 hb2 hu2 (by cases d2 <;> simp_all [TypeDesc.isRow]) (hi2.trans (congrArg some (by simp [hl2])))
  simp [results, h, hp1, hp2, asAddr, r1, r2]

/-! a struct or an array built of parts -/
theorem fold_put (vs : List Value) : ∀ (k off : Nat) (l : List Value), off + k + vs.length ≤ l.length → (vs.zipIdx k).foldl (fun cs (c, j) => Array.setIfInBounds cs (off + j) c) l.toArray = (splice l (off + k) vs).toArray := by
  induction vs with
  | nil =>
    intro k off l _
    have e : splice l (off + k) [] = l := by unfold splice; simp
    rw [e]; rfl
  | cons x vs ih =>
    intro k off l h
    rw [List.length_cons] at h
    rw [List.zipIdx_cons, List.foldl_cons]
    dsimp only
    rw [List.setIfInBounds_toArray, ih (k + 1) off _ (by rw [List.length_set]; omega), ← Nat.add_assoc, spliceV_cons l vs (off + k) x (by omega)]
theorem fill_step (place : Nat → Option (Nat × Nat)) (l : List Value) (i : Nat) (v : Value) (vs : List Value) (hv : v.cells = vs.toArray) (rest : List (Nat × Value)) (off n : Nat) (hp : place i = some (off, n)) (hn : vs.length = n) (hf : off + n ≤ l.length) :
    Instr.fill place l.toArray ((i, v) :: rest) = Instr.fill place (splice l off vs).toArray rest := by
  have e := fold_put vs 0 off l (by omega)
  rw [Nat.add_zero] at e
  simp only [Instr.fill, hp, hv]
  rw [if_neg (by simp; omega)]
  congr 1
  rw [← e, ← Array.foldl_toList]
  simp
section
variable {P : Program} {ops : Array Oper} {rest : List Oper} {o : Oper} {a : Act} {w : World} {Q : Exit → Act → World → Prop} {S : World → Prop} {r : Tw}
/-- a value built, in a drawn region -/
theorem wpTz_build (hw : Region.wanted o (yielded ops a.tmps) = true) (t : TypeId) (ps : List (Nat × Operand)) (ho : o.op = .build t ps.toArray) (vs : List (Nat × Value)) (hx : ps.map (fun p => (p.1, a.eval p.2)) = vs) (v : Value)
    (hr : ∀ W, (Instr.build t vs.toArray).run P W = .ok v W) (h : wpTz P ops Q r S (a.put o.dst v) w) : wpTz P ops Q (.q o r) S a w := by
  subst hx
  refine wpTz_q hw (fun W _ => ?_) h
  simp only [execOp, ho, List.map_toArray, Sem.run_bind, hr, Result.andThen_ok, Sem.run_pure]
/-- .. in a plain one -/
theorem build_abs (hg : o.guard = none) (t : TypeId) (ps : List (Nat × Operand)) (ho : o.op = .build t ps.toArray) (vs : List (Nat × Value)) (hx : ps.map (fun p => (p.1, a.eval p.2)) = vs) (v : Value) (hr : ∀ W, (Instr.build t vs.toArray).run P W = .ok v W)
    (h : wpList P ops Q rest (a.put o.dst v) w) : wpList P ops Q (o :: rest) a w := by
  subst hx
  refine wpList_plain hg fun K hK => ?_
  unfold Oper.wp
  simp only [execOp, ho, List.map_toArray, Sem.run_bind, Sem.run_pure, hr, Result.andThen_ok]
  exact hK _ _ h
end
end Go.Proofs.Ytillnpllcfleeaa
