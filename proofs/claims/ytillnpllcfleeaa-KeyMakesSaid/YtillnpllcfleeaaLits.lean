/- Literals of slices, of any number of elements; a string appended to bytes. No condition. -/
import Derived.Test.YtillnpllcfleeaaTexts
import Derived.Lib.AppendStr
import Derived.Lib.SlBytesConst
namespace Go.Proofs.Ytillnpllcfleeaa
open Go Go.RowKit
set_option maxRecDepth 100000

/-- the parts of a literal, from the k-th on -/
def parts (k : Nat) : List Value → List (Nat × Value)
  | [] => []
  | v :: vs => (k, v) :: parts (k + 1) vs
theorem fill_parts (vs : List Value) : ∀ (k : Nat) (pre post : List Value), (∀ v ∈ vs, v.cells = #[v]) → pre.length = k → post.length = vs.length →
    Instr.fill (fun i => some (i * 1, 1)) (pre ++ post).toArray (parts k vs) = some (pre ++ vs).toArray := by
  induction vs with
  | nil =>
    intro k pre post _ _ h
    have : post = [] := List.eq_nil_of_length_eq_zero h
    subst this
    rfl
  | cons v vs ih =>
    intro k pre post h1 hk hp
    cases post with
    | nil => simp at hp
    | cons p post =>
      have hv := h1 v List.mem_cons_self
      have e := ih (k + 1) (pre ++ [v]) post (fun u hu => h1 u (List.mem_cons_of_mem _ hu)) (by simp [hk]) (by simpa using hp)
      simp only [parts, Instr.fill, hv]
      rw [if_neg (by simp; omega)]
      have e2 : (#[v].zipIdx.foldl (fun cs (c, j) => cs.setIfInBounds (k * 1 + j) c) (pre ++ p :: post).toArray) = (pre ++ [v] ++ post).toArray := by
        simp [← hk]
      rw [e2, e, List.append_assoc]
      rfl
theorem run_lit {P : Program} (w : World) (t e : TypeId) (i : TypeInfo) (z : Value) (ht : P.underlying t = some (.slice e)) (hi : P.info? e = some i) (hz : i.zero = some z) (hs : i.size = 1) (n : Nat) (ps : Array (Nat × Value)) (vs : List Value)
    (hp : ps.toList = parts 0 vs) (hn : n = vs.length) (hm : n ≤ 16777216) (h1 : ∀ v ∈ vs, v.cells = #[v]) :
    (Instr.buildSlice t n ps).run P w = .ok (.slice (some ⟨w.heap.size, 0, none⟩) n n) (w.alloc (.cells vs.toArray e)) := by
  subst hn
  have f := fill_parts vs 0 [] ((Array.range (vs.length * 1)).map (fun j => z.cells[j % z.cells.size]!)).toList h1 rfl (by simp)
  have f0 := fill_parts vs 0 [] ((Array.range (vs.length * 1)).map (fun j => (#[] : Array Value)[j % (#[] : Array Value).size]!)).toList h1 rfl (by simp)
  rw [List.nil_append, List.nil_append, Array.toArray_toList] at f f0
  have h2 : ¬ 2 ^ 24 < vs.length * 1 := by omega
  by_cases h0 : vs.length * 1 = 0
  · have hv : vs = [] := List.eq_nil_of_length_eq_zero (by omega)
    subst hv
    have : ps = #[] := by apply Array.toList_inj.1; rw [hp]; rfl
    subst this
    simp [Instr.buildSlice, run_underlying ht, sizeOf, typeInfo, hi, Instr.fill, newRow, show Array.range 0 = #[] from rfl]
  · simp [Instr.buildSlice, run_underlying ht, sizeOf, typeInfo, zeroValue, hi, hz, hs, hp, newRow] at *
    rw [if_neg (by omega)]
    simp [h0, f]

section
variable {ops : Array Oper} {rest : List Oper} {o : Oper} {a : Act} {w : World} {Q : Exit → Act → World → Prop}
/-- a literal of bytes -/
theorem lit8 (hg : o.guard = none) (n : Nat) (xs : List (Nat × Operand)) (hop : o.op = .buildSlice 28 n xs.toArray) (zs : List Int) (ys : List UInt8) (hx : (xs.map fun p => (p.1, a.eval p.2)) = parts 0 (zs.map (Value.int .u8)))
    (hz : zs = ys.map u8v) (hn : n = ys.length) (hm : n ≤ 16777216)
    (h : ∀ g w', w.heap.size ≤ g → g < w'.heap.size → Own w' w.heap.size (.slice (some ⟨g, 0, none⟩) n n) ys → Below w.heap.size w w' → wpList Try.prog ops Q rest (a.put o.dst (.slice (some ⟨g, 0, none⟩) n n)) w') : wpList Try.prog ops Q (o :: rest) a w := by
  refine wpList_plain hg fun K hK => ?_
  have e : zs.map (Value.int .u8) = b8s ys := by
    subst hz
    unfold b8s
    rw [List.map_map]; rfl
  rw [e] at hx
  obtain ⟨i, hi, hz0, hz1, hz2⟩ := info_parts info5
  have hr := run_lit (P := Try.prog) w 28 5 i _ Try.underlying28 hi hz0 hz1 n (xs.map fun p => (p.1, a.eval p.2)).toArray (b8s ys) hx (by rw [b8s_length, hn]) hm (fun v hv => by
    unfold b8s at hv
    obtain ⟨b, _, rfl⟩ := List.mem_map.1 hv
    rfl)
  unfold Oper.wp
  simp only [execOp, hop, List.map_toArray, Sem.run_bind, Sem.run_pure, hr, Result.andThen_ok]
  exact hK _ _ (h _ _ (Nat.le_refl _) (by simp) (Own.new w _ (Nat.le_refl _) ys n hn (by unfold maxLen; omega) _ rfl) ((Below.refl _ _).alloc (Nat.le_refl _) _))

/-- '[]byte("..")' of a constant: the literal, and its conversion behind it -/
theorem litC {o' : Oper} (hg : o.guard = none) (hg' : o'.guard = none) (n : Nat) (xs : List (Nat × Operand)) (hop : o.op = .buildSlice 28 n xs.toArray) (d : Nat) (hop' : o'.op = .convert 28 28 (.tmp d)) (zs : List Int) (ys : List UInt8)
    (hx : (xs.map fun p => (p.1, a.eval p.2)) = parts 0 (zs.map (Value.int .u8)))
    (hz : zs = ys.map u8v) (hn : n = ys.length) (hm : n ≤ 16777216) (he : ∀ v, (a.put o.dst v).eval (.tmp d) = v)
    (h : ∀ g w', w.heap.size ≤ g → g < w'.heap.size → RdB w' w'.heap.size (some ⟨g, 0, none⟩) ys → Below w.heap.size w w' → wpList Try.prog ops Q rest ((a.put o.dst (.slice (some ⟨g, 0, none⟩) n n)).put o'.dst (.slice (some ⟨g, 0, none⟩) n n)) w') :
    wpList Try.prog ops Q (o :: o' :: rest) a w := by
  refine wpList_plain hg fun K hK => ?_
  have e : zs.map (Value.int .u8) = b8s ys := by
    subst hz
    unfold b8s
    rw [List.map_map]; rfl
  rw [e] at hx
  obtain ⟨i, hi, hz0, hz1, hz2⟩ := info_parts info5
  have hr := run_lit (P := Try.prog) w 28 5 i _ Try.underlying28 hi hz0 hz1 n (xs.map fun p => (p.1, a.eval p.2)).toArray (b8s ys) hx (by rw [b8s_length, hn]) hm (fun v hv => by
    unfold b8s at hv
    obtain ⟨b, _, rfl⟩ := List.mem_map.1 hv
    rfl)
  unfold Oper.wp
  simp only [execOp, hop, List.map_toArray, Sem.run_bind, Sem.run_pure, hr, Result.andThen_ok]
  refine hK _ _ ?_
  refine wpList_plain hg' fun K' hK' => ?_
  have hc := Lib.run_convert_bytes_const (P := Try.prog) w 28 5 (b8s ys).toArray n n Try.underlying28 Try.underlying5
  unfold Oper.wp
  simp only [execOp, hop', he, Sem.run_bind, Sem.run_pure, hc, Result.andThen_ok]
  exact hK' _ _ (h _ _ (Nat.le_refl _) (by simp) ((RdB.newF w ys _ _ rfl).more (by simp)) ((Below.refl _ _).alloc (Nat.le_refl _) _))

/-! strings -/
theorem strOf_len (l : List UInt8) : (strOf l).size = l.length := by unfold strOf; simp [ByteArray.size]
theorem strOf_cat (l m : List UInt8) : strOf l ++ strOf m = strOf (l ++ m) := by
  unfold strOf
  apply ByteArray.ext
  simp
theorem strOf_list (s : ByteArray) : strOf s.data.toList = s := by unfold strOf; rfl
theorem strCells_of (l : List UInt8) : Lib.strCells (strOf l) = b8s l := by
  unfold Lib.strCells strOf b8s
  rfl
/-- a string's bytes appended -/
theorem app8s (hgd : o.guard = none) (s x : Operand) (ho : o.op = .call { callee := .builtin .append, args := #[s, x], argTypes := #[28, 9] })
    (base : Nat) (v : Value) (xs : List UInt8) (hs : a.eval s = v) (hown : Own w base v xs) (ys : List UInt8) (hx : a.eval x = .string (strOf ys))
    (hsz : xs.length + ys.length ≤ 70368744177664) (hbase : base ≤ w.heap.size)
    (h : ∀ v' w', Own w' base v' (xs ++ ys) → w.grownBy w' v.ownBlock → wpList Try.prog ops Q rest (a.put o.dst v') w') : wpList Try.prog ops Q (o :: rest) a w :=
  wpList_plain hgd fun K hK => by
    obtain ⟨i, hi, hz0, hz1, hz2⟩ := info_parts info5
    obtain ⟨v', w', hrun, h2, h3, _⟩ := Lib.run_append_own_string (P := Try.prog) w base 28 9 o.type 5 i Try.underlying28 Try.underlying9 hi hz0 hz1 hz2 v xs.length (b8s xs) hown (strOf ys) (by rw [strOf_len]; unfold maxLen; omega) (by rw [strOf_len]; omega) hbase
    unfold Oper.wp execOp
    simp only [ho, resolve, invoke, builtin, Sem.run_bind, Sem.run_pure, Result.andThen_ok, List.map_toArray, List.map_cons, List.map_nil, hs, hx, hrun]
    refine hK _ _ (h v' w' ?_ h3)
    unfold Own
    rw [strOf_len, strCells_of] at h2
    rw [b8s_append, List.length_append]
    exact h2
end
end Go.Proofs.Ytillnpllcfleeaa
