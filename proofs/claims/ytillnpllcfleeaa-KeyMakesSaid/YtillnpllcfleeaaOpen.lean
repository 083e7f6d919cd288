/- What comes in, opened by its type's form: bytes, arrays of bytes, texts; and how much memory it takes. -/
import Derived.Test.YtillnpllcfleeaaExt
import Derived.Test.YtillnpllcfleeaaArr
import Derived.Deep.Slices
import Derived.SizedLaws
namespace Go.Proofs.Ytillnpllcfleeaa
open Go Go.RowKit Go.ChangeShapes Go.WideShapes Go.Deep

section
variable {H : Type} {enc : TypeId × Value → H} {W : World} {fuel : Nat} {t : TypeId} {cs : List Value} {x : DataW H × List MemPlace}

set_option maxRecDepth 100000
theorem bytesOf5 : Try.prog.bytesOf 5 = 1 := by kernel_rfl
theorem cellsOf5 : Try.prog.cellsOf 5 = 1 := by kernel_rfl
theorem cellsOf28 : Try.prog.cellsOf 28 = 1 := by kernel_rfl

/-- a slice of bytes, with what it weighs -/
theorem rdB_of_trod (h : DataW.trod enc Try.prog W 0 (fun _ => true) true fuel 28 cs = some x) :
    ∃ A n c bs, cs = [.slice A n c] ∧ bs.length = n ∧ n ≤ c ∧ c ≤ maxLen ∧ RdB W W.heap.size A bs ∧ ((∀ q ∈ x.1.weights Try.prog 28, q ≤ reachBytes) → c ≤ reachBytes) := by
  rcases open_ints Try.underlying28 Try.underlying5 cellsOf5 h with ⟨hcs, hx⟩ | ⟨a, l, c, zs, hcs, _, hl, hm, hz, hx, hcell, hwz⟩
  · exact ⟨none, 0, 0, [], hcs, rfl, Nat.le_refl _, Nat.zero_le _, RdB.nil _, fun _ => Nat.zero_le _⟩
  · simp only [if_true] at hz
    obtain ⟨bs, e1, e2, e3, e4⟩ := rdB_of_row (w := W) (a := some a) (len := l) (cap := c) (zs := zs) (.inr ⟨a, rfl, hl, hm, hz, hcell, hwz⟩)
    refine ⟨some a, l, c, bs, hcs, e1, e2, e3, e4, fun hq => ?_⟩
    subst hx
    have := hq (((lits IntKind.u8 (zs.take l) : List (DataW H)).length + (lits IntKind.u8 (zs.drop l) : List (DataW H)).length) * Try.prog.bytesOf 5) (by
      simp only [DataW.weights, Try.underlying28]
      exact List.mem_cons_self)
    rw [bytesOf5] at this
    simp only [lits, List.length_map, List.length_take, List.length_drop] at this
    omega

theorem b8s_of_cells : ∀ (cs : List Value), (∀ i, i < cs.length → ∃ b : UInt8, cs[i]? = some (b8 b)) → ∃ bs, cs = b8s bs
  | [], _ => ⟨[], rfl⟩
  | c :: cs, h => by
    obtain ⟨b, hb⟩ := h 0 (by simp)
    obtain ⟨bs, hbs⟩ := b8s_of_cells cs fun i hi => by
      have := h (i + 1) (by simpa using hi)
      simpa using this
    refine ⟨b :: bs, ?_⟩
    simp only [List.getElem?_cons_zero, Option.some.injEq] at hb
    rw [hbs, hb]; rfl

/-- an array of bytes -/
theorem u8s_of_trod {n : Nat} (hu : Try.prog.underlying t = some (.array n 5)) (hc : Try.prog.cellsOf t = n) (h : DataW.trod enc Try.prog W 0 (fun _ => true) true fuel t cs = some x) :
    ∃ bs : List UInt8, bs.length = n ∧ cs = b8s bs := by
  obtain ⟨xs, m, _, _, hl, hx, hi⟩ := DataW.trod_array hu h
  rw [hc] at hl
  obtain ⟨bs, hbs⟩ := b8s_of_cells cs fun i hi' => by
    have h1 := hi i (by omega)
    rw [cellsOf5, Nat.mul_one, List.getElem?_eq_getElem (show i < xs.length by omega)] at h1
    obtain ⟨k, e1, _, e3⟩ := DataW.trod_int Try.underlying5 h1
    obtain ⟨b, rfl⟩ := wf_u8 e3
    refine ⟨b, ?_⟩
    have h2 : ((cs.drop i).take 1)[0]? = some (Value.int .u8 (u8v b)) := by rw [e1]; rfl
    rw [List.getElem?_take, if_pos (by decide), List.getElem?_drop, Nat.add_zero] at h2
    exact h2
  exact ⟨bs, by rw [← hl, hbs, b8s_length], hbs⟩

theorem okWide_array {w : World} {r : Reach} {base : Nat} {v : Value} {n e : Nat} (ht : Try.prog.underlying t = some (.array n e)) (h : Value.okWide Try.prog w r base t v) : ∃ cs, v = .agg cs ∧ cs.size = Try.prog.cellsOf t := by
  simp only [Value.okWide, ht] at h
  obtain ⟨cs, h1, h2, _⟩ := h
  exact ⟨cs, h1, h2⟩

/-- a parameter that is an array of bytes -/
theorem open_u8s {w : World} {r : Reach} {base : Nat} {v : Value} {d : DataW H} {p : List MemPlace} {n : Nat} (hu : Try.prog.underlying t = some (.array n 5)) (hc : Try.prog.cellsOf t = n)
    (hv : Value.okWide Try.prog w r base t v) (h : DataW.Trod enc Try.prog W 0 (fun _ => true) true t v d p) : ∃ bs : List UInt8, bs.length = n ∧ v = .agg (b8s bs).toArray := by
  obtain ⟨cs, rfl, _⟩ := okWide_array hu hv
  obtain ⟨m, hm⟩ := h
  obtain ⟨bs, h1, h2⟩ := u8s_of_trod hu hc hm
  refine ⟨bs, h1, ?_⟩
  rw [← h2]; simp [Value.cells]
/-- a parameter that is a slice of bytes -/
theorem open_bytes {w : World} {r : Reach} {base : Nat} {v : Value} {d : DataW H} {p : List MemPlace} (hv : Value.okWide Try.prog w r base 28 v) (h : DataW.Trod enc Try.prog W 0 (fun _ => true) true 28 v d p) :
    ∃ A bs c, v = .slice A bs.length c ∧ bs.length ≤ c ∧ c ≤ maxLen ∧ RdB W W.heap.size A bs ∧ ((∀ q ∈ d.weights Try.prog 28, q ≤ reachBytes) → c ≤ reachBytes) := by
  obtain ⟨A, n, c, rfl⟩ := okWide_slice Try.underlying28 hv
  obtain ⟨m, hm⟩ := h
  obtain ⟨A', n', c', bs, h1, h2, h3, h4, h5, h6⟩ := rdB_of_trod hm
  simp only [Value.cells, List.cons.injEq, Value.slice.injEq, and_true] at h1
  obtain ⟨rfl, rfl, rfl⟩ := h1
  subst h2
  exact ⟨A, bs, c, rfl, h3, h4, h5, h6⟩
/-- a parameter that is a slice of slices of bytes -/
theorem open_texts {T : TypeId} (hT : Try.prog.underlying T = some (.slice 28)) {w : World} {r : Reach} {base : Nat} {v : Value} {d : DataW H} {p : List MemPlace} (hv : Value.okWide Try.prog w r base T v)
    (h : DataW.Trod enc Try.prog W 0 (fun _ => true) true T v d p) :
    ∃ A l c, v = .slice A l.length c ∧ l.length ≤ c ∧ c ≤ maxLen ∧ RdL W W.heap.size A l ∧
      ((∀ q ∈ d.weights Try.prog T, q ≤ reachBytes) → c * Try.prog.bytesOf 28 ≤ reachBytes ∧ ∀ bs ∈ l, bs.length ≤ reachBytes) := by
  obtain ⟨A, n, c, rfl⟩ := okWide_slice hT hv
  obtain ⟨m, hm⟩ := h
  rcases open_slice1 hT cellsOf28 hm with ⟨hcs, _⟩ | ⟨a, len, cap, mm, k, V, D, Pl, hcs, _, hl, hmx, hmm, hx, hi⟩
  · simp only [Value.cells, List.cons.injEq, Value.slice.injEq, and_true] at hcs
    obtain ⟨rfl, rfl, rfl⟩ := hcs
    exact ⟨none, [], 0, rfl, Nat.le_refl _, Nat.zero_le _, ⟨[], Rd.nil _, fun k b hk => by simp at hk⟩, fun _ => ⟨by rw [Nat.zero_mul]; exact Nat.zero_le _, fun bs hb => by cases hb⟩⟩
  · simp only [Value.cells, List.cons.injEq, Value.slice.injEq, and_true] at hcs
    obtain ⟨rfl, rfl, rfl⟩ := hcs
    simp only [if_true] at hmm
    subst hmm
    have each : ∀ i, i < mm → ∃ y : Option Addr × Nat × List UInt8, V i = .slice y.1 y.2.2.length y.2.1 ∧ y.2.2.length ≤ y.2.1 ∧ y.2.1 ≤ maxLen ∧ RdB W W.heap.size y.1 y.2.2 ∧ ((∀ q ∈ (D i).weights Try.prog 28, q ≤ reachBytes) → y.2.1 ≤ reachBytes) := by
      intro i hi'
      obtain ⟨A', n', c', bs, h1, h2, h3, h4, h5, h6⟩ := rdB_of_trod (hi i hi').2
      simp only [List.cons.injEq, and_true] at h1
      subst h2
      exact ⟨(A', c', bs), h1, h3, h4, h5, h6⟩
    obtain ⟨y, hy⟩ := choose_lt each
    refine ⟨some a, (List.range n).map fun i => (y i).2.2, mm, by simp, by simpa using hl, hmx, ⟨(List.range n).map V, ⟨by simp, fun hn => ?_⟩, fun i bs hb => ?_⟩, fun hq => ⟨?_, fun bs hb => ?_⟩⟩
    · have hn0 : 0 < n := by simpa using hn
      have h0 := (hi 0 (by omega)).1
      obtain ⟨b, off, sp⟩ := a
      have hsp : sp = none := by
        cases sp with
        | none => rfl
        | some s =>
          simp [Addr.add, World.cell?] at h0
          split at h0 <;> simp at h0
      subst hsp
      refine ⟨b, off, rfl, ?_, fun j u hu => ?_⟩
      · simpa [Addr.add] using block_lt_of_cell h0
      · rw [List.getElem?_map] at hu
        by_cases hj : j < n
        · rw [List.getElem?_range hj] at hu
          rw [← add_none, (hi j (by omega)).1]
          exact hu
        · rw [List.getElem?_eq_none (by simpa using hj)] at hu
          cases hu
    · rw [List.getElem?_map] at hb
      by_cases hj : i < n
      · rw [List.getElem?_range hj] at hb
        obtain ⟨e1, e2, e3, e4, _⟩ := hy i (by omega)
        have hb' : (y i).2.2 = bs := by simpa using hb
        subst hb'
        refine ⟨(y i).1, (y i).2.1, ?_, e2, e3, e4⟩
        rw [List.getElem?_map, List.getElem?_range hj, Option.map_some, e1]
      · rw [List.getElem?_eq_none (by simpa using hj)] at hb
        cases hb
    · have hd : d = .slice ((List.range n).map D) ((List.range (mm - n)).map fun j => D (n + j)) := congrArg (·.1) hx
      subst hd
      have := hq ((((List.range n).map D).length + ((List.range (mm - n)).map fun j => D (n + j)).length) * Try.prog.bytesOf 28) (by
        simp only [DataW.weights, hT]
        exact List.mem_cons_self)
      simp only [List.length_map, List.length_range] at this
      rwa [show n + (mm - n) = mm by omega] at this
    · have hd : d = .slice ((List.range n).map D) ((List.range (mm - n)).map fun j => D (n + j)) := congrArg (·.1) hx
      subst hd
      obtain ⟨i, hi', rfl⟩ := List.mem_map.1 hb
      have hi'' : i < n := List.mem_range.1 hi'
      obtain ⟨_, e2, _, _, e5⟩ := hy i (by omega)
      refine Nat.le_trans e2 (e5 fun q hq' => hq q ?_)
      simp only [DataW.weights, hT]
      refine List.mem_cons_of_mem _ (List.mem_append_left _ ?_)
      have : ∀ (l : List (DataW H)) (z : DataW H), z ∈ l → ∀ q ∈ z.weights Try.prog 28, q ∈ DataW.weightsAll Try.prog 28 l := by
        intro l
        induction l with
        | nil => intro z hz; cases hz
        | cons u l ih =>
          intro z hz q hq
          simp only [DataW.weightsAll, List.mem_append]
          rcases List.mem_cons.1 hz with rfl | hz
          · exact .inl hq
          · exact .inr (ih z hz q hq)
      exact this _ (D i) (List.mem_map.2 ⟨i, hi', rfl⟩) q hq'
end
end Go.Proofs.Ytillnpllcfleeaa
