/-
  A drawn region walked in ONE order, given by a tree that the kernel checks: 'q i': number i may be taken first (in every world that meets S it yields one value and changes nothing); 'm i': nothing but number i may come up; 'm2 i .. j ..': i or j may come up.
-/
import Derived.Test.YtillnpllcfleeaaExt
import Derived.Deep.RegionHeld3
import Derived.Deep.MidRow
namespace Go.Proofs.Ytillnpllcfleeaa
open Go

inductive Ord where
  | done
  | q (i : Nat) (r : Ord)
  | m (i : Nat) (r : Ord)
  | m2 (i : Nat) (r : Ord) (j : Nat) (s : Ord)

inductive Tr where
  | done
  | q (o : Oper) (r : Tr)
  | m (o : Oper) (r : Tr)
  | m2 (o : Oper) (r : Tr) (o' : Oper) (s : Tr)

def tr (l : List Oper) : Ord → Tr
  | .done => .done
  | .q i r => match l[i]? with | some o => .q o (tr l r) | none => .done
  | .m i r => match l[i]? with | some o => .m o (tr l r) | none => .done
  | .m2 i r j s => match l[i]?, l[j]? with | some o, some o' => .m2 o (tr l r) o' (tr l s) | _, _ => .done

def ordB (md : Region.Mode) (l : List Oper) : Ord → Nat → Array Bool → Bool
  | .done, _, listed => Region.ready md l.toArray listed == []
  | .q i r, n + 1, listed => (l[i]?).isSome && Region.free md l.toArray listed i && (Region.ready md l.toArray listed).contains i && ordB md l r n (listed.setIfInBounds i true)
  | .m i r, n + 1, listed => (l[i]?).isSome && Region.ready md l.toArray listed == [i] && ordB md l r n (listed.setIfInBounds i true)
  | .m2 i r j s, n + 1, listed => (l[i]?).isSome && (l[j]?).isSome && Region.ready md l.toArray listed == [i, j] && ordB md l r n (listed.setIfInBounds i true) && ordB md l s n (listed.setIfInBounds j true)
  | _, 0, _ => false

def wpTr (P : Program) (ops : Array Oper) (Q : Exit → Act → World → Prop) (S : World → Prop) : Tr → Act → World → Prop
  | .done, a, w => Q .normal a w
  | .q o r, a, w => ∃ v, YieldsIf P ops S o v a ∧ wpTr P ops Q S r (a.put o.dst v) w
  | .m o r, a, w => ∀ K : Act → World → Prop, (∀ a' w', S w' → wpTr P ops Q S r a' w' → K a' w') → wpList P ops (Exit.then K Q) [o] a w
  | .m2 o r o' s, a, w =>
    (∀ K : Act → World → Prop, (∀ a' w', S w' → wpTr P ops Q S r a' w' → K a' w') → wpList P ops (Exit.then K Q) [o] a w) ∧
    (∀ K : Act → World → Prop, (∀ a' w', S w' → wpTr P ops Q S s a' w' → K a' w') → wpList P ops (Exit.then K Q) [o'] a w)

section
variable {P : Program} {ops : Array Oper} {Q : Exit → Act → World → Prop} {S : World → Prop} {md : Region.Mode} {l : List Oper}

theorem wpOp_of_list {i : Nat} {o : Oper} {K : Act → World → Prop} {a : Act} {w : World} (hi : ops[i]? = some o) (h : wpList P ops (Exit.then K Q) [o] a w) : wpOp P ops Q i K a w := by
  unfold wpOp
  simp only [hi]
  unfold wpList at h
  split
  · rename_i hw
    simp only [hw, if_true] at h
    rcases h with h | ⟨h1, h2⟩
    · refine .inl ?_
      unfold Oper.wp at *
      generalize (execOp a.eval o).run P w = r at *
      cases r with
      | ok n w' =>
        cases n <;> simp only [Oper.upon] at h ⊢
        case value u => exact h
        case skip => exact h
        case defer d => exact h
        case enter f args =>
          refine Calls.mono h fun e w'' he => ?_
          cases e with
          | returned u => exact he
          | panicked c => exact he
          | outgrown => exact he
        case row row args => exact Rows.mono h fun u w'' he => he
      | halt x w' =>
        cases x <;> simp only [Oper.upon] at h ⊢
        case panic u => exact h
    · exact .inr ⟨h1, h2⟩
  · rename_i hw
    simp only [hw] at h
    exact h

theorem wpAnyH_ord (hs : Region.noSelect l.toArray = true) (hQ : ∀ d v c a w, Q (.panic c) (a.put d v) w → Q (.panic c) a w) :
    ∀ (od : Ord) (fuel : Nat) (listed : Array Bool) (a : Act) (w : World), ordB md l od fuel listed = true → S w → wpTr P l.toArray Q S (tr l od) a w →
      wpAnyH P md l.toArray Q S fuel listed a w := by
  intro od
  induction od with
  | done =>
    intro fuel listed a w hB _ h
    simp only [ordB, beq_iff_eq] at hB
    exact wpAnyH_done hB h fuel
  | q i r ih =>
    intro fuel listed a w hB hS h
    cases fuel with
    | zero => simp [ordB] at hB
    | succ n =>
      simp only [ordB, Bool.and_eq_true] at hB
      obtain ⟨⟨⟨h1, h2⟩, h3⟩, h4⟩ := hB
      obtain ⟨o, ho⟩ := Option.isSome_iff_exists.1 h1
      simp only [tr, ho] at h
      obtain ⟨v, hy, hr⟩ := h
      exact wpAnyH_take (i := i) (oi := o) (v := v) (by simpa using ho) hs h2 h3 (hQ _ _) hy hS (ih n _ _ w h4 hS hr)
  | m i r ih =>
    intro fuel listed a w hB hS h
    cases fuel with
    | zero => simp [ordB] at hB
    | succ n =>
      simp only [ordB, Bool.and_eq_true, beq_iff_eq] at hB
      obtain ⟨⟨h1, h2⟩, h4⟩ := hB
      obtain ⟨o, ho⟩ := Option.isSome_iff_exists.1 h1
      simp only [tr, ho] at h
      refine wpAnyH_all h2 (by simp) fun k hk => ?_
      obtain rfl : k = i := by simpa using hk
      exact wpOp_of_list (by simpa using ho) (h _ fun a' w' hS' h' => ⟨hS', ih n _ a' w' h4 hS' h'⟩)
  | m2 i r j s ih ih' =>
    intro fuel listed a w hB hS h
    cases fuel with
    | zero => simp [ordB] at hB
    | succ n =>
      simp only [ordB, Bool.and_eq_true, beq_iff_eq] at hB
      obtain ⟨⟨⟨⟨h1, h1'⟩, h2⟩, h4⟩, h4'⟩ := hB
      obtain ⟨o, ho⟩ := Option.isSome_iff_exists.1 h1
      obtain ⟨o', ho'⟩ := Option.isSome_iff_exists.1 h1'
      simp only [tr, ho, ho'] at h
      refine wpAnyH_all h2 (by simp) fun k hk => ?_
      have hk' : k = i ∨ k = j := by simpa using hk
      rcases hk' with rfl | rfl
      · exact wpOp_of_list (by simpa using ho) (h.1 _ fun a' w' hS' h' => ⟨hS', ih n _ a' w' h4 hS' h'⟩)
      · exact wpOp_of_list (by simpa using ho') (h.2 _ fun a' w' hS' h' => ⟨hS', ih' n _ a' w' h4' hS' h'⟩)

/-- THE BEGINNING. -/
theorem wp_region_ord (S : World → Prop) (od : Ord) {id : Nat} {a : Act} {w : World} (hm : P.follows .mixedOrders = true) (hs : Region.noSelect l.toArray = true)
    (hB : ordB .any l od l.length (Array.replicate l.length false) = true) (hS : S w.drew) (h : wpTr P l.toArray (NoPanic Q) S (tr l od) a w.drew) :
    (Code.region id l.toArray true).wp P Q a w :=
  wp_region_noPanic (wp_region_held_drew hm hS fun _ => by
    have := wpAnyH_ord (P := P) (Q := NoPanic Q) (S := S) hs (fun _ _ _ _ _ h => h) od l.toArray.size (Array.replicate l.toArray.size false) a w.drew (by simpa using hB) hS h
    exact this)

/-- .. the world behind the draw a letter of which S is known -/
theorem wp_region_ordW (S : World → Prop) (od : Ord) {id : Nat} {a : Act} {w : World} (hm : P.follows .mixedOrders = true) (hs : Region.noSelect l.toArray = true)
    (hB : ordB .any l od l.length (Array.replicate l.length false) = true) (hS : S w.drew) (h : ∀ W, S W → wpTr P l.toArray (NoPanic Q) S (tr l od) a W) :
    (Code.region id l.toArray true).wp P Q a w := wp_region_ord S od hm hs hB hS (h _ hS)
theorem wpTr_done {a : Act} {w : World} (h : Q .normal a w) : wpTr P ops (NoPanic Q) S .done a w := h
/-- not asked for -/
theorem wpTr_skip {o : Oper} {r : Tr} {a : Act} {w : World} (hw : Region.wanted o (yielded ops a.tmps) = false) (h : wpTr P ops Q S r (a.put o.dst undef) w) : wpTr P ops Q S (.q o r) a w :=
  ⟨undef, .inr ⟨hw, rfl⟩, h⟩
theorem wpTr_q {o : Oper} {r : Tr} {a : Act} {w : World} {v : Value} (hw : Region.wanted o (yielded ops a.tmps) = true) (hv : ∀ W, S W → (execOp a.eval o).run P W = .ok (.value v) W)
    (h : wpTr P ops Q S r (a.put o.dst v) w) : wpTr P ops Q S (.q o r) a w :=
  ⟨v, .inl ⟨hw, hv⟩, h⟩
/-- the load of an array or a struct -/
theorem wpTr_load {o : Oper} {r : Tr} {a : Act} {w : World} (ty : TypeId) (x : Operand) (ho : o.op = .load ty x) (b k : Nat) (hx : a.eval x = .pointer (some ⟨b, k, none⟩)) (cs : List Value) (d : TypeDesc)
    (hw : Region.wanted o (yielded ops a.tmps) = true) (hS : ∀ W, S W → W.rangeAt b k cs) (hu : P.underlying ty = some d) (hd : d.isRow = true) (hi : (P.info? ty).map (·.size) = some cs.length)
    (h : wpTr P ops Q S r (a.put o.dst (.agg cs.toArray)) w) : wpTr P ops Q S (.q o r) a w :=
  ⟨_, yieldsIf_load_mid hw ty x ho b k hx cs d hS hu hd hi, h⟩
theorem wpTr_m {o : Oper} {r : Tr} {a : Act} {w : World} (h : ∀ K : Act → World → Prop, (∀ a' w', S w' → wpTr P ops Q S r a' w' → K a' w') → wpList P ops (Exit.then K Q) [o] a w) :
    wpTr P ops Q S (.m o r) a w := h
theorem wpTr_m2 {o o' : Oper} {r s : Tr} {a : Act} {w : World} (h : ∀ K : Act → World → Prop, (∀ a' w', S w' → wpTr P ops Q S r a' w' → K a' w') → wpList P ops (Exit.then K Q) [o] a w)
    (h' : ∀ K : Act → World → Prop, (∀ a' w', S w' → wpTr P ops Q S s a' w' → K a' w') → wpList P ops (Exit.then K Q) [o'] a w) : wpTr P ops Q S (.m2 o r o' s) a w := ⟨h, h'⟩
end
end Go.Proofs.Ytillnpllcfleeaa
