/-
  As Ord, with branches of any width: 'b i r s': i may come up first (then r), or one of the chain s; 'e' ends a chain.
-/
import Derived.Test.YtillnpllcfleeaaOrd
namespace Go.Proofs.Ytillnpllcfleeaa
open Go

inductive Od where
  | done
  | e
  | q (i : Nat) (r : Od)
  | b (i : Nat) (r : Od) (s : Od)

inductive Tw where
  | done
  | e
  | q (o : Oper) (r : Tw)
  | b (o : Oper) (r : Tw) (s : Tw)

def tw (l : List Oper) : Od → Tw
  | .done => .done
  | .e => .e
  | .q i r => match l[i]? with | some o => .q o (tw l r) | none => .done
  | .b i r s => match l[i]? with | some o => .b o (tw l r) (tw l s) | none => .done

def heads : Od → List Nat
  | .b i _ s => i :: heads s
  | _ => []

def odB (md : Region.Mode) (l : List Oper) : Bool → Od → Nat → Array Bool → Bool
  | true, .done, _, listed => Region.ready md l.toArray listed == []
  | true, .q i r, n + 1, listed => (l[i]?).isSome && Region.free md l.toArray listed i && (Region.ready md l.toArray listed).contains i && odB md l true r n (listed.setIfInBounds i true)
  | true, .b i r s, n + 1, listed => (l[i]?).isSome && Region.ready md l.toArray listed == i :: heads s && odB md l true r n (listed.setIfInBounds i true) && odB md l false s (n + 1) listed
  | false, .b i r s, n + 1, listed => (l[i]?).isSome && odB md l true r n (listed.setIfInBounds i true) && odB md l false s (n + 1) listed
  | false, .e, _, _ => true
  | _, _, _, _ => false

def wpTw (P : Program) (ops : Array Oper) (Q : Exit → Act → World → Prop) (S : World → Prop) : Tw → Act → World → Prop
  | .done, a, w => Q .normal a w
  | .e, _, _ => True
  | .q o r, a, w => ∃ v, YieldsIf P ops S o v a ∧ wpTw P ops Q S r (a.put o.dst v) w
  | .b o r s, a, w => (∀ K : Act → World → Prop, (∀ a' w', S w' → wpTw P ops Q S r a' w' → K a' w') → wpList P ops (Exit.then K Q) [o] a w) ∧ wpTw P ops Q S s a w

section
variable {P : Program} {ops : Array Oper} {Q : Exit → Act → World → Prop} {S : World → Prop} {md : Region.Mode} {l : List Oper}

theorem wpAnyH_od (hs : Region.noSelect l.toArray = true) (hQ : ∀ d v c a w, Q (.panic c) (a.put d v) w → Q (.panic c) a w) :
    ∀ (od : Od), (∀ (fuel : Nat) (listed : Array Bool) (a : Act) (w : World), odB md l true od fuel listed = true → S w → wpTw P l.toArray Q S (tw l od) a w → wpAnyH P md l.toArray Q S fuel listed a w) ∧
      (∀ (n : Nat) (listed : Array Bool) (a : Act) (w : World), odB md l false od (n + 1) listed = true → S w → wpTw P l.toArray Q S (tw l od) a w →
        ∀ k ∈ heads od, wpOp P l.toArray Q k (fun a' w' => S w' ∧ wpAnyH P md l.toArray Q S n (listed.setIfInBounds k true) a' w') a w) := by
  intro od
  induction od with
  | done =>
    refine ⟨fun fuel listed a w hB _ h => ?_, fun _ _ _ _ hB => ?_⟩
    · simp only [odB, beq_iff_eq] at hB
      exact wpAnyH_done hB h fuel
    · simp [odB] at hB
  | e => exact ⟨fun fuel _ _ _ hB => by cases fuel <;> simp [odB] at hB, fun _ _ _ _ _ _ _ k hk => by simp [heads] at hk⟩
  | q i r ih =>
    refine ⟨fun fuel listed a w hB hS h => ?_, fun _ _ _ _ hB => by simp [odB] at hB⟩
    cases fuel with
    | zero => simp [odB] at hB
    | succ n =>
      simp only [odB, Bool.and_eq_true] at hB
      obtain ⟨⟨⟨h1, h2⟩, h3⟩, h4⟩ := hB
      obtain ⟨o, ho⟩ := Option.isSome_iff_exists.1 h1
      simp only [tw, ho] at h
      obtain ⟨v, hy, hr⟩ := h
      exact wpAnyH_take (i := i) (oi := o) (v := v) (by simpa using ho) hs h2 h3 (hQ _ _) hy hS (ih.1 n _ _ w h4 hS hr)
  | b i r s ihr ihs =>
    have key : ∀ (n : Nat) (listed : Array Bool) (a : Act) (w : World), odB md l false (.b i r s) (n + 1) listed = true → S w → wpTw P l.toArray Q S (tw l (.b i r s)) a w →
        ∀ k ∈ heads (.b i r s), wpOp P l.toArray Q k (fun a' w' => S w' ∧ wpAnyH P md l.toArray Q S n (listed.setIfInBounds k true) a' w') a w := by
      intro n listed a w hB hS h k hk
      simp only [odB, Bool.and_eq_true] at hB
      obtain ⟨⟨h1, h2⟩, h3⟩ := hB
      obtain ⟨o, ho⟩ := Option.isSome_iff_exists.1 h1
      simp only [tw, ho] at h
      simp only [heads, List.mem_cons] at hk
      rcases hk with rfl | hk
      · exact wpOp_of_list (by simpa using ho) (h.1 _ fun a' w' hS' h' => ⟨hS', ihr.1 n _ a' w' h2 hS' h'⟩)
      · exact ihs.2 n listed a w h3 hS h.2 k hk
    refine ⟨fun fuel listed a w hB hS h => ?_, key⟩
    cases fuel with
    | zero => simp [odB] at hB
    | succ n =>
      have hB' : odB md l false (.b i r s) (n + 1) listed = true := by
        simp only [odB, Bool.and_eq_true] at hB ⊢
        exact ⟨⟨hB.1.1.1, hB.1.2⟩, hB.2⟩
      simp only [odB, Bool.and_eq_true, beq_iff_eq] at hB
      refine wpAnyH_all hB.1.1.2 (by simp) fun k hk => ?_
      exact key n listed a w hB' hS h k hk

/-- THE BEGINNING. -/
theorem wp_region_od (S : World → Prop) (od : Od) {id : Nat} {a : Act} {w : World} (hm : P.follows .mixedOrders = true) (hs : Region.noSelect l.toArray = true)
    (hB : odB .any l true od l.length (Array.replicate l.length false) = true) (hS : S w.drew) (h : ∀ W, S W → wpTw P l.toArray (NoPanic Q) S (tw l od) a W) :
    (Code.region id l.toArray true).wp P Q a w :=
  wp_region_noPanic (wp_region_held_drew hm hS fun _ => by
    have := (wpAnyH_od (P := P) (Q := NoPanic Q) (S := S) hs (fun _ _ _ _ _ h => h) od).1 l.toArray.size (Array.replicate l.toArray.size false) a w.drew (by simpa using hB) hS (h _ hS)
    exact this)

/-- .. what follows the region laid once: R says what each order leaves (a: the act at the region's head). -/
theorem wp_region_odR (S : World → Prop) (R : Act → Act → World → Prop) (od : Od) {id : Nat} {a : Act} {w : World} (hm : P.follows .mixedOrders = true) (hs : Region.noSelect l.toArray = true)
    (hB : odB .any l true od l.length (Array.replicate l.length false) = true) (hS : S w.drew) (h : (∀ a' W, R a a' W → wpTw P l.toArray (NoPanic Q) S .done a' W) → ∀ W, S W → wpTw P l.toArray (NoPanic Q) S (tw l od) a W)
    (hcont : ∀ a' W, R a a' W → Q .normal a' W) : (Code.region id l.toArray true).wp P Q a w :=
  wp_region_od S od hm hs hB hS (h hcont)
theorem wpTw_done {a : Act} {w : World} (h : Q .normal a w) : wpTw P ops (NoPanic Q) S .done a w := h
theorem wpTw_e {a : Act} {w : World} : wpTw P ops Q S .e a w := trivial
/-- not asked for -/
theorem wpTw_skip {o : Oper} {r : Tw} {a : Act} {w : World} (hw : Region.wanted o (yielded ops a.tmps) = false) (h : wpTw P ops Q S r (a.put o.dst undef) w) : wpTw P ops Q S (.q o r) a w :=
  ⟨undef, .inr ⟨hw, rfl⟩, h⟩
theorem wpTw_q {o : Oper} {r : Tw} {a : Act} {w : World} {v : Value} (hw : Region.wanted o (yielded ops a.tmps) = true) (hv : ∀ W, S W → (execOp a.eval o).run P W = .ok (.value v) W)
    (h : wpTw P ops Q S r (a.put o.dst v) w) : wpTw P ops Q S (.q o r) a w :=
  ⟨v, .inl ⟨hw, hv⟩, h⟩
/-- the load of an array or a struct -/
theorem wpTw_load {o : Oper} {r : Tw} {a : Act} {w : World} (ty : TypeId) (x : Operand) (ho : o.op = .load ty x) (b k : Nat) (hx : a.eval x = .pointer (some ⟨b, k, none⟩)) (cs : List Value) (d : TypeDesc)
    (hw : Region.wanted o (yielded ops a.tmps) = true) (hS : ∀ W, S W → W.rangeAt b k cs) (hu : P.underlying ty = some d) (hd : d.isRow = true) (hi : (P.info? ty).map (·.size) = some cs.length)
    (h : wpTw P ops Q S r (a.put o.dst (.agg cs.toArray)) w) : wpTw P ops Q S (.q o r) a w :=
  ⟨_, yieldsIf_load_mid hw ty x ho b k hx cs d hS hu hd hi, h⟩
theorem wpTw_b {o : Oper} {r s : Tw} {a : Act} {w : World} (h : ∀ K : Act → World → Prop, (∀ a' w', S w' → wpTw P ops Q S r a' w' → K a' w') → wpList P ops (Exit.then K Q) [o] a w) (hs : wpTw P ops Q S s a w) :
    wpTw P ops Q S (.b o r s) a w := ⟨h, hs⟩
end
end Go.Proofs.Ytillnpllcfleeaa
