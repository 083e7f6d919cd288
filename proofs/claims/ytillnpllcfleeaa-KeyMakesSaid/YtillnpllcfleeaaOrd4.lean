/-
  As Ord3, and what is known of the worlds may be chosen anew behind each operation that makes or changes memory.
-/
import Derived.Test.YtillnpllcfleeaaOrd3
import Derived.Below
import Derived.Test.YtillnpllcfleeaaMk
namespace Go.Proofs.Ytillnpllcfleeaa
open Go Go.RowKit

def wpTz (P : Program) (ops : Array Oper) (Q : Exit → Act → World → Prop) : Tw → (World → Prop) → Act → World → Prop
  | .done, _, a, w => Q .normal a w
  | .e, _, _, _ => True
  | .q o r, S, a, w => ∃ v, YieldsIf P ops S o v a ∧ wpTz P ops Q r S (a.put o.dst v) w
  | .b o r s, S, a, w => (∀ K : Act → World → Prop, (∀ (S' : World → Prop) a' w', (∀ W, S' W → S W) → S' w' → wpTz P ops Q r S' a' w' → K a' w') → wpList P ops (Exit.then K Q) [o] a w) ∧ wpTz P ops Q s S a w

section
variable {P : Program} {ops : Array Oper} {Q : Exit → Act → World → Prop} {md : Region.Mode} {l : List Oper}

theorem wpAnyH_monoS {S S' : World → Prop} (hS : ∀ W, S' W → S W) : ∀ (fuel : Nat) (listed : Array Bool) (a : Act) (w : World), wpAnyH P md ops Q S' fuel listed a w → wpAnyH P md ops Q S fuel listed a w
  | 0, _, _, _, h => h
  | fuel + 1, _, _, _, h => ⟨h.1, fun i hi => wpOp_mono (fun a' w' h' => ⟨hS _ h'.1, wpAnyH_monoS hS fuel _ a' w' h'.2⟩) (h.2 i hi)⟩

theorem wpAnyH_oz (hs : Region.noSelect l.toArray = true) (hQ : ∀ d v c a w, Q (.panic c) (a.put d v) w → Q (.panic c) a w) :
    ∀ (od : Od), (∀ (S : World → Prop) (fuel : Nat) (listed : Array Bool) (a : Act) (w : World), odB md l true od fuel listed = true → S w → wpTz P l.toArray Q (tw l od) S a w → wpAnyH P md l.toArray Q S fuel listed a w) ∧
      (∀ (S : World → Prop) (n : Nat) (listed : Array Bool) (a : Act) (w : World), odB md l false od (n + 1) listed = true → S w → wpTz P l.toArray Q (tw l od) S a w →
        ∀ k ∈ heads od, wpOp P l.toArray Q k (fun a' w' => S w' ∧ wpAnyH P md l.toArray Q S n (listed.setIfInBounds k true) a' w') a w) := by
  intro od
  induction od with
  | done =>
    refine ⟨fun S fuel listed a w hB _ h => ?_, fun _ _ _ _ _ hB => ?_⟩
    · simp only [odB, beq_iff_eq] at hB
      exact wpAnyH_done hB h fuel
    · simp [odB] at hB
  | e => exact ⟨fun _ fuel _ _ _ hB => by cases fuel <;> simp [odB] at hB, fun _ _ _ _ _ _ _ _ k hk => by simp [heads] at hk⟩
  | q i r ih =>
    refine ⟨fun S fuel listed a w hB hS h => ?_, fun _ _ _ _ _ hB => by simp [odB] at hB⟩
    cases fuel with
    | zero => simp [odB] at hB
    | succ n =>
      simp only [odB, Bool.and_eq_true] at hB
      obtain ⟨⟨⟨h1, h2⟩, h3⟩, h4⟩ := hB
      obtain ⟨o, ho⟩ := Option.isSome_iff_exists.1 h1
      simp only [tw, ho] at h
      obtain ⟨v, hy, hr⟩ := h
      exact wpAnyH_take (i := i) (oi := o) (v := v) (by simpa using ho) hs h2 h3 (hQ _ _) hy hS (ih.1 S n _ _ w h4 hS hr)
  | b i r s ihr ihs =>
    have key : ∀ (S : World → Prop) (n : Nat) (listed : Array Bool) (a : Act) (w : World), odB md l false (.b i r s) (n + 1) listed = true → S w → wpTz P l.toArray Q (tw l (.b i r s)) S a w →
        ∀ k ∈ heads (.b i r s), wpOp P l.toArray Q k (fun a' w' => S w' ∧ wpAnyH P md l.toArray Q S n (listed.setIfInBounds k true) a' w') a w := by
      intro S n listed a w hB hS h k hk
      simp only [odB, Bool.and_eq_true] at hB
      obtain ⟨⟨h1, h2⟩, h3⟩ := hB
      obtain ⟨o, ho⟩ := Option.isSome_iff_exists.1 h1
      simp only [tw, ho] at h
      simp only [heads, List.mem_cons] at hk
      rcases hk with rfl | hk
      · exact wpOp_of_list (by simpa using ho) (h.1 _ fun S' a' w' hSS hS' h' => ⟨hSS _ hS', wpAnyH_monoS hSS _ _ _ _ (ihr.1 S' n _ a' w' h2 hS' h')⟩)
      · exact ihs.2 S n listed a w h3 hS h.2 k hk
    refine ⟨fun S fuel listed a w hB hS h => ?_, key⟩
    cases fuel with
    | zero => simp [odB] at hB
    | succ n =>
      have hB' : odB md l false (.b i r s) (n + 1) listed = true := by
        simp only [odB, Bool.and_eq_true] at hB ⊢
        exact ⟨⟨hB.1.1.1, hB.1.2⟩, hB.2⟩
      simp only [odB, Bool.and_eq_true, beq_iff_eq] at hB
      refine wpAnyH_all hB.1.1.2 (by simp) fun k hk => ?_
      exact key S n listed a w hB' hS h k hk

/-- THE BEGINNING. -/
theorem wp_region_oz (S : World → Prop) (od : Od) {id : Nat} {a : Act} {w : World} (hm : P.follows .mixedOrders = true) (hs : Region.noSelect l.toArray = true)
    (hB : odB .any l true od l.length (Array.replicate l.length false) = true) (hS : S w.drew) (h : wpTz P l.toArray (NoPanic Q) (tw l od) S a w.drew) :
    (Code.region id l.toArray true).wp P Q a w :=
  wp_region_noPanic (wp_region_held_drew hm hS fun _ => by
    have := (wpAnyH_oz (P := P) (Q := NoPanic Q) hs (fun _ _ _ _ _ h => h) od).1 S l.toArray.size (Array.replicate l.toArray.size false) a w.drew (by simpa using hB) hS h
    exact this)
/-- .. the world behind the draw a letter, all that stood kept: what the most regions want -/
theorem wp_region_oy (od : Od) {id : Nat} {a : Act} {w : World} (hm : P.follows .mixedOrders = true) (hs : Region.noSelect l.toArray = true)
    (hB : odB .any l true od l.length (Array.replicate l.length false) = true)
    (h : ∀ W, Below w.heap.size w W → wpTz P l.toArray (NoPanic Q) (tw l od) (fun W' => Below W.heap.size W W') a W) :
    (Code.region id l.toArray true).wp P Q a w :=
  wp_region_oz (fun W' => Below w.drew.heap.size w.drew W') od hm hs hB (Below.refl _ _) (h _ (Below.refl _ _).drew)

/-- .. what follows the region laid once: R says what each order leaves (a: the act at the region's head). -/
theorem wp_region_ozR (S : World → Prop) (R : Act → Act → World → Prop) (od : Od) {id : Nat} {a : Act} {w : World} (hm : P.follows .mixedOrders = true) (hs : Region.noSelect l.toArray = true)
    (hB : odB .any l true od l.length (Array.replicate l.length false) = true) (hS : S w.drew)
    (h : (∀ S' a' W, R a a' W → wpTz P l.toArray (NoPanic Q) .done S' a' W) → ∀ W, S W → wpTz P l.toArray (NoPanic Q) (tw l od) S a W)
    (hcont : ∀ a' W, R a a' W → Q .normal a' W) : (Code.region id l.toArray true).wp P Q a w :=
  wp_region_oz S od hm hs hB hS (h (fun _ => hcont) _ hS)
/-- .. block g may be written meanwhile -/
theorem wp_region_og (g : Nat) (od : Od) {id : Nat} {a : Act} {w : World} (hm : P.follows .mixedOrders = true) (hs : Region.noSelect l.toArray = true)
    (hB : odB .any l true od l.length (Array.replicate l.length false) = true)
    (h : ∀ W, Below w.heap.size w W → wpTz P l.toArray (NoPanic Q) (tw l od) (fun W' => W.grownBy W' (some g)) a W) :
    (Code.region id l.toArray true).wp P Q a w :=
  wp_region_oz (fun W' => w.drew.grownBy W' (some g)) od hm hs hB (grown_of_below (Below.refl _ _)) (h _ (Below.refl _ _).drew)
variable {S : World → Prop}
theorem wpTz_done {a : Act} {w : World} (h : Q .normal a w) : wpTz P ops (NoPanic Q) .done S a w := h
theorem wpTz_e {a : Act} {w : World} : wpTz P ops Q .e S a w := trivial
/-- not asked for -/
theorem wpTz_skip {o : Oper} {r : Tw} {a : Act} {w : World} (hw : Region.wanted o (yielded ops a.tmps) = false) (h : wpTz P ops Q r S (a.put o.dst undef) w) : wpTz P ops Q (.q o r) S a w :=
  ⟨undef, .inr ⟨hw, rfl⟩, h⟩
theorem wpTz_q {o : Oper} {r : Tw} {a : Act} {w : World} {v : Value} (hw : Region.wanted o (yielded ops a.tmps) = true) (hv : ∀ W, S W → (execOp a.eval o).run P W = .ok (.value v) W)
    (h : wpTz P ops Q r S (a.put o.dst v) w) : wpTz P ops Q (.q o r) S a w :=
  ⟨v, .inl ⟨hw, hv⟩, h⟩
/-- the load of an array or a struct -/
theorem wpTz_load {o : Oper} {r : Tw} {a : Act} {w : World} (ty : TypeId) (x : Operand) (ho : o.op = .load ty x) (b k : Nat) (hx : a.eval x = .pointer (some ⟨b, k, none⟩)) (cs : List Value) (d : TypeDesc)
    (hw : Region.wanted o (yielded ops a.tmps) = true) (hS : ∀ W, S W → W.rangeAt b k cs) (hu : P.underlying ty = some d) (hd : d.isRow = true) (hi : (P.info? ty).map (·.size) = some cs.length)
    (h : wpTz P ops Q r S (a.put o.dst (.agg cs.toArray)) w) : wpTz P ops Q (.q o r) S a w :=
  ⟨_, yieldsIf_load_mid hw ty x ho b k hx cs d hS hu hd hi, h⟩
theorem wpTz_b {o : Oper} {r s : Tw} {a : Act} {w : World} (h : ∀ K : Act → World → Prop, (∀ (S' : World → Prop) a' w', (∀ W, S' W → S W) → S' w' → wpTz P ops Q r S' a' w' → K a' w') → wpList P ops (Exit.then K Q) [o] a w) (hs : wpTz P ops Q s S a w) :
    wpTz P ops Q (.b o r s) S a w := ⟨h, hs⟩
/-- behind an operation that makes memory and changes none: all that stands now is kept -/
theorem wpTz_on {r : Tw} {K : Act → World → Prop} {w : World} (hK : ∀ (S' : World → Prop) a' w', (∀ W, S' W → Below w.heap.size w W) → S' w' → wpTz P ops Q r S' a' w' → K a' w') {a' : Act} {w' : World} (hb : Below w.heap.size w w')
    (h : wpTz P ops Q r (fun W => Below w'.heap.size w' W) a' w') : K a' w' :=
  hK _ a' w' (fun _ hW => hb.trans (hW.mono hb.size)) (Below.refl _ _) h
theorem wpTz_ong {g : Nat} {r : Tw} {K : Act → World → Prop} {w : World} (hK : ∀ (S' : World → Prop) a' w', (∀ W, S' W → w.grownBy W (some g)) → S' w' → wpTz P ops Q r S' a' w' → K a' w') {a' : Act} {w' : World} (hb : w.grownBy w' (some g))
    (h : wpTz P ops Q r (fun W => w'.grownBy W (some g)) a' w') : K a' w' :=
  hK _ a' w' (fun _ hW => grownBy_trans hb hW) (grown_of_below (Below.refl _ _)) h
end
end Go.Proofs.Ytillnpllcfleeaa
