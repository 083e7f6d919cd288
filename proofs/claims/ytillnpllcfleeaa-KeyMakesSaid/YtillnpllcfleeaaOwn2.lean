/- Rows of the call's own, read and written at a place; 'make' of bytes. No condition. -/
import Derived.Test.YtillnpllcfleeaaApp
import Derived.Test.YtillnpllcfleeaaArr
import Derived.Test.YtillnpllcfleeaaAppW
namespace Go.Proofs.Ytillnpllcfleeaa
open Go Go.RowKit

theorem b8s_put (l : List UInt8) (j : Nat) (x : UInt8) : b8s (l.set j x) = (b8s l).set j (.int .u8 (u8v x)) := by
  unfold b8s; rw [List.map_set]; rfl
section
variable {w w' : World} {base : Nat} {v : Value} {xs : List UInt8}
theorem Own.loc (h : Own w base v xs) (hn : 0 < xs.length) : ∃ g c, v = .slice (some ⟨g, 0, none⟩) xs.length c ∧ base ≤ g ∧ g < w.heap.size ∧ xs.length ≤ c ∧ c ≤ maxLen := by
  rcases h.2 with ⟨_, h0⟩ | ⟨g, cap, cur, rfl, hb, hg, hc, hm, _, _⟩
  · omega
  · exact ⟨g, cap, rfl, hb, (Array.getElem?_eq_some_iff.1 hg).1, hc, hm⟩
theorem Own.at {g n c : Nat} (h : Own w base (.slice (some ⟨g, 0, none⟩) n c) xs) (j : Nat) (hj : j < xs.length) : w.cell? ⟨g, j, none⟩ = some (.int .u8 (u8v (bAt xs j))) := by
  have hn := h.cap.1
  subst hn
  rw [World.ownsRow.cellAt h j (by omega), b8s_get, bAt_get xs j hj]; rfl
theorem Own.frz {g n c : Nat} (h : Own w base (.slice (some ⟨g, 0, none⟩) n c) xs) (j : Nat) : w.frozen? ⟨g, j, none⟩ = false := by
  have hn := h.cap.1
  subst hn
  exact World.ownsRow.frozenAt h j
theorem Own.put {g n c : Nat} (h : Own w base (.slice (some ⟨g, 0, none⟩) n c) xs) (j : Nat) (x : UInt8) : Own (w.setCell ⟨g, j, none⟩ (.int .u8 (u8v x))) base (.slice (some ⟨g, 0, none⟩) n c) (xs.set j x) := by
  have hn := h.cap.1
  subst hn
  have := (World.ownsRow.stored h j (.int .u8 (u8v x))).1
  unfold Own
  rw [List.length_set, b8s_put]
  exact this
theorem Own.bs {g n c : Nat} (h : Own w base (.slice (some ⟨g, 0, none⟩) n c) xs) : base ≤ g ∧ g < w.heap.size := h.lt g rfl
end
theorem w32s_put (l : List UInt32) (j : Nat) (x : UInt32) : w32s (l.set j x) = (w32s l).set j (.int .u32 (u32v x)) := by
  unfold w32s; rw [List.map_set]; rfl
theorem wAt_get (l : List UInt32) (i : Nat) (h : i < l.length) : l[i]? = some (wordAt l i) := by
  unfold wordAt
  rw [List.getD_eq_getElem?_getD, List.getElem?_eq_getElem h]; rfl
section
variable {w w' : World} {base : Nat} {v : Value} {xs : List UInt32}
theorem OwnW.loc (h : OwnW w base v xs) (hn : 0 < xs.length) : ∃ g c, v = .slice (some ⟨g, 0, none⟩) xs.length c ∧ base ≤ g ∧ g < w.heap.size ∧ xs.length ≤ c ∧ c ≤ maxLen := by
  rcases h.2 with ⟨_, h0⟩ | ⟨g, cap, cur, rfl, hb, hg, hc, hm, _, _⟩
  · omega
  · exact ⟨g, cap, rfl, hb, (Array.getElem?_eq_some_iff.1 hg).1, hc, hm⟩
theorem OwnW.at {g n c : Nat} (h : OwnW w base (.slice (some ⟨g, 0, none⟩) n c) xs) (j : Nat) (hj : j < xs.length) : w.cell? ⟨g, j, none⟩ = some (.int .u32 (u32v (wordAt xs j))) := by
  have hn := h.cap.1
  subst hn
  rw [World.ownsRow.cellAt h j (by omega), w32s_get, wAt_get xs j hj]; rfl
theorem OwnW.frz {g n c : Nat} (h : OwnW w base (.slice (some ⟨g, 0, none⟩) n c) xs) (j : Nat) : w.frozen? ⟨g, j, none⟩ = false := by
  have hn := h.cap.1
  subst hn
  exact World.ownsRow.frozenAt h j
theorem OwnW.put {g n c : Nat} (h : OwnW w base (.slice (some ⟨g, 0, none⟩) n c) xs) (j : Nat) (x : UInt32) : OwnW (w.setCell ⟨g, j, none⟩ (.int .u32 (u32v x))) base (.slice (some ⟨g, 0, none⟩) n c) (xs.set j x) := by
  have hn := h.cap.1
  subst hn
  have := (World.ownsRow.stored h j (.int .u32 (u32v x))).1
  unfold OwnW
  rw [List.length_set, w32s_put]
  exact this
theorem OwnW.bs {g n c : Nat} (h : OwnW w base (.slice (some ⟨g, 0, none⟩) n c) xs) : base ≤ g ∧ g < w.heap.size := h.lt g rfl
end

/-- a block of bytes as a slice of the call's own -/
theorem Own.blb {w : World} {g base : Nat} {l : List UInt8} (h : BlB w g 5 l) (hb : base ≤ g) (hm : l.length ≤ maxLen) (n : Nat) (hn : n = l.length) : Own w base (.slice (some ⟨g, 0, none⟩) n n) l := by
  subst hn
  exact ⟨by rw [b8s_length, Nat.mul_one], .inr ⟨g, l.length, _, rfl, hb, h, Nat.le_refl _, hm, by rw [b8s_size, Nat.mul_one], by rw [Nat.mul_one]; exact List.take_of_length_le (by rw [b8s_length]; exact Nat.le_refl _)⟩⟩

theorem b8s_noughts (n : Nat) : b8s (List.replicate n 0) = List.replicate n (.int .u8 0) := by
  unfold b8s
  rw [List.map_replicate]; rfl
/-- 'make' of bytes -/
theorem run_make8 (w : World) (kl kc : IntKind) (n : Nat) (hn : n ≤ 281474976710656) :
    (Instr.makeSlice 28 (.int kl (n : Int)) (.int kc (n : Int))).run Try.prog w = .ok (.slice (some ⟨w.heap.size, 0, none⟩) n n) (w.alloc (.cells (b8s (List.replicate n 0)).toArray 5)) := by
  obtain ⟨i, hi, hz0, hz1, hz2⟩ := info_parts info5
  have hr := run_make (P := Try.prog) w 28 5 i _ Try.underlying28 hi hz0 kl kc n n (by omega) (Int.le_refl _) (by rw [hz2]; omega) (by omega)
  rw [hr, hz1, Int.toNat_natCast, Nat.mul_one]
  have e : madeCells (Value.cells (.int .u8 0)) n = (b8s (List.replicate n 0)).toArray := by
    apply Array.toList_inj.1
    rw [show Value.cells (.int .u8 0) = #[.int .u8 0] from rfl, toList_madeCells_one, b8s_noughts]
  rw [e]
theorem make8 {w : World} {ops : Array Oper} {rest : List Oper} {o : Oper} {a : Act} {Q : Exit → Act → World → Prop} (hg : o.guard = none) (l c : Operand) (hop : o.op = Op.makeSlice 28 l c) (kl kc : IntKind) (L C : Int) (n : Nat)
    (hl : a.eval l = .int kl L) (hc : a.eval c = .int kc C) (hL : L = (n : Int)) (hC : C = (n : Int)) (hn : n ≤ 281474976710656)
    (h : ∀ w', BlB w' w.heap.size 5 (List.replicate n 0) → Below w.heap.size w w' → w'.heap.size = w.heap.size + 1 → wpList Try.prog ops Q rest (a.put o.dst (.slice (some ⟨w.heap.size, 0, none⟩) n n)) w') :
    wpList Try.prog ops Q (o :: rest) a w := by
  refine wpList_plain hg fun K hK' => ?_
  subst hL
  subst hC
  have hrun := run_make8 w kl kc n hn
  unfold Oper.wp
  simp only [execOp, hop, hl, hc, hrun, Sem.run_bind, Result.andThen_ok, Sem.run_pure, Oper.upon]
  exact hK' _ _ (h _ (Blk.new _ _ _) ((Below.refl _ _).alloc (Nat.le_refl _) _) (by simp))
/-! a number's bytes, written from behind -/
theorem bAt_be (n k j : Nat) (h : j < k) : bAt (be n k) j = UInt8.ofNat (n / 256 ^ (k - 1 - j)) := by
  induction k generalizing j with
  | zero => omega
  | succ k ih =>
    cases j with
    | zero => rfl
    | succ j =>
      have : bAt (be n (k + 1)) (j + 1) = bAt (be n k) j := rfl
      rw [this, ih j (by omega)]
      congr 3; omega
theorem be_byte (n k j : Nat) (h : j < k) : ((n / 256 ^ (k - 1 - j) : Nat) : Int) % 256 = u8v (bAt (be n k) j) := by
  rw [bAt_be n k j h, ← conv_nat_8, IntKind.wrap_u8']
theorem be_get (n k j : Nat) (h : j < k) : (be n k)[j]? = some (bAt (be n k) j) := bAt_get _ _ (by rw [be_length]; exact h)
end Go.Proofs.Ytillnpllcfleeaa
