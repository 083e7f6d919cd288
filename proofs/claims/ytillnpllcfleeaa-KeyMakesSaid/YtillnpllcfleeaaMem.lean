/- Words for memory: a block that is known whole, a slice that reads as a list, a slice of byte slices; how each is kept. -/
import Derived.Test.YtillnpllcfleeaaNum
import Derived.Below
import Derived.Laws.OwnMore
import Derived.Deep.AppendLies
import Derived.Deep.Draws
import Derived.Laws.Rows
import Derived.Laws.Tables
namespace Go.Proofs.Ytillnpllcfleeaa
open Go Go.RowKit

/-- block g is the cells cs of element type t, none of them frozen -/
def Blk (w : World) (g : Nat) (t : TypeId) (cs : Array Value) : Prop := w.heap[g]? = some (.cells cs t (0, 0))

section
variable {w w' : World} {g : Nat} {t : TypeId} {cs : Array Value}
theorem Blk.lt (h : Blk w g t cs) : g < w.heap.size := (Array.getElem?_eq_some_iff.1 h).1
theorem Blk.cell (h : Blk w g t cs) (i : Nat) : w.cell? ⟨g, i, none⟩ = cs[i]? := cell_of_row w g i cs t (0, 0) h
theorem Blk.frozen (h : Blk w g t cs) (i : Nat) : w.frozen? ⟨g, i, none⟩ = false := frozen_of_row w g i cs t h
theorem Blk.new (w : World) (t : TypeId) (cs : Array Value) : Blk (w.alloc (.cells cs t)) w.heap.size t cs := heap_alloc_new w _
theorem Blk.drew (h : Blk w g t cs) : Blk w.drew g t cs := h
theorem Blk.drewN (h : Blk w g t cs) (n : Nat) : Blk (w.drewN n) g t cs := h
theorem Blk.alloc (h : Blk w g t cs) (o : Obj) : Blk (w.alloc o) g t cs := (Below.heap_alloc w o _ h.lt).trans h
theorem Blk.set (h : Blk w g t cs) (i : Nat) (u : Value) : Blk (w.setCell ⟨g, i, none⟩ u) g t (cs.setIfInBounds i u) := heap_setCell_same w g i cs t u h
theorem Blk.far (h : Blk w g t cs) {p : Addr} (hp : g ≠ p.block) (u : Value) : Blk (w.setCell p u) g t cs := (heap_setCell_other w p g u hp).trans h
theorem Blk.below {B : Nat} (h : Blk w g t cs) (hb : Below B w w') (hg : g < B) : Blk w' g t cs := (hb.block g hg).trans h
theorem Blk.call (h : Blk w g t cs) (hb : Below w.heap.size w w') : Blk w' g t cs := h.below hb h.lt
theorem Blk.grown {row : Option Nat} (h : Blk w g t cs) (hb : w.grownBy w' row) (hg : some g ≠ row) : Blk w' g t cs := (hb.block g h.lt hg).trans h
theorem Blk.ne {g' : Nat} {t' : TypeId} {cs' : Array Value} (h : Blk w g t cs) (h' : Blk w g' t' cs') (hne : t ≠ t') : g ≠ g' := by
  rintro rfl
  unfold Blk at h h'
  rw [h] at h'
  injection h' with h'
  injection h' with _ ht
  exact hne ht
end

theorem Blk.new1 (w : World) (o : Obj) (t : TypeId) (cs : Array Value) : Blk ((w.alloc o).alloc (.cells cs t)) (w.heap.size + 1) t cs := heap_alloc2_new w o _
theorem Blk.row {w : World} {g g' : Nat} {t : TypeId} {cs cs' : Array Value} (h : Blk w g t cs) (hne : g ≠ g') : Blk (w.setRow g' cs') g t cs := (setRow_other w g' g cs' hne).trans h
theorem Blk.rowSame {w : World} {g : Nat} {t : TypeId} {cs cs' : Array Value} (h : Blk w g t cs) : Blk (w.setRow g cs') g t cs' := setRow_heap w g _ _ _ _ h
theorem grownBy_setRow (w : World) (g : Nat) (cs : Array Value) : w.grownBy (w.setRow g cs) (some g) :=
  ⟨rfl, rfl, rfl, by simp, fun k _ hk => setRow_other w g k _ (fun e => hk (by rw [e]))⟩
theorem grownBy_setCell (w : World) (p : Addr) (u : Value) : w.grownBy (w.setCell p u) (some p.block) :=
  ⟨rfl, rfl, rfl, by simp [World.setCell], fun k _ hn => Below.heap_setCell w p u k (fun e => hn (by rw [e]))⟩

/-- a whole row stored; the world behind it is one of which just the row and the rest are known -/
theorem wpList_store_abs {P : Program} {ops : Array Oper} {rest : List Oper} {o : Oper} {a : Act} {w : World} {Q : Exit → Act → World → Prop} (hgd : o.guard = none) (ty : TypeId) (x y : Operand) (ho : o.op = .store ty x y)
    (g : Nat) (cells : Array Value) (hx : a.eval x = .pointer (some ⟨g, 0, none⟩)) (hy : a.eval y = .agg cells)
    (t : TypeId) (old : Array Value) (hg : Blk w g t old) (n : Nat) (hi : (P.info? ty).map (·.size) = some n) (hn : cells.size = n)
    (hold : old.size = n) (h1 : cells.all (·.oneCell') = true)
    (h : ∀ w', Blk w' g t cells → w.grownBy w' (some g) → wpList P ops Q rest (a.put o.dst undef) w') : wpList P ops Q (o :: rest) a w :=
  wpList_store_row hgd ty x y ho g cells hx hy t old hg (by rw [hi, hn]) (by rw [hold, hn]) h1 (h _ (Blk.rowSame hg) (grownBy_setRow w g cells))

theorem below_drewN {B : Nat} {a w : World} (h : Below B a w) (n : Nat) : Below B a (w.drewN n) := ⟨h.os, h.tape, h.output, h.size, h.block⟩

/-- the slice at A of n elements, each of sz cells, reads as xs; it lies below block B -/
def Rd (w : World) (B sz : Nat) (A : Option Addr) (n : Nat) (xs : List Value) : Prop :=
  xs.length = n * sz ∧ (0 < n → ∃ b off, A = some ⟨b, off, none⟩ ∧ b < B ∧ ∀ j u, xs[j]? = some u → w.cell? ⟨b, off + j, none⟩ = some u)

section
variable {w w' : World} {B B' sz n : Nat} {A : Option Addr} {xs : List Value}
theorem Rd.nil (A : Option Addr) : Rd w B sz A 0 [] := ⟨by simp, fun h => absurd h (by omega)⟩
theorem Rd.keep (h : Rd w B sz A n xs) (hk : ∀ b o, b < B → w'.cell? ⟨b, o, none⟩ = w.cell? ⟨b, o, none⟩) : Rd w' B sz A n xs :=
  ⟨h.1, fun hn => by
    obtain ⟨b, off, e, hb, hc⟩ := h.2 hn
    exact ⟨b, off, e, hb, fun j u hu => (hk _ _ hb).trans (hc j u hu)⟩⟩
theorem Rd.more (h : Rd w B sz A n xs) (hB : B ≤ B') : Rd w B' sz A n xs :=
  ⟨h.1, fun hn => by
    obtain ⟨b, off, e, hb, hc⟩ := h.2 hn
    exact ⟨b, off, e, by omega, hc⟩⟩
theorem Rd.below {C : Nat} (h : Rd w B sz A n xs) (hb : Below C w w') (hC : B ≤ C) : Rd w' B sz A n xs := h.keep fun _ _ hp => hb.cell (p := ⟨_, _, none⟩) (Nat.lt_of_lt_of_le hp hC)
theorem Rd.drew (h : Rd w B sz A n xs) : Rd w.drew B sz A n xs := h
theorem Rd.drewN (h : Rd w B sz A n xs) (k : Nat) : Rd (w.drewN k) B sz A n xs := h
theorem Rd.alloc (h : Rd w B sz A n xs) (hB : B ≤ w.heap.size) (o : Obj) : Rd (w.alloc o) B sz A n xs := h.keep fun _ _ hp => World.cell?_alloc_lt w o ⟨_, _, none⟩ (Nat.lt_of_lt_of_le hp hB)
theorem Rd.setCell (h : Rd w B sz A n xs) {p : Addr} (hB : B ≤ p.block) (u : Value) : Rd (w.setCell p u) B sz A n xs :=
  h.keep fun b o hq => World.cell?_setCell_other w p _ u (fun e => by subst e; exact absurd hq (by simpa using hB))
/-- one cell of it -/
theorem Rd.at1 {k : Nat} (h : Rd w B 1 A n xs) (hk : k < n) : ∃ b off u, A = some ⟨b, off, none⟩ ∧ b < B ∧ xs[k]? = some u ∧ w.cell? ⟨b, off + k, none⟩ = some u := by
  obtain ⟨b, off, e, hb, hc⟩ := h.2 (by omega)
  have hl : k < xs.length := by have := h.1; omega
  exact ⟨b, off, xs[k], e, hb, List.getElem?_eq_getElem hl, hc k _ (List.getElem?_eq_getElem hl)⟩
/-- where 's[lo:]' or 's[lo:hi]' lies: as the model says -/
def cutA (A : Option Addr) (sz lo cap : Nat) : Option Addr := if cap = lo then A else A.map (·.add (lo * sz))
theorem Rd.cut (h : Rd w B sz A n xs) {lo hi cap : Nat} (hl : lo ≤ hi) (hh : hi ≤ n) (hc : n ≤ cap) :
    Rd w B sz (cutA A sz lo cap) (hi - lo) ((xs.take (hi * sz)).drop (lo * sz)) := by
  refine ⟨?_, fun hn => ?_⟩
  · rw [List.length_drop, List.length_take, h.1, Nat.min_eq_left (Nat.mul_le_mul_right _ hh), Nat.sub_mul]
  · obtain ⟨b, off, rfl, hb, hcell⟩ := h.2 (by omega)
    unfold cutA
    rw [if_neg (by omega)]
    refine ⟨b, off + lo * sz, ?_, hb, fun j u hu => ?_⟩
    · show some _ = some _
      unfold Addr.add
      split
      · rename_i h0; rw [h0, Nat.add_zero]
      · rfl
    · rw [Nat.add_assoc]
      rw [List.getElem?_drop, List.getElem?_take] at hu
      split at hu
      · exact hcell _ u hu
      · cases hu
theorem Rd.of_own {base : Nat} {e : TypeId} {c : Nat} (h : w.ownsRow base e sz (.slice A n c) n xs) : Rd w w.heap.size sz A n xs := by
  refine ⟨h.1, fun hn => ?_⟩
  rcases h.2 with ⟨_, h0⟩ | ⟨g, cap, cur, hv, _, hg, _, _, _, htake⟩
  · omega
  · injection hv with hA
    subst hA
    refine ⟨g, 0, rfl, (Array.getElem?_eq_some_iff.1 hg).1, fun j u hu => ?_⟩
    rw [Nat.zero_add, cell_of_row w g j cur e (0, 0) hg]
    rw [← htake, List.getElem?_take] at hu
    split at hu
    · simpa using hu
    · cases hu
end

/-- bytes as values -/
def b8 (b : UInt8) : Value := .int .u8 (u8v b)
def b8s (l : List UInt8) : List Value := l.map b8
theorem b8s_length (l : List UInt8) : (b8s l).length = l.length := List.length_map ..
theorem b8s_append (l m : List UInt8) : b8s (l ++ m) = b8s l ++ b8s m := List.map_append ..
theorem b8s_nil : b8s [] = [] := rfl
theorem b8s_take (l : List UInt8) (n : Nat) : b8s (l.take n) = (b8s l).take n := List.map_take ..
theorem b8s_drop (l : List UInt8) (n : Nat) : b8s (l.drop n) = (b8s l).drop n := List.map_drop ..
theorem b8s_get (l : List UInt8) (k : Nat) : (b8s l)[k]? = (l[k]?).map b8 := List.getElem?_map ..
theorem b8s_one (l : List UInt8) : ∀ u ∈ b8s l, u.oneCell' = true := by
  intro u hu
  obtain ⟨b, _, rfl⟩ := List.mem_map.1 hu
  rfl
theorem b8_inj {a b : UInt8} (h : b8 a = b8 b) : a = b := by
  unfold b8 at h
  injection h with _ h
  exact u8v_inj h
theorem b8s_inj {l m : List UInt8} (h : b8s l = b8s m) : l = m := List.map_inj_right (fun _ _ e => b8_inj e) |>.1 h

/-- a byte slice that reads as bs -/
def RdB (w : World) (B : Nat) (A : Option Addr) (bs : List UInt8) : Prop := Rd w B 1 A bs.length (b8s bs)
section
variable {w w' : World} {B B' : Nat} {A : Option Addr} {bs : List UInt8}
theorem RdB.nil (A : Option Addr) : RdB w B A [] := Rd.nil A
theorem RdB.more (h : RdB w B A bs) (hB : B ≤ B') : RdB w B' A bs := Rd.more h hB
theorem RdB.below {C : Nat} (h : RdB w B A bs) (hb : Below C w w') (hC : B ≤ C) : RdB w' B A bs := Rd.below h hb hC
theorem RdB.drewN (h : RdB w B A bs) (k : Nat) : RdB (w.drewN k) B A bs := h
theorem RdB.alloc (h : RdB w B A bs) (hB : B ≤ w.heap.size) (o : Obj) : RdB (w.alloc o) B A bs := Rd.alloc h hB o
theorem RdB.setCell (h : RdB w B A bs) {p : Addr} (hB : B ≤ p.block) (u : Value) : RdB (w.setCell p u) B A bs := Rd.setCell h hB u
theorem RdB.cut (h : RdB w B A bs) {lo hi cap : Nat} (hl : lo ≤ hi) (hh : hi ≤ bs.length) (hc : bs.length ≤ cap) :
    RdB w B (cutA A 1 lo cap) ((bs.take hi).drop lo) := by
  have := Rd.cut h hl hh hc
  simp only [Nat.mul_one] at this
  unfold RdB
  rw [b8s_drop, b8s_take]
  rw [List.length_drop, List.length_take, Nat.min_eq_left hh]
  exact this
theorem RdB.cutl (h : RdB w B A bs) {lo cap : Nat} (hl : lo ≤ bs.length) (hc : bs.length ≤ cap) : RdB w B (cutA A 1 lo cap) (bs.drop lo) := by
  have := h.cut hl (Nat.le_refl _) hc
  rwa [List.take_length] at this
theorem RdB.cutlh (h : RdB w B A bs) {lo n cap : Nat} (hl : lo + n ≤ bs.length) (hc : bs.length ≤ cap) : RdB w B (cutA A 1 lo cap) ((bs.drop lo).take n) := by
  have := h.cut (Nat.le_add_right lo n) hl hc
  rwa [List.drop_take, Nat.add_sub_cancel_left] at this
theorem RdB.cuth (h : RdB w B A bs) {hi : Nat} (hh : hi ≤ bs.length) : RdB w B A (bs.take hi) := by
  have := h.cut (Nat.zero_le hi) hh (Nat.le_refl _)
  rw [List.drop_zero] at this
  unfold cutA at this
  split at this
  · exact this
  · cases A with
    | none => exact this
    | some a => simpa [Addr.add] using this
theorem RdB.at1 {k : Nat} (h : RdB w B A bs) (hk : k < bs.length) : ∃ b off, A = some ⟨b, off, none⟩ ∧ b < B ∧ w.cell? ⟨b, off + k, none⟩ = some (.int .u8 (u8v bs[k])) := by
  obtain ⟨b, off, u, e, hb, hx, hc⟩ := Rd.at1 h hk
  rw [b8s_get, List.getElem?_eq_getElem hk] at hx
  exact ⟨b, off, e, hb, by rw [hc, ← hx]; rfl⟩
/-- all its cells at once -/
theorem RdB.all (h : RdB w B A bs) (hk : 0 < bs.length) : ∃ b off, A = some ⟨b, off, none⟩ ∧ b < B ∧ ∀ k, (hk : k < bs.length) → w.cell? ⟨b, off + k, none⟩ = some (.int .u8 (u8v bs[k])) := by
  obtain ⟨b, off, e, hb, hc⟩ := h.2 hk
  exact ⟨b, off, e, hb, fun k hk' => hc k _ (by rw [b8s_get, List.getElem?_eq_getElem hk']; rfl)⟩
end

/-- a slice of byte slices that reads as l -/
def RdL (w : World) (B : Nat) (A : Option Addr) (l : List (List UInt8)) : Prop :=
  ∃ xs : List Value, Rd w B 1 A l.length xs ∧ ∀ (k : Nat) (bs : List UInt8), l[k]? = some bs → ∃ A' c', xs[k]? = some (Value.slice A' bs.length c') ∧ bs.length ≤ c' ∧ c' ≤ maxLen ∧ RdB w B A' bs
section
variable {w w' : World} {B B' : Nat} {A : Option Addr} {l : List (List UInt8)}
theorem RdL.more (h : RdL w B A l) (hB : B ≤ B') : RdL w B' A l := by
  obtain ⟨xs, h1, h2⟩ := h
  exact ⟨xs, h1.more hB, fun k bs hk => let ⟨A', c', a, b, c, d⟩ := h2 k bs hk; ⟨A', c', a, b, c, d.more hB⟩⟩
theorem RdL.below {C : Nat} (h : RdL w B A l) (hb : Below C w w') (hC : B ≤ C) : RdL w' B A l := by
  obtain ⟨xs, h1, h2⟩ := h
  exact ⟨xs, h1.below hb hC, fun k bs hk => let ⟨A', c', a, b, c, d⟩ := h2 k bs hk; ⟨A', c', a, b, c, d.below hb hC⟩⟩
theorem RdL.at1 {k : Nat} (h : RdL w B A l) (hk : k < l.length) : ∃ b off A' c', A = some ⟨b, off, none⟩ ∧ b < B ∧ w.cell? ⟨b, off + k, none⟩ = some (.slice A' l[k].length c') ∧
    l[k].length ≤ c' ∧ c' ≤ maxLen ∧ RdB w B A' l[k] := by
  obtain ⟨xs, h1, h2⟩ := h
  obtain ⟨A', c', hx, hc, hm, hr⟩ := h2 k l[k] (List.getElem?_eq_getElem hk)
  obtain ⟨b, off, u, e, hb, hx', hcell⟩ := h1.at1 hk
  rw [hx] at hx'
  injection hx' with hx'
  subst hx'
  exact ⟨b, off, A', c', e, hb, hcell, hc, hm, hr⟩
end

end Go.Proofs.Ytillnpllcfleeaa
