/- What came in, as lists; worlds that keep all that was there; equality of arrays. -/
import Derived.Test.YtillnpllcfleeaaApp
import Derived.Deep.RegionHeld3
import Derived.Stop.BytesEq
import Derived.OpenShut
namespace Go.Proofs.Ytillnpllcfleeaa
open Go Go.RowKit

/-- all that is there in w is in W as it was -/
def Ext (w W : World) : Prop := Below w.heap.size w W
section
variable {w W W' : World}
theorem Ext.refl (w : World) : Ext w w := Below.refl _ _
theorem Ext.drew (h : Ext w W) : Ext w W.drew := Below.drew h
theorem Ext.drewN (h : Ext w W) (n : Nat) : Ext w (W.drewN n) := below_drewN h n
theorem Ext.alloc (h : Ext w W) (o : Obj) : Ext w (W.alloc o) := Below.alloc h h.size o
theorem Ext.call (h : Ext w W) (hb : Below W.heap.size W W') : Ext w W' := Below.trans h (hb.mono h.size)
theorem Ext.trans (h : Ext w W) (hb : Ext W W') : Ext w W' := Below.trans h (Below.mono hb h.size)
theorem Ext.below (h : Ext w W) : Below w.heap.size w W := h
theorem Ext.blk {g : Nat} {t : TypeId} {cs : Array Value} (h : Ext w W) (hb : Blk w g t cs) : Blk W g t cs := hb.call h
theorem Ext.rdB {B : Nat} {A : Option Addr} {bs : List UInt8} (h : Ext w W) (hr : RdB w B A bs) (hB : B ≤ w.heap.size) : RdB W B A bs := hr.below h hB
end

/-- what a row says of a slice of bytes that came in -/
def IsRow (k : IntKind) (w : World) (a : Option Addr) (len cap : Nat) (zs : List Int) : Prop :=
  (a = none ∧ len = 0 ∧ cap = 0 ∧ zs = []) ∨
  ∃ x, a = some x ∧ len ≤ cap ∧ cap ≤ maxLen ∧ zs.length = cap ∧ (∀ i, i < zs.length → w.cell? (x.add i) = some (.int k (zs.getD i 0))) ∧ ∀ n ∈ zs, (Lit.int k n).wf = true

theorem wf_u8 {n : Int} (h : (Lit.int .u8 n).wf = true) : ∃ b : UInt8, n = u8v b := by
  have hb := bounds_u8 h
  refine ⟨UInt8.ofNat n.toNat, ?_⟩
  rw [u8v_lit _ (by omega)]
  omega
theorem list_u8 (l : List Int) (h : ∀ n ∈ l, (Lit.int .u8 n).wf = true) : ∃ bs : List UInt8, l = bs.map u8v := by
  induction l with
  | nil => exact ⟨[], rfl⟩
  | cons x l ih =>
    obtain ⟨bs, rfl⟩ := ih fun n hn => h n (List.mem_cons_of_mem _ hn)
    obtain ⟨b, rfl⟩ := wf_u8 (h x List.mem_cons_self)
    exact ⟨b :: bs, rfl⟩
theorem rdB_of_row {w : World} {a : Option Addr} {len cap : Nat} {zs : List Int} (h : IsRow .u8 w a len cap zs) :
    ∃ bs : List UInt8, bs.length = len ∧ len ≤ cap ∧ cap ≤ maxLen ∧ RdB w w.heap.size a bs := by
  rcases h with ⟨rfl, rfl, rfl, rfl⟩ | ⟨x, rfl, hl, hm, hz, hc, hw⟩
  · exact ⟨[], rfl, Nat.le_refl _, Nat.zero_le _, RdB.nil _⟩
  · obtain ⟨bs, hbs⟩ := list_u8 zs hw
    subst hbs
    have hbl : bs.length = cap := by simpa using hz
    refine ⟨bs.take len, by rw [List.length_take]; omega, hl, hm, by rw [b8s_length, Nat.mul_one], fun hn => ?_⟩
    have hlen : 0 < len := by rw [List.length_take] at hn; omega
    have h0 := hc 0 (by simp; omega)
    obtain ⟨b, off, sp⟩ := x
    have hsp : sp = none := by
      cases sp with
      | none => rfl
      | some s =>
        simp [Addr.add, World.cell?] at h0
        split at h0 <;> simp at h0
    subst hsp
    refine ⟨b, off, rfl, ?_, fun j u hu => ?_⟩
    · simpa [Addr.add] using block_lt_of_cell h0
    · rw [b8s_get, List.getElem?_take] at hu
      split at hu
      · rename_i hj
        rw [← add_none, hc j (by simp; omega)]
        have hj' : j < bs.length := by omega
        rw [List.getElem?_eq_getElem hj'] at hu
        simp only [Option.map_some] at hu
        rw [← hu]
        simp [hj', b8]
      · cases hu

/-! equality of arrays of bytes -/
theorem eql25 (w : World) (xs ys : List UInt8) (hx : xs.length = 32) (hy : ys.length = 32) : (binOp .eql 25 (.agg (b8s xs).toArray) (.agg (b8s ys).toArray)).run Try.prog w = .ok (.bool (xs == ys)) w :=
  run_eql_bytes w 25 5 32 Try.underlying25 Try.underlying5 size5 xs ys hx hy
end Go.Proofs.Ytillnpllcfleeaa
