/- Layer 10 in plain words, and its keys as cells. -/
import Derived.Test.YtillnpllcfleeaaRows1
import Derived.Test.YtillnpllcfleeaaKdf10
namespace Go.Proofs.Ytillnpllcfleeaa
open Go Go.RowKit

/-- keys -/
structure KS where
  sec : List UInt8
  key : List UInt8
  iv : List UInt8
  hp : List UInt8
  ph : UInt64
structure KS.Ok (K : KS) : Prop where
  sec : K.sec.length = 32
  key : K.key.length = 16
  iv : K.iv.length = 12
  hp : K.hp.length = 16
def KS.cells (K : KS) : List Value := b8s K.sec ++ (b8s K.key ++ (b8s K.iv ++ (b8s K.hp ++ [.int .u64 (u64v K.ph)])))
theorem KS.cells_length (K : KS) (h : K.Ok) : K.cells.length = 77 := by
  unfold KS.cells
  simp only [List.length_append, b8s_length, h.sec, h.key, h.iv, h.hp, List.length_singleton]
theorem KS.cells_one (K : KS) : ∀ v ∈ K.cells, v.oneCell' = true := by
  intro v hv
  unfold KS.cells at hv
  simp only [List.mem_append, List.mem_singleton] at hv
  rcases hv with h | h | h | h | h
  · exact b8s_one _ v h
  · exact b8s_one _ v h
  · exact b8s_one _ v h
  · exact b8s_one _ v h
  · subst h; rfl
theorem mid_eq {α : Type} (a b c : List α) (o n : Nat) (ho : a.length = o) (hn : b.length = n) : ((a ++ (b ++ c)).drop o).take n = b := by
  subst ho hn
  rw [List.drop_append_of_le_length (Nat.le_refl _), List.drop_of_length_le (Nat.le_refl _), List.nil_append, List.take_append_of_le_length (Nat.le_refl _), List.take_of_length_le (Nat.le_refl _)]
theorem splice_eq {α : Type} (a b b' c : List α) (o : Nat) (ho : a.length = o) (hb : b.length = b'.length) : splice (a ++ (b ++ c)) o b' = a ++ (b' ++ c) := by
  subst ho
  unfold splice
  rw [List.take_append_of_le_length (Nat.le_refl _), List.take_of_length_le (Nat.le_refl _), ← hb, ← List.append_assoc a b c, List.drop_append, List.drop_of_length_le (by rw [List.length_append]; omega), List.length_append, Nat.sub_self, List.drop_zero, List.nil_append]
section
variable (K : KS) (h : K.Ok)
include h
theorem KS.cut_sec : (K.cells.drop 0).take (b8s K.sec).length = b8s K.sec := by
  rw [b8s_length, h.sec]; exact mid_eq [] _ _ 0 32 rfl (by rw [b8s_length, h.sec])
theorem KS.cut_key : (K.cells.drop 32).take (b8s K.key).length = b8s K.key := by
  rw [b8s_length, h.key]; exact mid_eq _ _ _ 32 16 (by rw [b8s_length, h.sec]) (by rw [b8s_length, h.key])
theorem KS.cut_iv : (K.cells.drop 48).take (b8s K.iv).length = b8s K.iv := by
  rw [b8s_length, h.iv]
  unfold KS.cells
  rw [← List.append_assoc]
  exact mid_eq _ _ _ 48 12 (by simp [b8s_length, h.sec, h.key]) (by rw [b8s_length, h.iv])
theorem KS.cut_hp : (K.cells.drop 60).take (b8s K.hp).length = b8s K.hp := by
  rw [b8s_length, h.hp]
  unfold KS.cells
  rw [← List.append_assoc, ← List.append_assoc]
  exact mid_eq _ _ _ 60 16 (by simp [b8s_length, h.sec, h.key, h.iv]) (by rw [b8s_length, h.hp])
theorem KS.at_ph : K.cells[76]? = some (.int .u64 (u64v K.ph)) := by
  unfold KS.cells
  rw [← List.append_assoc, ← List.append_assoc, ← List.append_assoc, List.getElem?_append_right (by simp [b8s_length, h.sec, h.key, h.iv, h.hp])]
  simp [b8s_length, h.sec, h.key, h.iv, h.hp]
theorem KS.set_ph (x : UInt64) : K.cells.set 76 (.int .u64 (u64v x)) = ({ K with ph := x } : KS).cells := by
  unfold KS.cells
  rw [← List.append_assoc, ← List.append_assoc, ← List.append_assoc, List.set_append_right _ _ (by simp [b8s_length, h.sec, h.key, h.iv, h.hp])]
  simp [b8s_length, h.sec, h.key, h.iv, h.hp]
theorem KS.put_hp (x : List UInt8) (hx : x.length = 16) : splice K.cells 60 (b8s x) = ({ K with hp := x } : KS).cells := by
  unfold KS.cells
  rw [← List.append_assoc, ← List.append_assoc, splice_eq _ _ _ _ 60 (by simp [b8s_length, h.sec, h.key, h.iv]) (by rw [b8s_length, b8s_length, h.hp, hx])]
  simp
theorem KS.put_key (x : List UInt8) (hx : x.length = 16) : splice K.cells 32 (b8s x) = ({ K with key := x } : KS).cells := by
  unfold KS.cells
  rw [splice_eq _ _ _ _ 32 (by rw [b8s_length, h.sec]) (by rw [b8s_length, b8s_length, h.key, hx])]
theorem KS.put_iv (x : List UInt8) (hx : x.length = 12) : splice K.cells 48 (b8s x) = ({ K with iv := x } : KS).cells := by
  unfold KS.cells
  rw [← List.append_assoc, splice_eq _ _ _ _ 48 (by simp [b8s_length, h.sec, h.key]) (by rw [b8s_length, b8s_length, h.iv, hx])]
  simp
end

/-! what the keys are -/
def sQuicKey : List UInt8 := [113, 117, 105, 99, 32, 107, 101, 121]
def sQuicIv : List UInt8 := [113, 117, 105, 99, 32, 105, 118]
def sQuicHp : List UInt8 := [113, 117, 105, 99, 32, 104, 112]
def sQuicKu : List UInt8 := [113, 117, 105, 99, 32, 107, 117]
def sClientIn : List UInt8 := [99, 108, 105, 101, 110, 116, 32, 105, 110]
def sServerIn : List UInt8 := [115, 101, 114, 118, 101, 114, 32, 105, 110]
def keysOf (s : List UInt8) : KS := ⟨s, labelOut s sQuicKey [] 16, labelOut s sQuicIv [] 12, labelOut s sQuicHp [] 16, 0⟩
theorem labelOut_length (s lab ctx : List UInt8) (n : Nat) : (labelOut s lab ctx n).length = n := expand_length _ _ _
theorem keysOf_ok (s : List UInt8) (h : s.length = 32) : (keysOf s).Ok := ⟨h, labelOut_length _ _ _ _, labelOut_length _ _ _ _, labelOut_length _ _ _ _⟩
def keysNext (K : KS) : KS := { keysOf (labelOut K.sec sQuicKu [] 32) with hp := K.hp, ph := K.ph + 1 }
theorem keysNext_ok (K : KS) (h : K.Ok) : (keysNext K).Ok := ⟨labelOut_length _ _ _ _, labelOut_length _ _ _ _, labelOut_length _ _ _ _, h.hp⟩
def keySalt : List UInt8 := [56, 118, 44, 247, 245, 89, 52, 179, 77, 23, 154, 230, 164, 200, 12, 173, 204, 187, 127, 10]
def firstClient (cid : List UInt8) : KS := keysOf (labelOut (mac keySalt cid) sClientIn [] 32)
def firstServer (cid : List UInt8) : KS := keysOf (labelOut (mac keySalt cid) sServerIn [] 32)
def resetTok (static cid : List UInt8) : List UInt8 := (mac static cid).take 16

/-! in memory -/
theorem zero54 : ((Try.prog.info? 54).bind (·.zero)).map (·.cells) = some (KS.cells ⟨List.replicate 32 0, List.replicate 16 0, List.replicate 12 0, List.replicate 16 0, 0⟩).toArray := by kernel_rfl
theorem info54 : (Try.prog.info? 54).map (·.size) = some 77 := by kernel_rfl
theorem inf32 : (Try.prog.info? 32).map (·.size) = some 16 := by kernel_rfl
theorem info51 : (Try.prog.info? 51).map (·.size) = some 12 := by kernel_rfl
theorem info66 : (Try.prog.info? 66).map (·.size) = some 16 := by kernel_rfl
theorem size25 (w : World) : (sizeOf 25).run Try.prog w = .ok 32 w := by kernel_rfl
theorem siz32 (w : World) : (sizeOf 32).run Try.prog w = .ok 16 w := by kernel_rfl
theorem size51 (w : World) : (sizeOf 51).run Try.prog w = .ok 12 w := by kernel_rfl
theorem size52 (w : World) : (sizeOf 52).run Try.prog w = .ok 1 w := by kernel_rfl

theorem part_row {t off n : Nat} {cs m : List Value} (hs : ∀ w, (sizeOf t).run Try.prog w = .ok n w) (ha : ∀ w, (isAgg t).run Try.prog w = .ok true w) (hm : (cs.drop off).take n = m) (W : World) :
    (part t cs.toArray off).run Try.prog W = .ok (.agg m.toArray) W := by
  subst hm
  simp [part, hs, ha, List.extract_toArray, List.extract_eq_take_drop]
theorem agg25 (w : World) : (isAgg 25).run Try.prog w = .ok true w := by kernel_rfl
theorem agg32 (w : World) : (isAgg 32).run Try.prog w = .ok true w := by kernel_rfl
theorem agg51 (w : World) : (isAgg 51).run Try.prog w = .ok true w := by kernel_rfl
theorem agg52 (w : World) : (isAgg 52).run Try.prog w = .ok false w := by kernel_rfl
theorem part_cell {t off : Nat} {cs : List Value} {v : Value} (ha : ∀ w, (isAgg t).run Try.prog w = .ok false w) (hv : cs[off]? = some v) (W : World) : (part t cs.toArray off).run Try.prog W = .ok v W := by
  simp [part, ha, hv]
theorem equalIn_bytes (d : Nat) (t n : Nat) (hu : Try.prog.underlying t = some (.array n 5)) (xs : List UInt8) (hx : xs.length = n) (W : World) :
    (Op.equalIn (d + 2) t (.agg (b8s xs).toArray) (.agg (b8s xs).toArray)).run Try.prog W = .ok true W := by
  have := run_equalIn_bytes (P := Try.prog) W d t 5 n hu Try.underlying5 size5 xs xs hx hx
  rw [beq_self_eq_true] at this
  exact this
theorem eql54 (K : KS) (h : K.Ok) (W : World) : (binOp .eql 54 (.agg K.cells.toArray) (.agg K.cells.toArray)).run Try.prog W = .ok (.bool true) W := by
  have hf : Try.prog.fieldsOf 54 = #[{ name := "Secret", type := 25, offset := 0, embedded := false, tag := "", pkgPath := "", byteOffset := 0 }, { name := "Key", type := 32, offset := 32, embedded := false, tag := "", pkgPath := "", byteOffset := 32 },
        { name := "Iv", type := 51, offset := 48, embedded := false, tag := "", pkgPath := "", byteOffset := 48 }, { name := "Hp", type := 32, offset := 60, embedded := false, tag := "", pkgPath := "", byteOffset := 60 },
        { name := "Phase", type := 52, offset := 76, embedded := false, tag := "", pkgPath := "", byteOffset := 80 }] := by unfold Program.fieldsOf; rw [Try.underlying54]
  rw [run_eql_struct, run_equalIn_struct W _ 54 _ _ (by rw [hf]; exact Try.underlying54) (by kernel_rfl), hf]
  have p1 := K.cut_sec h
  have p2 := K.cut_key h
  have p3 := K.cut_iv h
  have p4 := K.cut_hp h
  rw [b8s_length, h.sec] at p1
  rw [b8s_length, h.key] at p2
  rw [b8s_length, h.iv] at p3
  rw [b8s_length, h.hp] at p4
  have q1 := part_row size25 agg25 p1
  have q2 := part_row siz32 agg32 p2
  have q3 := part_row size51 agg51 p3
  have q4 := part_row siz32 agg32 p4
  have q5 := part_cell agg52 (K.at_ph h)
  have e1 : ∀ W, (Op.equalIn 9999 25 (.agg (b8s K.sec).toArray) (.agg (b8s K.sec).toArray)).run Try.prog W = .ok true W := equalIn_bytes 9997 25 32 Try.underlying25 K.sec h.sec
  have e2 : ∀ W, (Op.equalIn 9999 32 (.agg (b8s K.key).toArray) (.agg (b8s K.key).toArray)).run Try.prog W = .ok true W := equalIn_bytes 9997 32 16 Try.underlying32 K.key h.key
  have e3 : ∀ W, (Op.equalIn 9999 51 (.agg (b8s K.iv).toArray) (.agg (b8s K.iv).toArray)).run Try.prog W = .ok true W := equalIn_bytes 9997 51 12 Try.underlying51 K.iv h.iv
  have e4 : ∀ W, (Op.equalIn 9999 32 (.agg (b8s K.hp).toArray) (.agg (b8s K.hp).toArray)).run Try.prog W = .ok true W := equalIn_bytes 9997 32 16 Try.underlying32 K.hp h.hp
  have e5 : ∀ W, (Op.equalIn 9999 52 (.int .u64 (u64v K.ph)) (.int .u64 (u64v K.ph))).run Try.prog W = .ok true W := fun W => by
    rw [run_equalIn_int W 9998 52 .u64 .u64 _ _ Try.underlying52]
    simp
  simp [Op.eqFields, q1, q2, q3, q4, q5, e1, e2, e3, e4, e5]
theorem fields54 : Try.prog.underlying 54 = some (.struct (Try.prog.fieldsOf 54)) := by
  unfold Program.fieldsOf
  rw [Try.underlying54]
theorem places54 (W : World) : ((Try.prog.fieldsOf 54).mapM (m := Sem) (fun f => do pure (f.offset, ← sizeOf f.type))).run Try.prog W = .ok #[(0, 32), (32, 16), (48, 12), (60, 16), (76, 1)] W := by kernel_rfl
theorem splice_zero {α : Type} (a b c : List α) (o : Nat) (ho : a.length = o) (z : List α) (hz : z.length = b.length) : splice (a ++ (z ++ c)) o b = a ++ (b ++ c) := splice_eq a z b c o ho hz
theorem build54 (ps : List (Nat × Value)) (cs : List Value) (W : World)
    (hf : Instr.fill (fun i => (#[(0, 32), (32, 16), (48, 12), (60, 16), (76, 1)] : Array (Nat × Nat))[i]?) (KS.cells ⟨List.replicate 32 0, List.replicate 16 0, List.replicate 12 0, List.replicate 16 0, 0⟩).toArray ps = some cs.toArray) :
    (Instr.build 54 ps.toArray).run Try.prog W = .ok (.agg cs.toArray) W := by
  have hz := zero54
  cases hi : Try.prog.info? 54 with
  | none => simp [hi] at hz
  | some i =>
    cases hq : i.zero with
    | none => simp [hi, hq] at hz
    | some z =>
      have hz' : z.cells = (KS.cells ⟨List.replicate 32 0, List.replicate 16 0, List.replicate 12 0, List.replicate 16 0, 0⟩).toArray := by simpa [hi, hq] using hz
      have hp := places54 W
      simp only [Instr.build, zeroValue, typeInfo, Sem.run_bind, run_program, hi, hq, Result.andThen_ok, Sem.run_pure, run_underlying fields54, hp, hz']
      rw [hf]; rfl
theorem run_build54 (s k i h : List UInt8) (hs : s.length = 32) (hk : k.length = 16) (hi : i.length = 12) (hh : h.length = 16) (W : World) :
    (Instr.build 54 #[(0, .agg (b8s s).toArray), (1, .agg (b8s k).toArray), (2, .agg (b8s i).toArray), (3, .agg (b8s h).toArray)]).run Try.prog W = .ok (.agg (KS.cells ⟨s, k, i, h, 0⟩).toArray) W := by
  refine build54 [(0, .agg (b8s s).toArray), (1, .agg (b8s k).toArray), (2, .agg (b8s i).toArray), (3, .agg (b8s h).toArray)] _ W ?_
  have o0 : KS.Ok ⟨List.replicate 32 0, List.replicate 16 0, List.replicate 12 0, List.replicate 16 0, 0⟩ := ⟨by simp, by simp, by simp, by simp⟩
  have o1 : KS.Ok ⟨s, List.replicate 16 0, List.replicate 12 0, List.replicate 16 0, 0⟩ := ⟨hs, by simp, by simp, by simp⟩
  have o2 : KS.Ok ⟨s, k, List.replicate 12 0, List.replicate 16 0, 0⟩ := ⟨hs, hk, by simp, by simp⟩
  have o3 : KS.Ok ⟨s, k, i, List.replicate 16 0, 0⟩ := ⟨hs, hk, hi, by simp⟩
  rw [fill_step _ _ 0 _ (b8s s) rfl _ 0 32 rfl (by rw [b8s_length, hs]) (by rw [KS.cells_length _ o0]; decide)]
  have e1 : splice (KS.cells ⟨List.replicate 32 0, List.replicate 16 0, List.replicate 12 0, List.replicate 16 0, 0⟩) 0 (b8s s) = KS.cells ⟨s, List.replicate 16 0, List.replicate 12 0, List.replicate 16 0, 0⟩ :=
    splice_eq [] (b8s (List.replicate 32 0)) (b8s s) _ 0 rfl (by rw [b8s_length, b8s_length, hs]; simp)
  rw [e1, fill_step _ _ 1 _ (b8s k) rfl _ 32 16 rfl (by rw [b8s_length, hk]) (by rw [KS.cells_length _ o1]; decide), KS.put_key _ o1 k hk,
    fill_step _ _ 2 _ (b8s i) rfl _ 48 12 rfl (by rw [b8s_length, hi]) (by rw [KS.cells_length _ o2]; decide), KS.put_iv _ o2 i hi,
    fill_step _ _ 3 _ (b8s h) rfl _ 60 16 rfl (by rw [b8s_length, hh]) (by rw [KS.cells_length _ o3]; decide), KS.put_hp _ o3 h hh]
  rfl
theorem run_build54_1 (s : List UInt8) (hs : s.length = 32) (W : World) :
    (Instr.build 54 #[(0, .agg (b8s s).toArray)]).run Try.prog W = .ok (.agg (KS.cells ⟨s, List.replicate 16 0, List.replicate 12 0, List.replicate 16 0, 0⟩).toArray) W := by
  refine build54 [(0, .agg (b8s s).toArray)] _ W ?_
  have o0 : KS.Ok ⟨List.replicate 32 0, List.replicate 16 0, List.replicate 12 0, List.replicate 16 0, 0⟩ := ⟨by simp, by simp, by simp, by simp⟩
  rw [fill_step _ _ 0 _ (b8s s) rfl _ 0 32 rfl (by rw [b8s_length, hs]) (by rw [KS.cells_length _ o0]; decide)]
  have e1 : splice (KS.cells ⟨List.replicate 32 0, List.replicate 16 0, List.replicate 12 0, List.replicate 16 0, 0⟩) 0 (b8s s) = KS.cells ⟨s, List.replicate 16 0, List.replicate 12 0, List.replicate 16 0, 0⟩ :=
    splice_eq [] (b8s (List.replicate 32 0)) (b8s s) _ 0 rfl (by rw [b8s_length, b8s_length, hs]; simp)
  rw [e1]
  rfl

/-! a slice as an array -/
theorem run_arrayAt {t n : Nat} (hu : Try.prog.underlying t = some (.array n 5)) (p : Option Addr) (len c : Nat) (h : n ≤ len) (W : World) : (Instr.arrayAt t (.slice p len c)).run Try.prog W = .ok (.pointer p) W := by
  simp [Instr.arrayAt, run_underlying hu]
  intro h'; omega
theorem Sl.loc {w : World} {B : Nat} {v : Value} {bs : List UInt8} (h : Sl w B v bs) (h0 : 0 < bs.length) : ∃ b off c, v = .slice (some ⟨b, off, none⟩) bs.length c ∧ b < B ∧ bs.length ≤ c ∧ c ≤ maxLen ∧ w.rangeAt b off (b8s bs) := by
  obtain ⟨A, c, rfl, hc, hm, hr⟩ := h
  obtain ⟨b, off, rfl, hb, hcell⟩ := hr.2 h0
  exact ⟨b, off, c, rfl, hb, hc, hm, hcell⟩
theorem rangeAt_below {w w' : World} {b off B : Nat} {m : List Value} (h : w.rangeAt b off m) (hb : Below B w w') (hB : b < B) : w'.rangeAt b off m := fun j v hv => by
  rw [hb.cell (p := ⟨b, off + j, none⟩) hB]
  exact h j v hv
theorem rangeAt_grown {w w' : World} {b off : Nat} {row : Option Nat} {m : List Value} (h : w.rangeAt b off m) (hg : w.grownBy w' row) (hB : b < w.heap.size) (hne : some b ≠ row) : w'.rangeAt b off m := fun j v hv => by
  rw [grown_cell hg ⟨b, off + j, none⟩ hB hne]
  exact h j v hv
theorem Own.rng {w : World} {base g n c : Nat} {xs : List UInt8} (h : Own w base (.slice (some ⟨g, 0, none⟩) n c) xs) : w.rangeAt g 0 (b8s xs) := fun j v hv => by
  rw [b8s_get] at hv
  by_cases hj : j < xs.length
  · rw [Nat.zero_add, h.at j hj, ← hv, bAt_get xs j hj]; rfl
  · rw [List.getElem?_eq_none (by omega)] at hv
    cases hv
theorem rangeAt_take {w : World} {b off : Nat} {m : List UInt8} (h : w.rangeAt b off (b8s m)) (n : Nat) : w.rangeAt b off (b8s (m.take n)) := fun j v hv => by
  rw [b8s_take, List.getElem?_take] at hv
  split at hv
  · exact h j v hv
  · cases hv
end Go.Proofs.Ytillnpllcfleeaa
