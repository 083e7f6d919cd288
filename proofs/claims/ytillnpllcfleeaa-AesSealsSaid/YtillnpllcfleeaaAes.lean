/- Layer 8 in plain words: a byte doubled, the other one of each byte, a key's columns, a block sealed. No program. -/
import Derived.Test.YtillnpllcfleeaaArr
namespace Go.Proofs.Ytillnpllcfleeaa

def twice (b : UInt8) : UInt8 := if b &&& 128 = 0 then b * 2 else (b * 2) ^^^ 27

/-! the program's box: by the powers of 3 -/
def qStep (q : UInt8) (n : Nat) : UInt8 := q ^^^ UInt8.ofNat (q.toNat * 2 ^ n)
def qNext (q : UInt8) : UInt8 :=
  let r := qStep (qStep (qStep q 1) 2) 4
  if r &&& 128 = 0 then r else r ^^^ 9
def affine (q : UInt8) : UInt8 := q ^^^ (q * 2 ||| q / 128) ^^^ (q * 4 ||| q / 64) ^^^ (q * 8 ||| q / 32) ^^^ (q * 16 ||| q / 16) ^^^ 99
def pAt : Nat → UInt8
  | 0 => 1
  | k + 1 => pAt k ^^^ twice (pAt k)
def qAt : Nat → UInt8
  | 0 => 1
  | k + 1 => qNext (qAt k)
def boxAt : Nat → List UInt8
  | 0 => 99 :: List.replicate 255 0
  | k + 1 => (boxAt k).set (pAt (k + 1)).toNat (affine (qAt (k + 1)))
theorem boxAt_length (k : Nat) : (boxAt k).length = 256 := by
  induction k with
  | zero => rw [boxAt, List.length_cons, List.length_replicate]
  | succ k ih => rw [boxAt, List.length_set, ih]

/-- the document's box -/
def sbox : List UInt8 := [
  0x63,0x7c,0x77,0x7b,0xf2,0x6b,0x6f,0xc5,0x30,0x01,0x67,0x2b,0xfe,0xd7,0xab,0x76,
  0xca,0x82,0xc9,0x7d,0xfa,0x59,0x47,0xf0,0xad,0xd4,0xa2,0xaf,0x9c,0xa4,0x72,0xc0,
  0xb7,0xfd,0x93,0x26,0x36,0x3f,0xf7,0xcc,0x34,0xa5,0xe5,0xf1,0x71,0xd8,0x31,0x15,
  0x04,0xc7,0x23,0xc3,0x18,0x96,0x05,0x9a,0x07,0x12,0x80,0xe2,0xeb,0x27,0xb2,0x75,
  0x09,0x83,0x2c,0x1a,0x1b,0x6e,0x5a,0xa0,0x52,0x3b,0xd6,0xb3,0x29,0xe3,0x2f,0x84,
  0x53,0xd1,0x00,0xed,0x20,0xfc,0xb1,0x5b,0x6a,0xcb,0xbe,0x39,0x4a,0x4c,0x58,0xcf,
  0xd0,0xef,0xaa,0xfb,0x43,0x4d,0x33,0x85,0x45,0xf9,0x02,0x7f,0x50,0x3c,0x9f,0xa8,
  0x51,0xa3,0x40,0x8f,0x92,0x9d,0x38,0xf5,0xbc,0xb6,0xda,0x21,0x10,0xff,0xf3,0xd2,
  0xcd,0x0c,0x13,0xec,0x5f,0x97,0x44,0x17,0xc4,0xa7,0x7e,0x3d,0x64,0x5d,0x19,0x73,
  0x60,0x81,0x4f,0xdc,0x22,0x2a,0x90,0x88,0x46,0xee,0xb8,0x14,0xde,0x5e,0x0b,0xdb,
  0xe0,0x32,0x3a,0x0a,0x49,0x06,0x24,0x5c,0xc2,0xd3,0xac,0x62,0x91,0x95,0xe4,0x79,
  0xe7,0xc8,0x37,0x6d,0x8d,0xd5,0x4e,0xa9,0x6c,0x56,0xf4,0xea,0x65,0x7a,0xae,0x08,
  0xba,0x78,0x25,0x2e,0x1c,0xa6,0xb4,0xc6,0xe8,0xdd,0x74,0x1f,0x4b,0xbd,0x8b,0x8a,
  0x70,0x3e,0xb5,0x66,0x48,0x03,0xf6,0x0e,0x61,0x35,0x57,0xb9,0x86,0xc1,0x1d,0x9e,
  0xe1,0xf8,0x98,0x11,0x69,0xd9,0x8e,0x94,0x9b,0x1e,0x87,0xe9,0xce,0x55,0x28,0xdf,
  0x8c,0xa1,0x89,0x0d,0xbf,0xe6,0x42,0x68,0x41,0x99,0x2d,0x0f,0xb0,0x54,0xbb,0x16]
theorem sbox_length : sbox.length = 256 := by decide +kernel
theorem box_is : boxAt 255 = sbox := by decide +kernel
def sub (b : UInt8) : UInt8 := bAt sbox b.toNat

/-! the reference's box -/
def tmStep (s : UInt8 × UInt8 × UInt8) : UInt8 × UInt8 × UInt8 :=
  (if s.2.2 % 2 = 1 then s.1 ^^^ s.2.1 else s.1, if 128 ≤ s.2.1 then (2 * s.2.1) ^^^ 27 else 2 * s.2.1, s.2.2 / 2)
def tmAt (a b : UInt8) : Nat → UInt8 × UInt8 × UInt8
  | 0 => (0, a, b)
  | k + 1 => tmStep (tmAt a b k)
def times (a b : UInt8) : UInt8 := (tmAt a b 8).1
def rot1 (y : UInt8) : UInt8 := 2 * y + y / 128
def rotN (y : UInt8) : Nat → UInt8
  | 0 => y
  | k + 1 => rot1 (rotN y k)
/-- y and x behind k squarings -/
def powAt (b : UInt8) : Nat → UInt8 × UInt8
  | 0 => (1, b)
  | k + 1 => (if 254 / 2 ^ k % 2 = 1 then times (powAt b k).1 (powAt b k).2 else (powAt b k).1, times (powAt b k).2 (powAt b k).2)
def affAt (y : UInt8) : Nat → UInt8
  | 0 => 99
  | k + 1 => affAt y k ^^^ rotN y k
def subRef (b : UInt8) : UInt8 := affAt (powAt b 8).1 5
theorem subRef_all : (List.range 256).map (fun i => subRef (UInt8.ofNat i)) = sbox := by decide +kernel
theorem subRef_is (b : UInt8) : subRef b = sub b := by
  have hb := b.toNat_lt
  have h : (List.map (fun i => subRef (UInt8.ofNat i)) (List.range 256))[b.toNat]? = sbox[b.toNat]? := by rw [subRef_all]
  rw [List.getElem?_map, List.getElem?_range hb, bAt_get sbox b.toNat (by rw [sbox_length]; exact hb)] at h
  simpa [sub] using h

/-- all bytes: what holds of the 256 numbers holds -/
theorem all_u8 (P : UInt8 → Bool) (h : (List.range 256).all (fun i => P (UInt8.ofNat i)) = true) (b : UInt8) : P b = true := by
  have := (List.all_eq_true.1 h) b.toNat (List.mem_range.2 b.toNat_lt)
  simpa using this
theorem sub_back : (List.range 256).all (fun i => sbox.idxOf (sub (UInt8.ofNat i)) == i) = true := by decide +kernel
theorem sub_inj {a b : UInt8} (h : sub a = sub b) : a = b := by
  have ha := (List.all_eq_true.1 sub_back) a.toNat (List.mem_range.2 a.toNat_lt)
  have hb := (List.all_eq_true.1 sub_back) b.toNat (List.mem_range.2 b.toNat_lt)
  simp only [UInt8.ofNat_toNat, beq_iff_eq] at ha hb
  rw [h] at ha
  exact UInt8.toNat_inj.1 (ha.symm.trans hb)

/-! a key's columns, one behind the other -/
def colT (l : List UInt8) (c : UInt8) (i j : Nat) : UInt8 :=
  if i % 4 = 0 then (if j = 0 then sub (bAt l (4 * i - 3)) ^^^ c else if j = 3 then sub (bAt l (4 * i - 4)) else sub (bAt l (4 * i - 3 + j))) else bAt l (4 * i - 4 + j)
def colNew (l : List UInt8) (c : UInt8) (i : Nat) : List UInt8 := tab 4 fun j => bAt l (4 * i - 16 + j) ^^^ colT l c i j
/-- behind 4 + n columns: the columns, and the next round's number -/
def colAt (key : List UInt8) : Nat → List UInt8 × UInt8
  | 0 => (key, 1)
  | n + 1 => ((colAt key n).1 ++ colNew (colAt key n).1 (colAt key n).2 (n + 4), if (n + 4) % 4 = 0 then twice (colAt key n).2 else (colAt key n).2)
def cols (key : List UInt8) : List UInt8 := (colAt key 40).1
theorem colAt_length (key : List UInt8) (h : key.length = 16) (n : Nat) : (colAt key n).1.length = 16 + 4 * n := by
  induction n with
  | zero => exact h
  | succ n ih => rw [colAt, List.length_append, ih, colNew, tab_length]; omega
theorem cols_length (key : List UInt8) (h : key.length = 16) : (cols key).length = 176 := colAt_length key h 40

/-! a block sealed -/
def addK (k : List UInt8) (n : Nat) (s : List UInt8) : List UInt8 := tab 16 fun i => bAt s i ^^^ bAt k (16 * n + i)
def subSh (s : List UInt8) : List UInt8 := tab 16 fun i => sub (bAt s ((i + 4 * (i % 4)) % 16))
def mixB (a b c d : UInt8) : UInt8 := a ^^^ (a ^^^ b ^^^ c ^^^ d ^^^ twice (a ^^^ b))
def mix1 (s : List UInt8) (i : Nat) : UInt8 := mixB (bAt s i) (bAt s (4 * (i / 4) + (i + 1) % 4)) (bAt s (4 * (i / 4) + (i + 2) % 4)) (bAt s (4 * (i / 4) + (i + 3) % 4))
def mixC (s : List UInt8) : List UInt8 := tab 16 (mix1 s)
def sealAt (k : List UInt8) (b : List UInt8) : Nat → List UInt8
  | 0 => addK k 0 b
  | n + 1 => addK k (n + 1) (if n + 1 < 10 then mixC (subSh (sealAt k b n)) else subSh (sealAt k b n))
def aes (key b : List UInt8) : List UInt8 := sealAt (cols key) b 10
theorem addK_length (k : List UInt8) (n : Nat) (s : List UInt8) : (addK k n s).length = 16 := tab_length _ _
theorem sealAt_length (k b : List UInt8) (n : Nat) : (sealAt k b n).length = 16 := by cases n <;> exact tab_length _ _
theorem aes_length (key b : List UInt8) : (aes key b).length = 16 := sealAt_length _ _ _

/-! no two blocks are sealed to one -/
theorem u8_xlc (a b c : UInt8) : a ^^^ (b ^^^ c) = b ^^^ (a ^^^ c) := by rw [← UInt8.xor_assoc, UInt8.xor_comm a b, UInt8.xor_assoc]
theorem xor_right {a b c : UInt8} (h : a ^^^ c = b ^^^ c) : a = b := by
  have : (a ^^^ c) ^^^ c = (b ^^^ c) ^^^ c := by rw [h]
  simpa [UInt8.xor_assoc] using this
theorem addK_inj {k : List UInt8} {n : Nat} {s t : List UInt8} (hs : s.length = 16) (ht : t.length = 16) (h : addK k n s = addK k n t) : s = t := by
  refine bAt_ext s t (by omega) fun i hi => ?_
  have e : bAt (addK k n s) i = bAt (addK k n t) i := by rw [h]
  unfold addK at e
  rw [bAt_tab _ _ _ (by omega), bAt_tab _ _ _ (by omega)] at e
  exact xor_right e
theorem subSh_inj {s t : List UInt8} (hs : s.length = 16) (ht : t.length = 16) (h : subSh s = subSh t) : s = t := by
  refine bAt_ext s t (by omega) fun i hi => ?_
  have h16 : ∀ j, j < 16 → (((j + 12 * (j % 4)) % 16) + 4 * (((j + 12 * (j % 4)) % 16) % 4)) % 16 = j := by decide
  have e : bAt (subSh s) ((i + 12 * (i % 4)) % 16) = bAt (subSh t) ((i + 12 * (i % 4)) % 16) := by rw [h]
  unfold subSh at e
  rw [bAt_tab _ _ _ (by omega), bAt_tab _ _ _ (by omega), h16 i (by omega)] at e
  exact sub_inj e
theorem twice_add_all : (List.range 256).all (fun i => (List.range 256).all fun j => twice (UInt8.ofNat i ^^^ UInt8.ofNat j) == (twice (UInt8.ofNat i) ^^^ twice (UInt8.ofNat j))) = true := by decide +kernel
theorem twice_xor (a b : UInt8) : twice (a ^^^ b) = twice a ^^^ twice b := by
  have h0 := (List.all_eq_true.1 twice_add_all) a.toNat (List.mem_range.2 a.toNat_lt)
  have h := (List.all_eq_true.1 h0) b.toNat (List.mem_range.2 b.toNat_lt)
  simpa using h
theorem twice_zero : twice 0 = 0 := by decide
theorem xor_cancel (a b : UInt8) : a ^^^ (a ^^^ b) = b := by rw [← UInt8.xor_assoc, UInt8.xor_self, UInt8.zero_xor]
theorem xor_zero_iff {a b : UInt8} (h : a ^^^ b = 0) : a = b := by
  have := xor_cancel a b
  rw [h, UInt8.xor_zero] at this
  exact this
theorem mixB_xor (a b c d e f g h : UInt8) : mixB (a ^^^ e) (b ^^^ f) (c ^^^ g) (d ^^^ h) = mixB a b c d ^^^ mixB e f g h := by
  unfold mixB
  rw [show a ^^^ e ^^^ (b ^^^ f) = (a ^^^ b) ^^^ (e ^^^ f) by simp only [UInt8.xor_assoc, UInt8.xor_comm, u8_xlc], twice_xor (a ^^^ b) (e ^^^ f)]
  simp only [UInt8.xor_assoc, UInt8.xor_comm, u8_xlc]
/-- four bytes whose mixed column is nought are noughts -/
theorem mixB_ker {x y z u : UInt8} (h0 : mixB x y z u = 0) (h1 : mixB y z u x = 0) (h2 : mixB z u x y = 0) (h3 : mixB u x y z = 0) : x = 0 ∧ y = 0 ∧ z = 0 ∧ u = 0 := by
  have hA : x ^^^ y ^^^ z ^^^ u = 0 := by
    have e : mixB x y z u ^^^ mixB y z u x ^^^ mixB z u x y ^^^ mixB u x y z = x ^^^ y ^^^ z ^^^ u := by
      unfold mixB
      simp only [twice_xor]
      generalize twice x = X
      generalize twice y = Y
      generalize twice z = Z
      generalize twice u = U
      simp only [UInt8.xor_assoc, UInt8.xor_comm, u8_xlc, xor_cancel, UInt8.xor_self, UInt8.xor_zero]
    rw [← e, h0, h1, h2, h3]; rfl
  have k0 : x = twice (x ^^^ y) := by
    unfold mixB at h0; rw [hA, UInt8.zero_xor] at h0; exact xor_zero_iff h0
  have k1 : y = twice (y ^^^ z) := by
    unfold mixB at h1
    rw [show y ^^^ z ^^^ u ^^^ x = x ^^^ y ^^^ z ^^^ u by simp only [UInt8.xor_assoc, UInt8.xor_comm, u8_xlc], hA, UInt8.zero_xor] at h1; exact xor_zero_iff h1
  have k2 : z = twice (z ^^^ u) := by
    unfold mixB at h2
    rw [show z ^^^ u ^^^ x ^^^ y = x ^^^ y ^^^ z ^^^ u by simp only [UInt8.xor_assoc, UInt8.xor_comm, u8_xlc], hA, UInt8.zero_xor] at h2; exact xor_zero_iff h2
  have hp : y ^^^ u = x ^^^ z := by
    apply xor_zero_iff
    rw [← hA]; simp only [UInt8.xor_assoc, UInt8.xor_comm, u8_xlc]
  have e1 : x ^^^ y = twice (x ^^^ z) := by
    have : x ^^^ y = twice (x ^^^ y) ^^^ twice (y ^^^ z) := by rw [← k0, ← k1]
    rw [this, ← twice_xor]
    congr 1
    simp only [UInt8.xor_assoc, xor_cancel]
  have e2 : y ^^^ z = twice (x ^^^ z) := by
    have : y ^^^ z = twice (y ^^^ z) ^^^ twice (z ^^^ u) := by rw [← k1, ← k2]
    rw [this, ← twice_xor, ← hp]
    congr 1
    simp only [UInt8.xor_assoc, xor_cancel]
  have hxz : x = z := by
    have e : x ^^^ y = y ^^^ z := e1.trans e2.symm
    rw [UInt8.xor_comm y z] at e
    exact xor_right e
  subst hxz
  rw [UInt8.xor_self, twice_zero] at e1
  have hxy := xor_zero_iff e1
  subst hxy
  rw [UInt8.xor_self, twice_zero] at k0
  subst k0
  have : u = 0 := by simpa using hA
  exact ⟨rfl, rfl, rfl, this⟩
theorem mixB_inj {a b c d e f g h : UInt8} (h0 : mixB a b c d = mixB e f g h) (h1 : mixB b c d a = mixB f g h e) (h2 : mixB c d a b = mixB g h e f) (h3 : mixB d a b c = mixB h e f g) : a = e ∧ b = f ∧ c = g ∧ d = h := by
  have z : ∀ {p q : UInt8}, p = q → p ^^^ q = 0 := fun e => by rw [e, UInt8.xor_self]
  obtain ⟨k0, k1, k2, k3⟩ := mixB_ker (x := a ^^^ e) (y := b ^^^ f) (z := c ^^^ g) (u := d ^^^ h) (by rw [mixB_xor]; exact z h0) (by rw [mixB_xor]; exact z h1) (by rw [mixB_xor]; exact z h2) (by rw [mixB_xor]; exact z h3)
  exact ⟨xor_zero_iff k0, xor_zero_iff k1, xor_zero_iff k2, xor_zero_iff k3⟩
theorem mixC_inj {s t : List UInt8} (hs : s.length = 16) (ht : t.length = 16) (h : mixC s = mixC t) : s = t := by
  have e : ∀ i, i < 16 → mix1 s i = mix1 t i := by
    intro i hi
    have : bAt (mixC s) i = bAt (mixC t) i := by rw [h]
    unfold mixC at this
    rwa [bAt_tab _ _ _ hi, bAt_tab _ _ _ hi] at this
  have col : ∀ k, k < 4 → bAt s (4 * k) = bAt t (4 * k) ∧ bAt s (4 * k + 1) = bAt t (4 * k + 1) ∧ bAt s (4 * k + 2) = bAt t (4 * k + 2) ∧ bAt s (4 * k + 3) = bAt t (4 * k + 3) := by
    intro k hk
    have a0 := e (4 * k) (by omega)
    have a1 := e (4 * k + 1) (by omega)
    have a2 := e (4 * k + 2) (by omega)
    have a3 := e (4 * k + 3) (by omega)
    unfold mix1 at a0 a1 a2 a3
    have d0 : 4 * k / 4 = k := by omega
    have d1 : (4 * k + 1) / 4 = k := by omega
    have d2 : (4 * k + 2) / 4 = k := by omega
    have d3 : (4 * k + 3) / 4 = k := by omega
    have m1 : (4 * k + 1) % 4 = 1 := by omega
    have m2 : (4 * k + 1 + 1) % 4 = 2 := by omega
    have m3 : (4 * k + 2 + 1) % 4 = 3 := by omega
    have m4 : (4 * k + 3 + 1) % 4 = 0 := by omega
    have n1 : (4 * k + 2) % 4 = 2 := by omega
    have n2 : (4 * k + 1 + 2) % 4 = 3 := by omega
    have n3 : (4 * k + 2 + 2) % 4 = 0 := by omega
    have n4 : (4 * k + 3 + 2) % 4 = 1 := by omega
    have o1 : (4 * k + 3) % 4 = 3 := by omega
    have o2 : (4 * k + 1 + 3) % 4 = 0 := by omega
    have o3 : (4 * k + 2 + 3) % 4 = 1 := by omega
    have o4 : (4 * k + 3 + 3) % 4 = 2 := by omega
    simp only [d0, d1, d2, d3, m1, m2, m3, m4, n1, n2, n3, n4, o1, o2, o3, o4, Nat.add_zero] at a0 a1 a2 a3
    exact mixB_inj a0 a1 a2 a3
  refine bAt_ext s t (by omega) fun i hi => ?_
  obtain ⟨c0, c1, c2, c3⟩ := col (i / 4) (by omega)
  have hm : i = 4 * (i / 4) ∨ i = 4 * (i / 4) + 1 ∨ i = 4 * (i / 4) + 2 ∨ i = 4 * (i / 4) + 3 := by omega
  rcases hm with hm | hm | hm | hm <;> rw [hm] <;> assumption
theorem sealAt_inj (k : List UInt8) {a b : List UInt8} (ha : a.length = 16) (hb : b.length = 16) (n : Nat) (h : sealAt k a n = sealAt k b n) : a = b := by
  induction n with
  | zero => exact addK_inj ha hb h
  | succ n ih =>
    simp only [sealAt] at h
    split at h
    · exact ih (subSh_inj (sealAt_length _ _ _) (sealAt_length _ _ _) (mixC_inj (tab_length _ _) (tab_length _ _) (addK_inj (tab_length _ _) (tab_length _ _) h)))
    · exact ih (subSh_inj (sealAt_length _ _ _) (sealAt_length _ _ _) (addK_inj (tab_length _ _) (tab_length _ _) h))
theorem aes_inj (key : List UInt8) {a b : List UInt8} (ha : a.length = 16) (hb : b.length = 16) (h : aes key a = aes key b) : a = b := sealAt_inj _ ha hb 10 h

/-! the reference's mixing is the program's -/
theorem times2_all : (List.range 256).all (fun i => times 2 (UInt8.ofNat i) == twice (UInt8.ofNat i) && times 3 (UInt8.ofNat i) == (twice (UInt8.ofNat i) ^^^ UInt8.ofNat i)) = true := by decide +kernel
theorem times2 (a : UInt8) : times 2 a = twice a := by
  have h := all_u8 (fun a => times 2 a == twice a && times 3 a == (twice a ^^^ a)) times2_all a
  simp only [Bool.and_eq_true, beq_iff_eq] at h
  exact h.1
theorem times3 (a : UInt8) : times 3 a = twice a ^^^ a := by
  have h := all_u8 (fun a => times 2 a == twice a && times 3 a == (twice a ^^^ a)) times2_all a
  simp only [Bool.and_eq_true, beq_iff_eq] at h
  exact h.2
theorem times_2_all : (List.range 256).all (fun i => times (UInt8.ofNat i) 2 == twice (UInt8.ofNat i)) = true := by decide +kernel
theorem times_2 (a : UInt8) : times a 2 = twice a := by
  have h := all_u8 (fun a => times a 2 == twice a) times_2_all a
  simpa using h
theorem mixB_ref (a b c d : UInt8) : times 2 a ^^^ times 3 b ^^^ c ^^^ d = mixB a b c d := by
  rw [times2, times3]
  unfold mixB
  rw [twice_xor]
  generalize twice a = A
  generalize twice b = B
  simp only [UInt8.xor_assoc, UInt8.xor_comm, u8_xlc, xor_cancel]

theorem aes_known : aes ((List.range 16).map fun i => UInt8.ofNat i) ((List.range 16).map fun i => UInt8.ofNat (17 * i)) = [0x69, 0xc4, 0xe0, 0xd8, 0x6a, 0x7b, 0x04, 0x30, 0xd8, 0xcd, 0xb7, 0x80, 0x70, 0xb4, 0xc5, 0x5a] := by decide +kernel
end Go.Proofs.Ytillnpllcfleeaa
