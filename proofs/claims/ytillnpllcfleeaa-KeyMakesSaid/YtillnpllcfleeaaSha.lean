/- The sum of layer 6 in plain words: a word turned, the schedule, a round, a block taken in, the padded text, the sum. No program. -/
namespace Go.Proofs.Ytillnpllcfleeaa

/-- a word turned to the right -/
def rotr (x : UInt32) (n : Nat) : UInt32 := UInt32.ofNat (x.toNat / 2 ^ n + x.toNat * 2 ^ (32 - n))

def sg0 (x : UInt32) : UInt32 := rotr x 7 ^^^ rotr x 18 ^^^ x / 8
def sg1 (x : UInt32) : UInt32 := rotr x 17 ^^^ rotr x 19 ^^^ x / 1024

/-- a word of four bytes -/
def word4 (a b c d : UInt8) : UInt32 := a.toUInt32 * 16777216 ||| b.toUInt32 * 65536 ||| c.toUInt32 * 256 ||| d.toUInt32
def byteAt (l : List UInt8) (i : Nat) : UInt8 := l.getD i 0
def wordAt (l : List UInt32) (i : Nat) : UInt32 := l.getD i 0

/-- the first n words of a block -/
def lead (b : List UInt8) : Nat → List UInt32
  | 0 => []
  | n + 1 => lead b n ++ [word4 (byteAt b (4 * n)) (byteAt b (4 * n + 1)) (byteAt b (4 * n + 2)) (byteAt b (4 * n + 3))]

/-- the next word of a schedule -/
def nextW (w : List UInt32) : UInt32 :=
  wordAt w (w.length - 16) + sg0 (wordAt w (w.length - 15)) + wordAt w (w.length - 7) + sg1 (wordAt w (w.length - 2))
def sched (b : List UInt8) : Nat → List UInt32
  | 0 => lead b 16
  | n + 1 => sched b n ++ [nextW (sched b n)]

theorem lead_length (b : List UInt8) (n : Nat) : (lead b n).length = n := by
  induction n with
  | zero => rfl
  | succ n ih => simp [lead, ih]
theorem sched_length (b : List UInt8) (n : Nat) : (sched b n).length = 16 + n := by
  induction n with
  | zero => exact lead_length b 16
  | succ n ih => simp [sched, ih]; omega

/-- eight words -/
structure St where
  a : UInt32
  b : UInt32
  c : UInt32
  d : UInt32
  e : UInt32
  f : UInt32
  g : UInt32
  h : UInt32
deriving DecidableEq

def one (s : St) (k w : UInt32) : UInt32 :=
  s.h + (rotr s.e 6 ^^^ rotr s.e 11 ^^^ rotr s.e 25) + ((s.e &&& s.f) ^^^ ((4294967295 ^^^ s.e) &&& s.g)) + k + w
def two (s : St) : UInt32 :=
  (rotr s.a 2 ^^^ rotr s.a 13 ^^^ rotr s.a 22) + ((s.a &&& s.b) ^^^ (s.a &&& s.c) ^^^ (s.b &&& s.c))
def rnd (s : St) (k w : UInt32) : St := ⟨one s k w + two s, s.a, s.b, s.c, s.d + one s k w, s.e, s.f, s.g⟩

def kons : List UInt32 := [
  0x428a2f98, 0x71374491, 0xb5c0fbcf, 0xe9b5dba5, 0x3956c25b, 0x59f111f1, 0x923f82a4, 0xab1c5ed5,
  0xd807aa98, 0x12835b01, 0x243185be, 0x550c7dc3, 0x72be5d74, 0x80deb1fe, 0x9bdc06a7, 0xc19bf174,
  0xe49b69c1, 0xefbe4786, 0x0fc19dc6, 0x240ca1cc, 0x2de92c6f, 0x4a7484aa, 0x5cb0a9dc, 0x76f988da,
  0x983e5152, 0xa831c66d, 0xb00327c8, 0xbf597fc7, 0xc6e00bf3, 0xd5a79147, 0x06ca6351, 0x14292967,
  0x27b70a85, 0x2e1b2138, 0x4d2c6dfc, 0x53380d13, 0x650a7354, 0x766a0abb, 0x81c2c92e, 0x92722c85,
  0xa2bfe8a1, 0xa81a664b, 0xc24b8b70, 0xc76c51a3, 0xd192e819, 0xd6990624, 0xf40e3585, 0x106aa070,
  0x19a4c116, 0x1e376c08, 0x2748774c, 0x34b0bcb5, 0x391c0cb3, 0x4ed8aa4a, 0x5b9cca4f, 0x682e6ff3,
  0x748f82ee, 0x78a5636f, 0x84c87814, 0x8cc70208, 0x90befffa, 0xa4506ceb, 0xbef9a3f7, 0xc67178f2]

/-- n rounds -/
def rnds (w : List UInt32) (s : St) : Nat → St
  | 0 => s
  | n + 1 => rnd (rnds w s n) (wordAt kons n) (wordAt w n)

def St.add (s t : St) : St := ⟨s.a + t.a, s.b + t.b, s.c + t.c, s.d + t.d, s.e + t.e, s.f + t.f, s.g + t.g, s.h + t.h⟩
/-- a block taken in -/
def taken (s : St) (b : List UInt8) : St := s.add (rnds (sched b 48) s 64)

def st0 : St := ⟨0x6a09e667, 0xbb67ae85, 0x3c6ef372, 0xa54ff53a, 0x510e527f, 0x9b05688c, 0x1f83d9ab, 0x5be0cd19⟩

def St.list (s : St) : List UInt32 := [s.a, s.b, s.c, s.d, s.e, s.f, s.g, s.h]

/-- the n-th block of a text -/
def blk (l : List UInt8) (n : Nat) : List UInt8 := (l.drop (64 * n)).take 64
/-- n blocks, one behind the other -/
def bt (s : St) (l : List UInt8) : Nat → St
  | 0 => s
  | n + 1 => taken (bt s l n) (blk l n)

theorem blk_length (l : List UInt8) (n : Nat) (h : 64 * (n + 1) ≤ l.length) : (blk l n).length = 64 := by
  unfold blk; rw [List.length_take, List.length_drop]; omega
theorem blk_append (l x : List UInt8) (n : Nat) (h : 64 * (n + 1) ≤ l.length) : blk (l ++ x) n = blk l n := by
  unfold blk
  rw [List.drop_append_of_le_length (by omega), List.take_append_of_le_length (by rw [List.length_drop]; omega)]
theorem blk_drop (l : List UInt8) (m n : Nat) : blk (l.drop (64 * m)) n = blk l (m + n) := by
  unfold blk; rw [List.drop_drop]; congr 2; omega
theorem bt_append (s : St) (l x : List UInt8) (n : Nat) (h : 64 * n ≤ l.length) : bt s (l ++ x) n = bt s l n := by
  induction n with
  | zero => rfl
  | succ n ih => simp only [bt]; rw [ih (by omega), blk_append _ _ _ h]
theorem bt_add (s : St) (l : List UInt8) (m n : Nat) : bt s l (m + n) = bt (bt s l m) (l.drop (64 * m)) n := by
  induction n with
  | zero => rfl
  | succ n ih => rw [← Nat.add_assoc]; simp only [bt]; rw [ih, blk_drop]
/-- what is left of a text behind its whole blocks -/
def left (l : List UInt8) : List UInt8 := l.drop (64 * (l.length / 64))
/-- a text's whole blocks -/
def absorbed (l : List UInt8) : St := bt ⟨0x6a09e667, 0xbb67ae85, 0x3c6ef372, 0xa54ff53a, 0x510e527f, 0x9b05688c, 0x1f83d9ab, 0x5be0cd19⟩ l (l.length / 64)
theorem left_length (l : List UInt8) : (left l).length = l.length % 64 := by
  unfold left; rw [List.length_drop]; omega
theorem left_append (l x : List UInt8) : (l ++ x).drop (64 * (l.length / 64)) = left l ++ x := by
  unfold left; rw [List.drop_append_of_le_length (by omega)]
theorem absorbed_append (l x : List UInt8) : bt (absorbed l) (left l ++ x) ((left l ++ x).length / 64) = absorbed (l ++ x) := by
  have e : (l ++ x).length / 64 = l.length / 64 + (left l ++ x).length / 64 := by
    rw [List.length_append, List.length_append, left_length]; omega
  unfold absorbed
  rw [e, bt_add, left_append, bt_append _ l x _ (by omega)]
theorem left_left (l x : List UInt8) : left (left l ++ x) = left (l ++ x) := by
  have e : (l ++ x).length / 64 = l.length / 64 + (left l ++ x).length / 64 := by
    rw [List.length_append, List.length_append, left_length]; omega
  rw [show left (l ++ x) = (l ++ x).drop (64 * ((l ++ x).length / 64)) from rfl, e, Nat.mul_add, ← List.drop_drop, left_append]
  rfl

/-- how many noughts stand behind a text of n bytes and 128 -/
def noughts (n : Nat) : Nat := (119 - n % 64) % 64
/-- a number's k low bytes, the highest first -/
def be (n : Nat) : Nat → List UInt8
  | 0 => []
  | k + 1 => UInt8.ofNat (n / 256 ^ k) :: be n k
theorem be_length (n k : Nat) : (be n k).length = k := by
  induction k with
  | zero => rfl
  | succ k ih => simp [be, ih]
def tail (n : Nat) : List UInt8 := 128 :: (List.replicate (noughts n) 0 ++ be (8 * n) 8)
def padded (m : List UInt8) : List UInt8 := m ++ tail m.length

def wordBytes (x : UInt32) : List UInt8 := [(x / 16777216).toUInt8, (x / 65536).toUInt8, (x / 256).toUInt8, x.toUInt8]
/-- the sum -/
def sha (m : List UInt8) : List UInt8 := (absorbed (padded m)).list.flatMap wordBytes

end Go.Proofs.Ytillnpllcfleeaa
