/- Layer 7 in plain words: a key's block, the MAC, what is expanded. No program. -/
import Derived.Test.YtillnpllcfleeaaSha
namespace Go.Proofs.Ytillnpllcfleeaa

/-- a key, cut to its sum if it is long -/
def cutKey (key : List UInt8) : List UInt8 := if 64 < key.length then sha key else key
/-- a key's block of 64 bytes -/
def padKey (key : List UInt8) : List UInt8 := cutKey key ++ List.replicate (64 - (cutKey key).length) 0
def xorAll (c : UInt8) (l : List UInt8) : List UInt8 := l.map fun x => x ^^^ c
def keyBlk (c : UInt8) (key : List UInt8) : List UInt8 := xorAll c (padKey key)
def mac (key text : List UInt8) : List UInt8 := sha (keyBlk 92 key ++ sha (keyBlk 54 key ++ text))
/-- the i-th piece that is expanded -/
def tAt (secret info : List UInt8) : Nat → List UInt8
  | 0 => []
  | i + 1 => mac secret (tAt secret info i ++ (info ++ [UInt8.ofNat (i + 1)]))
def outAt (secret info : List UInt8) : Nat → List UInt8
  | 0 => []
  | i + 1 => outAt secret info i ++ tAt secret info (i + 1)
def expand (secret info : List UInt8) (n : Nat) : List UInt8 := (outAt secret info ((n + 31) / 32)).take n
/-- what a label is expanded with -/
def infoOf (label context : List UInt8) (n : Nat) : List UInt8 :=
  UInt8.ofNat (n / 256) :: UInt8.ofNat n :: UInt8.ofNat (6 + label.length) :: ([116, 108, 115, 49, 51, 32] ++ (label ++ (UInt8.ofNat context.length :: context)))
def labelOut (secret label context : List UInt8) (n : Nat) : List UInt8 := expand secret (infoOf label context n) n

theorem flat_len (l : List UInt32) : (l.flatMap wordBytes).length = 4 * l.length := by
  induction l with
  | nil => rfl
  | cons x l ih => rw [List.flatMap_cons, List.length_append, ih]; simp [wordBytes]; omega
theorem sha_len (m : List UInt8) : (sha m).length = 32 := by unfold sha; rw [flat_len]; rfl
theorem cutKey_length (key : List UInt8) : (cutKey key).length ≤ 64 := by
  unfold cutKey
  split
  · rw [sha_len]; omega
  · omega
theorem padKey_length (key : List UInt8) : (padKey key).length = 64 := by
  have := cutKey_length key
  unfold padKey
  rw [List.length_append, List.length_replicate]; omega
theorem keyBlk_length (c : UInt8) (key : List UInt8) : (keyBlk c key).length = 64 := by
  unfold keyBlk xorAll
  rw [List.length_map, padKey_length]
theorem mac_length (key text : List UInt8) : (mac key text).length = 32 := sha_len _
theorem tAt_length (secret info : List UInt8) (i : Nat) : (tAt secret info (i + 1)).length = 32 := mac_length _ _
theorem outAt_length (secret info : List UInt8) (i : Nat) : (outAt secret info i).length = 32 * i := by
  induction i with
  | zero => rfl
  | succ i ih => rw [outAt, List.length_append, ih, tAt_length]; omega
theorem expand_length (secret info : List UInt8) (n : Nat) : (expand secret info n).length = n := by
  unfold expand
  rw [List.length_take, outAt_length]; omega
theorem outAt_take (secret info : List UInt8) (i j : Nat) : (outAt secret info (i + j)).take (32 * i) = outAt secret info i := by
  induction j with
  | zero => rw [Nat.add_zero, List.take_of_length_le (by rw [outAt_length]; omega)]
  | succ j ih =>
    rw [← Nat.add_assoc, outAt, List.take_append_of_le_length (by rw [outAt_length]; omega), ih]
/-- fewer expanded bytes are the first ones of more -/
theorem expand_first (secret info : List UInt8) (n m : Nat) (h : n ≤ m) : (expand secret info m).take n = expand secret info n := by
  unfold expand
  rw [List.take_take, Nat.min_eq_left h]
  have e : (m + 31) / 32 = (n + 31) / 32 + ((m + 31) / 32 - (n + 31) / 32) := by omega
  rw [e]
  conv => rhs; rw [← outAt_take secret info ((n + 31) / 32) ((m + 31) / 32 - (n + 31) / 32)]
  rw [List.take_take, Nat.min_eq_left (by omega)]
/-- a long key is as its sum -/
theorem mac_long (key text : List UInt8) (h : 64 < key.length) : mac (sha key) text = mac key text := by
  have e : cutKey (sha key) = cutKey key := by
    unfold cutKey
    rw [if_pos h, if_neg (by rw [sha_len]; omega)]
  unfold mac keyBlk padKey
  rw [e]
/-- a short key is as with a nought behind -/
theorem mac_short (key text : List UInt8) (h : key.length < 64) : mac (key ++ [0]) text = mac key text := by
  have e : padKey (key ++ [0]) = padKey key := by
    have h1 : cutKey (key ++ [0]) = key ++ [0] := by
      unfold cutKey
      have h2 : (key ++ [0] : List UInt8).length = key.length + 1 := by simp
      rw [if_neg (by omega)]
    have h2 : cutKey key = key := by
      unfold cutKey
      rw [if_neg (by omega)]
    unfold padKey
    rw [h1, h2, List.append_assoc]
    congr 1
    rw [List.length_append, List.length_singleton, show 64 - key.length = (64 - (key.length + 1)) + 1 by omega, List.replicate_succ]
    rfl
  unfold mac keyBlk
  rw [e]
end Go.Proofs.Ytillnpllcfleeaa
