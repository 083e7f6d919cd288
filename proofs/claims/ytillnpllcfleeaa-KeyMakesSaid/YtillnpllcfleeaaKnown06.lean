/- Law 06: what is known of the sum, by examples. -/
import Derived.Test.YtillnpllcfleeaaSha4
namespace Go.Proofs.Ytillnpllcfleeaa
open Go Go.RowKit

theorem sha_abc : sha [97, 98, 99] = [0xba,0x78,0x16,0xbf,0x8f,0x01,0xcf,0xea,0x41,0x41,0x40,0xde,0x5d,0xae,0x22,0x23,0xb0,0x03,0x61,0xa3,0x96,0x17,0x7a,0x9c,0xb4,0x10,0xff,0x61,0xf2,0x00,0x15,0xad] := by decide +kernel
theorem sha_nil : sha [] = [0xe3,0xb0,0xc4,0x42,0x98,0xfc,0x1c,0x14,0x9a,0xfb,0xf4,0xc8,0x99,0x6f,0xb9,0x24,0x27,0xae,0x41,0xe4,0x64,0x9b,0x93,0x4c,0xa4,0x95,0x99,0x1b,0x78,0x52,0xb8,0x55] := by decide +kernel

/-- one text, in a slice of its own -/
theorem RdL.one (w : World) (A : Option Addr) (c : Nat) (bs : List UInt8) (t : TypeId) (hc : bs.length ≤ c) (hm : c ≤ maxLen) (h : RdB w w.heap.size A bs) :
    RdL (w.alloc (.cells #[.slice A bs.length c] t)) (w.heap.size + 1) (some ⟨w.heap.size, 0, none⟩) [bs] := by
  refine ⟨[.slice A bs.length c], ⟨rfl, fun _ => ⟨w.heap.size, 0, rfl, Nat.lt_succ_self _, fun j u hu => ?_⟩⟩, fun k b hk => ?_⟩
  · rw [Nat.zero_add, (Blk.new w t _).cell]
    simpa using hu
  · cases k with
    | zero => simp at hk; subst hk; exact ⟨A, c, rfl, hc, hm, (h.alloc (Nat.le_refl _) _).more (Nat.le_succ _)⟩
    | succ k => simp at hk
theorem RdL.none_ (w : World) (B : Nat) : RdL w B none [] := ⟨[], Rd.nil _, fun k b hk => by simp at hk⟩

theorem str_arr {w : World} {g : Nat} {m : List UInt8} (D : Array Value) (bs : List UInt8) (h : sha m = bs) (hD : D = (b8s (sha m)).toArray) (hb : Blk w g 25 D) (n : Nat) (hn : bs.length = n) (S : ByteArray) (hS : S = ⟨bs.toArray⟩) :
    (convert 28 9 (.slice (some ⟨g, 0, none⟩) n n)).run Try.prog w = .ok (.string S) w := by
  subst hD h hn hS
  exact run_to_string (RdB.arr hb) _

set_option maxRecDepth 100000 in
set_option maxHeartbeats 1000000 in
theorem known06 (w : World) : Calls Try.prog 31 #[] w fun e w' => e = .returned (.bool true) ∧ Below w.heap.size w w' := by
  have kc := fun (w : World) (C : Array Value) (n c : Nat) => Lib.run_convert_bytes_const (P := Try.prog) w 28 5 C n c Try.underlying28 Try.underlying5
  have hA : RdL ((w.alloc (.cells #[.int .u8 97, .int .u8 98, .int .u8 99] 5 (3, 4))).alloc (.cells #[.slice (some ⟨w.heap.size, 0, none⟩) 3 3] 28)) (w.heap.size + 1 + 1) (some ⟨w.heap.size + 1, 0, none⟩) [[97, 98, 99]] := by
    have h := RdL.one (w.alloc (.cells #[.int .u8 97, .int .u8 98, .int .u8 99] 5 (3, 4))) (some ⟨w.heap.size, 0, none⟩) 3 [97, 98, 99] 28 (by decide) (by decide) (by rw [show (w.alloc (.cells #[.int .u8 97, .int .u8 98, .int .u8 99] 5 (3, 4))).heap.size = w.heap.size + 1 from by simp]; exact RdB.newF w [97, 98, 99] _ (3, 4) rfl)
    simpa using h
  obtain ⟨D1, hD1⟩ : ∃ D, D = (b8s (sha [97, 98, 99])).toArray := ⟨_, rfl⟩
  obtain ⟨D2, hD2⟩ : ∃ D, D = (b8s (sha [])).toArray := ⟨_, rfl⟩
  have c1 : ∀ W : World, RdL W W.heap.size (some ⟨w.heap.size + 1, 0, none⟩) [[97, 98, 99]] → Calls Try.prog 33 #[.slice (some ⟨w.heap.size + 1, 0, none⟩) 1 1] W fun e w' => e = .returned (.agg D1) ∧ Below W.heap.size W w' := by
    intro W h
    rw [hD1]
    exact sum_any [[97, 98, 99]] _ 1 W h (by decide) (by decide)
  have c2 : ∀ W : World, Calls Try.prog 33 #[.slice none 0 0] W fun e w' => e = .returned (.agg D2) ∧ Below W.heap.size W w' := by
    intro W
    rw [hD2]
    exact sum_any [] none 0 W (RdL.none_ _ _) (by decide) (by decide)
  have C1 := Lib.hid c1; clear c1
  have C2 := Lib.hid c2; clear c2
  have HD1 := Lib.hid hD1; clear hD1
  have HD2 := Lib.hid hD2; clear hD2
  have HA := Lib.hid hA; clear hA
  have s1 : D1.size = 32 := by rw [HD1.out, sha_abc]; rfl
  have s2 : D2.size = 32 := by rw [HD2.out, sha_nil]; rfl
  have o1 : D1.all (·.oneCell') = true := by rw [HD1.out]; exact b8s_all _
  have o2 : D2.all (·.oneCell') = true := by rw [HD2.out]; exact b8s_all _
  have S1 := Lib.hid s1; clear s1
  have S2 := Lib.hid s2; clear s2
  have O1 := Lib.hid o1; clear o1
  have O2 := Lib.hid o2; clear o2
  go_enter Try.func31, Try.ntmps31
  go_wp2_with fail
  refine (C1.out _ (by simpa using HA.out)).mono ?_
  rintro e w1 ⟨rfl, hb1⟩
  have hbw1 : Below w.heap.size w w1 := (((Below.refl _ _).alloc (Nat.le_refl _) _).alloc (by simp) _).trans (hb1.mono (by simp; omega))
  clear hb1
  go_wp2_with fail
  refine (C2.out _).mono ?_
  rintro e w2 ⟨rfl, hb2⟩
  have hbw2 := hbw1.trans (hb2.mono hbw1.size)
  clear hb2 hbw1
  go_wp2_with (first
    | (refine wpList_store_abs rfl 25 (.tmp 1) (.tmp 6) rfl w2.heap.size D1 rfl rfl 25 _ ((Blk.new w2 25 _).alloc _) 32 info25 S1.out rfl O1.out ?_; intro w3 h3 g3
       have h3b := (Blk.new1 w2 _ 25 _).grown g3 (by simp)
       have hbw3 : Below w.heap.size w w3 := (((hbw2.alloc hbw2.size _).alloc (by have := hbw2.size; simp; omega) _).grown g3 (by have := hbw2.size; simp; omega) (by have := hbw2.size; simp; omega))
       clear g3)
    | (refine wpList_store_abs rfl 25 (.tmp 2) (.tmp 7) rfl (w2.heap.size + 1) D2 rfl rfl 25 _ h3b 32 info25 S2.out rfl O2.out ?_; intro w4 h4 g4
       have h5 := h3.grown g4 (by simp)
       have hbw4 : Below w.heap.size w w4 := hbw3.grown g4 hbw3.size (by have := hbw2.size; simp; omega)
       have e1 := str_arr D1 _ sha_abc HD1.out h5 32 rfl ⟨#[186, 120, 22, 191, 143, 1, 207, 234, 65, 65, 64, 222, 93, 174, 34, 35, 176, 3, 97, 163, 150, 23, 122, 156, 180, 16, 255, 97, 242, 0, 21, 173]⟩ rfl
       have e2 := str_arr D2 _ sha_nil HD2.out h4 32 rfl ⟨#[227, 176, 196, 66, 152, 252, 28, 20, 154, 251, 244, 200, 153, 111, 185, 36, 39, 174, 65, 228, 100, 155, 147, 76, 164, 149, 153, 27, 120, 82, 184, 85]⟩ rfl
       clear g4 h3 h3b))

  go_ret
  exact ⟨rfl, hbw4⟩
end Go.Proofs.Ytillnpllcfleeaa
