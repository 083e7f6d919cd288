/- Walks of layer 6: the sum of any texts. -/
import Derived.Test.YtillnpllcfleeaaSha3
namespace Go.Proofs.Ytillnpllcfleeaa
open Go Go.RowKit

theorem take_flat (l : List (List UInt8)) (j : Nat) (h : j < l.length) : (l.take (j + 1)).flatten = (l.take j).flatten ++ l[j] := by
  rw [List.take_succ_eq_append_getElem h, List.flatten_append, List.flatten_cons, List.flatten_nil, List.append_nil]
theorem take_flat_le (l : List (List UInt8)) (j : Nat) : (l.take j).flatten.length ≤ l.flatten.length := by
  have h : l.flatten = (l.take j).flatten ++ (l.drop j).flatten := by rw [← List.flatten_append, List.take_append_drop]
  rw [h, List.length_append]; omega
def slLen : Value → Nat | .slice _ n _ => n | _ => 0
theorem be_take (n k t : Nat) (h : t < k) : (be n k).take (t + 1) = (be n k).take t ++ [UInt8.ofNat (n / 256 ^ (k - 1 - t))] := by
  induction k generalizing t with
  | zero => omega
  | succ k ih =>
    cases t with
    | zero => simp [be]
    | succ t =>
      rw [be, List.take_succ_cons, List.take_succ_cons, List.cons_append, ih t (by omega)]
      congr 6; omega
/-- the first i words' bytes -/
def outB (F : St) (i : Nat) : List UInt8 := (F.list.take i).flatMap wordBytes
def bArr (n : Nat) (l : List UInt8) : Array Value := (b8s l ++ List.replicate (n - l.length) (Value.int .u8 0)).toArray
theorem bArr_miss (n : Nat) (l : List UInt8) (i : Nat) (h : l.length ≤ i) (h2 : i < n) : (bArr n l)[i]? = some (.int .u8 0) := by
  unfold bArr
  rw [List.getElem?_toArray, List.getElem?_append_right (by simpa [b8s] using h), List.getElem?_replicate, if_pos (by simp [b8s]; omega)]
theorem bArr_push (n : Nat) (l : List UInt8) (x : UInt8) (h : l.length < n) : (bArr n l).setIfInBounds l.length (.int .u8 (u8v x)) = bArr n (l ++ [x]) := by
  unfold bArr b8s
  obtain ⟨m, hm⟩ : ∃ m, n - l.length = m + 1 := ⟨n - 1 - l.length, by omega⟩
  have h2 : n - (l ++ [x]).length = m := by simp; omega
  rw [hm, h2, List.setIfInBounds_toArray]
  congr 1
  rw [List.set_append_right _ _ (by simp)]
  simp [List.replicate_succ, b8]
theorem bArr_full (n : Nat) (l : List UInt8) (h : l.length = n) : bArr n l = (b8s l).toArray := by
  unfold bArr; rw [h, Nat.sub_self]; simp
theorem outB_length (F : St) (i : Nat) (h : i ≤ 8) : (outB F i).length = 4 * i := by
  unfold outB
  have h2 : (F.list.take i).length = i := by rw [List.length_take]; exact Nat.min_eq_left h
  generalize F.list.take i = l at *
  subst h2
  induction l with
  | nil => rfl
  | cons x l ih => rw [List.flatMap_cons, List.length_append, ih (by simp at h; omega)]; simp [wordBytes]; omega
theorem wb_byte (X : UInt32) (u : Nat) (h : u < 4) : u32v X / 2 ^ (24 - 8 * u) % 256 = u8v (byteAt (wordBytes X) u) := by
  have h4 : u = 0 ∨ u = 1 ∨ u = 2 ∨ u = 3 := by omega
  rcases h4 with rfl | rfl | rfl | rfl
  · rw [show (2 : Int) ^ (24 - 8 * 0) = 16777216 from by decide, div_u32_lit X 16777216 (by decide)]; exact mod_u32_8 _
  · rw [show (2 : Int) ^ (24 - 8 * 1) = 65536 from by decide, div_u32_lit X 65536 (by decide)]; exact mod_u32_8 _
  · rw [show (2 : Int) ^ (24 - 8 * 2) = 256 from by decide, div_u32_lit X 256 (by decide)]; exact mod_u32_8 _
  · rw [show (2 : Int) ^ (24 - 8 * 3) = 1 from by decide, Int.ediv_one]; exact mod_u32_8 _
theorem wb_take (X : UInt32) (u : Nat) (h : u < 4) : (wordBytes X).take (u + 1) = (wordBytes X).take u ++ [byteAt (wordBytes X) u] := by
  have h4 : u = 0 ∨ u = 1 ∨ u = 2 ∨ u = 3 := by omega
  rcases h4 with rfl | rfl | rfl | rfl <;> rfl
theorem outB_all (F : St) : outB F 8 = F.list.flatMap wordBytes := rfl
theorem z32_size {n : Nat} (l : List UInt8) (h : l.length = 32) (hn : n = 32) : (bArr n l).size = 32 := by
  subst hn; rw [bArr_full _ _ h]; simp [b8s, h]
theorem b8s_all (l : List UInt8) : (b8s l).toArray.all (·.oneCell') = true := by
  rw [Array.all_eq_true_iff_forall_mem]
  intro v hv
  exact b8s_one l v (by simpa using hv)
theorem info25 : (Try.prog.info? 25).map (·.size) = some 32 := by kernel_rfl
theorem kons_size : (w32s kons).toArray.size = 64 := by kernel_rfl
theorem kons_one : (w32s kons).toArray.all (·.oneCell') = true := by kernel_rfl
theorem info209' : (Try.prog.info? 209).map (·.size) = some 8 := by kernel_rfl
theorem Below.setRow {B : Nat} {a w : World} (h : Below B a w) {g : Nat} (hg : B ≤ g) (cs : Array Value) : Below B a (w.setRow g cs) :=
  h.trans ⟨rfl, rfl, rfl, by simp, fun j hj => setRow_other _ _ _ _ (by omega)⟩

set_option maxRecDepth 100000 in
set_option maxHeartbeats 1000000 in
theorem sum_any (l : List (List UInt8)) (A : Option Addr) (c : Nat) (w : World) (hl : RdL w w.heap.size A l) (hn : l.length ≤ 1099511627776) (hsz : l.flatten.length ≤ 1099511627776) :
    Calls Try.prog 33 #[.slice A l.length c] w fun e w' => e = .returned (.agg (b8s (sha l.flatten)).toArray) ∧ Below w.heap.size w w' := by
  obtain ⟨K, hK⟩ : ∃ K, K = (w32s kons).toArray := ⟨_, rfl⟩
  obtain ⟨S0, hS0⟩ : ∃ S, S = st0.cells := ⟨_, rfl⟩
  have hc := constants_any
  have hf := first_any
  have hK1 : K.all (·.oneCell') = true := by rw [hK]; exact kons_one
  have hKs : K.size = 64 := by rw [hK]; exact kons_size
  have hS1 : S0.all (·.oneCell') = true := by rw [hS0]; exact cells_one _
  have hSs : S0.size = 8 := by rw [hS0]; rfl
  rw [← hK] at hc
  rw [← hS0] at hf
  have HK := Lib.hid hK; clear hK
  have HS0 := Lib.hid hS0; clear hS0
  have Hc := Lib.hid hc; clear hc
  have Hf := Lib.hid hf; clear hf
  have HKs := Lib.hid hKs; clear hKs
  have HK1 := Lib.hid hK1; clear hK1
  have HSs := Lib.hid hSs; clear hSs
  have HS1 := Lib.hid hS1; clear hS1
  go_enter Try.func33, Try.ntmps33
  go_wp2_with (first
    | (go_at_call 133; refine (Hf.out _).mono ?_; rintro e w1 ⟨rfl, hb1⟩
       have hr1 := (Blk.new w 25 _).call hb1
       have hbw1 : Below w.heap.size w w1 := ((Below.refl _ _).alloc (Nat.le_refl _) _).trans (hb1.mono (by simp))
       have hz1 : w.heap.size + 1 ≤ w1.heap.size := by have := hb1.size; simpa using this
       clear hb1)
    | (go_at_call 134; refine (Hc.out _).mono ?_; rintro e w2 ⟨rfl, hb2⟩
       have hr2 := hr1.call hb2
       have hbw2 : Below w.heap.size w w2 := hbw1.trans (hb2.mono (by omega))
       have hz2 : w.heap.size + 1 ≤ w2.heap.size := by have := hb2.size; omega
       clear hb2 hr1 hbw1 hz1)
    | (refine wpList_store_abs rfl 209 (.tmp 3) (.tmp 16) rfl w2.heap.size S0 rfl rfl 209 _ ((Blk.new w2 209 _).alloc _) 8 info209' HSs.out rfl HS1.out ?_; intro w3 hs3 hg3
       have hk3 := (Blk.new1 w2 _ 211 _).grown hg3 (by simp)
       have hr3 := ((hr2.alloc _).alloc _).grown hg3 (by simp; omega)
       have hbw3 : Below w.heap.size w w3 := (((hbw2.alloc (by omega) _).alloc (by simp; omega) _).grown hg3 (by simp; omega) (by simp; omega))
       have hz3 : w2.heap.size + 2 ≤ w3.heap.size := by have := hg3.size; simpa using this
       clear hg3)
    | (refine wpList_store_abs rfl 211 (.tmp 4) (.tmp 17) rfl (w2.heap.size + 1) K rfl rfl 211 _ hk3 64 kons_info HKs.out rfl HK1.out ?_; intro w4 hk4 hg4
       have hs4 := hs3.grown hg4 (by simp)
       have hr4 := hr3.grown hg4 (by simp; omega)
       have hbw4 : Below w.heap.size w w4 := hbw3.grown hg4 (by omega) (by simp; omega)
       have hz4 : w2.heap.size + 2 ≤ w4.heap.size := by have := hg4.size; omega
       clear hg4 hs3 hk3 hr3 hbw3 hr2 hbw2 hz3))
  generalize hzz : (#[Value.int .u8 0, .int .u8 0, .int .u8 0, .int .u8 0, .int .u8 0, .int .u8 0, .int .u8 0, .int .u8 0, .int .u8 0, .int .u8 0, .int .u8 0, .int .u8 0, .int .u8 0, .int .u8 0, .int .u8 0, .int .u8 0, .int .u8 0, .int .u8 0, .int .u8 0, .int .u8 0, .int .u8 0, .int .u8 0, .int .u8 0, .int .u8 0, .int .u8 0, .int .u8 0, .int .u8 0, .int .u8 0, .int .u8 0, .int .u8 0, .int .u8 0, .int .u8 0] : Array Value) = Z at hr4
  have HZ := Lib.hid hzz; clear hzz
  go_loopw [6, 21] (fun n i wr => ∃ j : Nat, j ≤ l.length ∧ i = .int .i64 j ∧ n = .int .u64 ((l.take j).flatten.length : Nat) ∧ ∃ v, Blk wr w4.heap.size 28 #[v] ∧ Own wr (w.heap.size + 1) v (left (l.take j).flatten) ∧
      Blk wr w2.heap.size 209 (absorbed (l.take j).flatten).cells ∧ Blk wr (w2.heap.size + 1) 211 K ∧ Blk wr w.heap.size 25 Z ∧ Below w.heap.size w wr ∧ w4.heap.size + 1 ≤ wr.heap.size) (fun _ i _ => l.length - (intOf i).toNat)
  case atStart =>
    refine ⟨0, by omega, rfl, by simp, _, Blk.new _ _ _, ?_, ?_, hk4.alloc _, hr4.alloc _, hbw4.alloc (by omega) _, by simp⟩
    · rw [List.take_zero, List.flatten_nil]; exact Own.nil _ _
    · rw [List.take_zero, List.flatten_nil]; rw [HS0.out] at hs4; exact hs4.alloc _
  case round =>
    clear hs4 hk4 hr4 hbw4
    obtain ⟨j, hj, rfl, rfl, v, hR, hO, hG, hK, hZ, hbel, hz⟩ := hrel
    have hmle := take_flat_le l j
    by_cases hlt : j < l.length
    · obtain ⟨ab, ao, A', c', rfl, hab, hcell, hc', hm', hrd⟩ := (hl.below hbel (Nat.le_refl _)).at1 hlt
      have hnx := take_flat l j hlt
      have hle2 := take_flat_le l (j + 1)
      obtain ⟨b, hb⟩ : ∃ b, b = l[j] := ⟨_, rfl⟩
      rw [← hb] at hnx hcell hc' hrd
      generalize hm : (List.take j l).flatten = m at *
      have hblen : m.length + b.length ≤ 1099511627776 := by rw [hnx, List.length_append] at hle2; omega
      have Hnx := Lib.hid hnx; clear hnx
      have Hb := Lib.hid hb; clear hb
      have Hm := Lib.hid hm; clear hm
      clear hle2
      go_wp2_with (go_at_call 135; refine (feed_any (w.heap.size + 1) w4.heap.size w2.heap.size (w2.heap.size + 1) v _ _ _ A' c' wr hR hG (by rw [← HK.out]; exact hK) hO (hrd.more hbel.size) (by omega) (by omega) (by rw [left_length]; omega)).mono ?_; rintro e w' ⟨rfl, v', h1, h2, h3, h4, h5⟩)
      go_roundw
      case rel =>
        refine ⟨j + 1, by omega, by go_num, by rw [Hnx.out, List.length_append]; go_num, v', h1, ?_, ?_, by rw [HK.out]; exact h4, hZ.below h5 (Nat.lt_succ_self _), hbel.trans (h5.mono (Nat.le_succ _)), by have := h5.size; omega⟩
        · rw [Hnx.out]; rw [left_left] at h2; exact h2
        · rw [Hnx.out]; rw [absorbed_append] at h3; exact h3
      case measure => simp [intOf]; omega
    · have ej : j = l.length := by omega
      subst ej
      rw [List.take_length] at *
      generalize hm : l.flatten = m at *
      obtain ⟨Ar, cr, rfl, hcr, hmr, hrdr⟩ := hO.form
      rw [left_length] at *
      have cR : wr.cell? ⟨w4.heap.size, 0, none⟩ = some (.slice Ar (m.length % 64) cr) := hR.cell 0
      obtain ⟨wo, rfl⟩ : ∃ wo : World, wo = wr := ⟨_, rfl⟩
      have Hm := Lib.hid hm; clear hm
      go_wp2_with fail
      go_loopw [10] (fun v10 wr => ∃ k : Nat, k ≤ noughts m.length ∧ Own wr wo.heap.size v10 (128 :: List.replicate k 0) ∧ Below wo.heap.size wo wr) (fun v _ => 65 - slLen v)
      case atStart => exact ⟨0, Nat.zero_le _, Own.new wo wo.heap.size (Nat.le_refl _) [128] 1 rfl (by decide) _ rfl, (Below.refl _ _).alloc (Nat.le_refl _) _⟩
      case round =>
        obtain ⟨k, hk, hE, hbw⟩ := hrel
        obtain ⟨Ae, ce, rfl, hce, hme, hrde⟩ := hE.form
        have hkl : (128 :: List.replicate k 0 : List UInt8).length = k + 1 := by simp
        have hsz1 : (128 :: List.replicate k 0 : List UInt8).length ≤ 70368744177663 := by rw [hkl]; have h : k ≤ (119 - m.length % 64) % 64 := hk; omega
        rw [hkl] at hE hce
        rw [hkl]
        have Hkl := Lib.hid hkl; clear hkl
        have Hsz1 := Lib.hid hsz1; clear hsz1
        have hk' : k ≤ (119 - m.length % 64) % 64 := hk
        have cR2 : wr.cell? ⟨w4.heap.size, 0, none⟩ = some (.slice Ar (m.length % 64) cr) := (hR.below hbw hR.lt).cell 0
        by_cases hlt : k < (119 - m.length % 64) % 64
        · go_wp2_with (first
            | (at_builtin; refine app1 rfl (.tmp 42) (.tmp 43) rfl wo.heap.size _ _ rfl hE 0 0 rfl rfl Hsz1.out hbw.size ?_; intro v1 w1 hown1 hg1 hat1
               obtain ⟨A3, c3, rfl, hc3, hm3, hrd3⟩ := hown1.form))
          have hlen3 : (128 :: List.replicate k 0 ++ [0] : List UInt8).length = k + 2 := by rw [List.length_append, Hkl.out]; rfl
          go_roundw
          case rel =>
            refine ⟨k + 1, hlt, ?_, hbw.grown hg1 hbw.size (fun x hx => (hE.lt x hx).1)⟩
            rw [List.replicate_succ', ← List.cons_append]
            rw [hlen3] at hown1
            exact hown1
          case measure => simp only [slLen]; omega
        · have ek : k = noughts m.length := by unfold noughts; omega
          subst ek
          clear hlt hk hk'
          have hq1 : (119 - m.length % 64) % 64 ≤ noughts m.length := Nat.le_refl _
          have hq2 : noughts m.length ≤ (119 - m.length % 64) % 64 := Nat.le_refl _
          have HQ := Lib.hid hR; clear hR
          have HE0 := Lib.hid (hO.lt); clear cR
          go_wp2_with fail
          clear hq1 hq2
          obtain ⟨w5, rfl⟩ : ∃ w5 : World, w5 = wr := ⟨_, rfl⟩
          generalize hbb : (((m.length : Int) + ((noughts m.length : Int) + 1)) % 64 != 56) = bb
          clear hbb
          generalize hz40 : (((m.length : Int) % 64 + ((noughts m.length : Int) + 1)) % 64) = z40
          clear hz40
          go_loopw [10, 11] (fun v10 i wr => ∃ t : Nat, t ≤ 8 ∧ i = .int .i64 (7 - (t : Int)) ∧ Own wr wo.heap.size v10 (128 :: List.replicate (noughts m.length) 0 ++ (be (8 * m.length) 8).take t) ∧ Below wo.heap.size wo wr) (fun _ i _ => (intOf i + 1).toNat)
          case atStart => exact ⟨0, by omega, rfl, by rw [List.take_zero, List.append_nil]; exact hE, hbw⟩
          case round =>
            clear hE hbw
            obtain ⟨t, ht, rfl, hE, hbw⟩ := hrel
            have hel : (128 :: List.replicate (noughts m.length) 0 ++ (be (8 * m.length) 8).take t : List UInt8).length ≤ 200 := by
              have h1 : noughts m.length < 64 := Nat.mod_lt _ (by decide)
              simp [be_length]; omega
            by_cases hlt : t < 8
            · have hnx := be_take (8 * m.length) 8 t hlt
              generalize hEd : (128 :: List.replicate (noughts m.length) 0 ++ (be (8 * m.length) 8).take t : List UInt8) = E at *
              obtain ⟨Ae, ce, rfl, hce, hme, hrde⟩ := hE.form
              have hy : (8 * (m.length : Int)) / 2 ^ (8 * (7 - t)) % 256 = u8v (UInt8.ofNat (8 * m.length / 256 ^ (8 - 1 - t))) := by
                rw [← conv_nat_8, IntKind.wrap_u8', show (256 : Nat) = 2 ^ 8 from rfl, ← Nat.pow_mul, Int.natCast_ediv, Int.natCast_mul, Int.natCast_pow]; rfl
              have Hy := Lib.hid hy; clear hy
              have Hnx := Lib.hid hnx; clear hnx
              have HEd := Lib.hid hEd; clear hEd
              go_wp2_with (first
                | (at_builtin; refine app1 rfl (.tmp 49) (.tmp 56) rfl wo.heap.size _ _ rfl hE _ _ Hy.out rfl (by omega) hbw.size ?_; intro v1 w1 hown1 hg1 hat1
                   obtain ⟨A3, c3, rfl, hc3, hm3, hrd3⟩ := hown1.form))
              have hlen3 : (E ++ [UInt8.ofNat (8 * m.length / 256 ^ (8 - 1 - t))] : List UInt8).length = E.length + 1 := by rw [List.length_append]; rfl
              go_roundw
              case rel =>
                refine ⟨t + 1, hlt, by go_num, ?_, hbw.grown hg1 hbw.size (fun x hx => (hE.lt x hx).1)⟩
                rw [Hnx.out, ← List.append_assoc, HEd.out]
                rw [hlen3] at hown1
                exact hown1
              case measure => simp [intOf]; omega
            · have et : t = 8 := by omega
              subst et
              rw [List.take_of_length_le (by rw [be_length]; exact Nat.le_refl _)] at *
              generalize hEd : (128 :: List.replicate (noughts m.length) 0 ++ be (8 * m.length) 8 : List UInt8) = E at *
              obtain ⟨Ae, ce, rfl, hce, hme, hrde⟩ := hE.form
              have hR := HQ.out.below hbw HQ.out.lt
              have hO2 := hO.below hbw (Nat.le_refl _)
              have hG2 := hG.call hbw
              have hK2 := hK.call hbw
              have hZ2 := hZ.call hbw
              have hbel2 := hbel.trans (hbw.mono hbel.size)
              have hz2' := hbw.size
              have HEd := Lib.hid hEd; clear hEd
              clear HQ hO hG hK hZ hbel hbw HE0
              go_wp2_with (first
                | (go_at_call 135; refine (feed_any (w.heap.size + 1) w4.heap.size w2.heap.size (w2.heap.size + 1) _ _ _ _ Ae ce wr hR hG2 (by rw [← HK.out]; exact hK2) hO2 hrde (by omega) (by omega) (by rw [left_length]; omega)).mono ?_; rintro e w6 ⟨rfl, v', h1, h2, h3, h4, h5⟩; rw [absorbed_append] at h3; generalize hF : absorbed (m ++ E) = F at h3)
                | (refine wpList_load_row rfl 209 (.tmp 3) rfl w2.heap.size rfl 209 _ (0, 0) _ (h3.alloc _) Try.underlying209 rfl info209' ?_))
              have hZ6 := hZ2.below h5 (Nat.lt_succ_self _)
              have hbel6 := hbel2.trans (h5.mono (Nat.le_succ _))
              have HF := Lib.hid hF; clear hF
              have hz6 := h5.size
              clear h1 h2 h3 h4 h5 hZ2 hbel2 hR hG2 hK2 hO2 hE hrde
              go_loopw [62] (fun i wr => ∃ t : Nat, t ≤ 8 ∧ i = .int .i64 t ∧ Blk wr w6.heap.size 25 (bArr 32 (outB F t)) ∧ Below w6.heap.size w6 wr) (fun i _ => 8 - (intOf i).toNat)
              case atStart => exact ⟨0, by omega, rfl, Blk.new _ _ _, (Below.refl _ _).alloc (Nat.le_refl _) _⟩
              case round =>
                obtain ⟨t, ht, rfl, hOut, hbw⟩ := hrel
                by_cases hlt : t < 8
                · have hix := run_index_cell Try.underlying209 size79 agg79 F.cells t (.int .u32 (u32v (wordAt F.list t))) hlt (w32s_hit F.list t hlt) .i64
                  have hx : wordAt F.list t ∈ F.list.drop t := by
                    unfold wordAt
                    rw [List.getD_eq_getElem?_getD, List.getElem?_eq_getElem (show t < F.list.length from hlt), List.drop_eq_getElem_cons (show t < F.list.length from hlt)]
                    exact List.mem_cons_self
                  have hon : outB F (t + 1) = outB F t ++ wordBytes (wordAt F.list t) := by
                    unfold outB wordAt
                    rw [List.take_succ_eq_append_getElem (show t < F.list.length from hlt), List.flatMap_append, List.getD_eq_getElem?_getD, List.getElem?_eq_getElem (show t < F.list.length from hlt)]
                    simp
                  have hol := outB_length F t ht
                  generalize hX : wordAt F.list t = X at *
                  generalize hO : outB F t = OB at *
                  have Hon := Lib.hid hon; clear hon hx hX hO
                  have Hol := Lib.hid hol; clear hol
                  go_wp2_with fail
                  obtain ⟨wq, rfl⟩ : ∃ wq : World, wq = wr := ⟨_, rfl⟩
                  go_loopw [66] (fun i wr => ∃ u : Nat, u ≤ 4 ∧ i = .int .i64 u ∧ Blk wr w6.heap.size 25 (bArr 32 (OB ++ (wordBytes X).take u)) ∧ Below w6.heap.size w6 wr) (fun i _ => 4 - (intOf i).toNat)
                  case atStart => exact ⟨0, by omega, rfl, by rw [List.take_zero, List.append_nil]; exact hOut, hbw⟩
                  case round =>
                    clear hOut hbw hix
                    obtain ⟨u, hu, rfl, hOut, hbw⟩ := hrel
                    by_cases hlu : u < 4
                    · have hlen : (OB ++ (wordBytes X).take u).length = 4 * t + u := by rw [List.length_append, Hol.out, List.length_take]; simp [wordBytes]; omega
                      have cO : wr.cell? ⟨w6.heap.size, 4 * t + u, none⟩ = some (.int .u8 0) := by rw [hOut.cell, bArr_miss _ _ _ (by omega) (by omega)]
                      have fO := hOut.frozen (4 * t + u)
                      have Hlen := Lib.hid hlen; clear hlen
                      go_wp2_with fail
                      go_roundw
                      case rel =>
                        refine ⟨u + 1, hlu, by go_num, ?_, hbw.setCell (p := ⟨w6.heap.size, 4 * t + u, none⟩) (Nat.le_refl _) _⟩
                        rw [wb_byte X u hlu, wb_take X u hlu, ← List.append_assoc, ← bArr_push 32 _ _ (by rw [Hlen.out]; omega), Hlen.out]
                        exact hOut.set _ _
                      case measure => simp [intOf]; omega
                    · have eu : u = 4 := by omega
                      subst eu
                      go_wp2_with fail
                      go_roundw
                      case rel =>
                        refine ⟨t + 1, hlt, by go_num, ?_, hbw⟩
                        rw [Hon.out]
                        exact hOut
                      case measure => simp [intOf]; omega
                · have et8 : t = 8 := by omega
                  subst et8
                  have hfl : (outB F 8).length = 32 := outB_length F 8 (by omega)
                  rw [bArr_full 32 _ hfl, outB_all, ← HF.out, ← HEd.out] at hOut
                  have hfin : (absorbed (m ++ (128 :: List.replicate (noughts m.length) 0 ++ be (8 * m.length) 8))).list.flatMap wordBytes = sha m := rfl
                  rw [hfin] at hOut
                  have hsl : (b8s (sha m)).toArray.size = 32 := by
                    rw [← hfin, HEd.out, HF.out, ← outB_all]; simp [b8s, hfl]
                  have hZr := hZ6.below hbw (by omega)
                  have hZs : Z.size = 32 := by rw [← HZ.out]; rfl
                  have hbelr := hbel6.trans (hbw.mono (by omega))
                  have hone := b8s_all (sha m)
                  obtain ⟨D, hD⟩ : ∃ D, D = (b8s (sha m)).toArray := ⟨_, rfl⟩
                  rw [← hD] at hOut hsl hone
                  have HD := Lib.hid hD; clear hD hfin
                  have Hsl := Lib.hid hsl; clear hsl
                  have HZs := Lib.hid hZs; clear hZs
                  have Hone := Lib.hid hone; clear hone
                  clear hfl
                  go_wp2_with (first
                    | (refine wpList_load_row rfl 25 (.tmp 12) rfl w6.heap.size rfl 25 D (0, 0) _ hOut Try.underlying25 rfl (info25.trans (congrArg some Hsl.out.symm)) ?_)
                    | (refine wpList_store_abs rfl 25 (.tmp 2) (.tmp 82) rfl w.heap.size D rfl rfl 25 Z hZr 32 info25 Hsl.out HZs.out Hone.out ?_; intro w7 hres hg7))
                  refine bodyPost_ret (results_cell_row rfl _ _ w.heap.size 25 _ (0, 0) _ rfl hres Try.underlying25 rfl (info25.trans (congrArg some Hsl.out.symm))) rfl ⟨?_, hbelr.grown hg7 hbelr.size (fun x hx => by cases hx; exact Nat.le_refl _)⟩
                  rw [HD.out, Hm.out]
end Go.Proofs.Ytillnpllcfleeaa
