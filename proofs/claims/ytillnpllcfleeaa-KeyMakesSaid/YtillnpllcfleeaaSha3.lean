/- Walks of layer 6: what is fed, the sum of any texts. -/
import Derived.Test.YtillnpllcfleeaaSha2
import Derived.Test.YtillnpllcfleeaaApp
namespace Go.Proofs.Ytillnpllcfleeaa
open Go Go.RowKit

theorem first_lit : st0.cells = #[.int .u32 1779033703, .int .u32 3144134277, .int .u32 1013904242, .int .u32 2773480762, .int .u32 1359893119, .int .u32 2600822924, .int .u32 528734635, .int .u32 1541459225] := by kernel_rfl

set_option maxHeartbeats 400000 in
theorem first_any (w : World) : Calls Try.prog 133 #[] w fun e w' => e = .returned (.agg st0.cells) ∧ Below w.heap.size w w' := by
  rw [first_lit]
  go_enter Try.func133, Try.ntmps133
  go_wp2
  refine bodyPost_ret (results_cell_row rfl _ _ w.heap.size 209 _ (0, 0) _ rfl (Blk.new _ _ _) Try.underlying209 rfl (by kernel_rfl)) rfl ⟨rfl, (Below.refl _ _).alloc (Nat.le_refl _) _⟩

theorem kons_lit : (w32s kons).toArray = #[.int .u32 1116352408, .int .u32 1899447441, .int .u32 3049323471, .int .u32 3921009573, .int .u32 961987163, .int .u32 1508970993, .int .u32 2453635748, .int .u32 2870763221, .int .u32 3624381080, .int .u32 310598401, .int .u32 607225278, .int .u32 1426881987, .int .u32 1925078388, .int .u32 2162078206, .int .u32 2614888103, .int .u32 3248222580, .int .u32 3835390401, .int .u32 4022224774, .int .u32 264347078, .int .u32 604807628, .int .u32 770255983, .int .u32 1249150122, .int .u32 1555081692, .int .u32 1996064986, .int .u32 2554220882, .int .u32 2821834349, .int .u32 2952996808, .int .u32 3210313671, .int .u32 3336571891, .int .u32 3584528711, .int .u32 113926993, .int .u32 338241895, .int .u32 666307205, .int .u32 773529912, .int .u32 1294757372, .int .u32 1396182291, .int .u32 1695183700, .int .u32 1986661051, .int .u32 2177026350, .int .u32 2456956037, .int .u32 2730485921, .int .u32 2820302411, .int .u32 3259730800, .int .u32 3345764771, .int .u32 3516065817, .int .u32 3600352804, .int .u32 4094571909, .int .u32 275423344, .int .u32 430227734, .int .u32 506948616, .int .u32 659060556, .int .u32 883997877, .int .u32 958139571, .int .u32 1322822218, .int .u32 1537002063, .int .u32 1747873779, .int .u32 1955562222, .int .u32 2024104815, .int .u32 2227730452, .int .u32 2361852424, .int .u32 2428436474, .int .u32 2756734187, .int .u32 3204031479, .int .u32 3329325298] := by kernel_rfl
theorem kons_info : (Try.prog.info? 211).map (·.size) = some 64 := by kernel_rfl
set_option maxRecDepth 100000 in
set_option maxHeartbeats 400000 in
theorem constants_any (w : World) : Calls Try.prog 134 #[] w fun e w' => e = .returned (.agg (w32s kons).toArray) ∧ Below w.heap.size w w' := by
  rw [kons_lit]
  go_enter Try.func134, Try.ntmps134
  go_wp2_with (first
    | (refine wpList_store_row rfl 211 (.tmp 0) (.tmp 1) rfl w.heap.size _ rfl rfl 211 _ (Blk.new _ _ _) kons_info rfl (by kernel_rfl) ?_))
  refine bodyPost_ret (results_cell_row rfl _ _ w.heap.size 211 _ (0, 0) _ rfl (setRow_heap _ _ _ _ _ _ (Blk.new _ _ _)) Try.underlying211 rfl kons_info) rfl ⟨rfl, ?_⟩
  exact ((Below.refl _ _).alloc (Nat.le_refl _) _).trans ⟨rfl, rfl, rfl, by simp, fun j hj => setRow_other _ _ _ _ (by omega)⟩

/- what is fed: the blocks of what was left and of a text are taken in, and the rest is left -/
set_option maxRecDepth 100000 in
set_option maxHeartbeats 1000000 in
theorem feed_any (B r g k : Nat) (v : Value) (rs bs : List UInt8) (s : St) (A : Option Addr) (c : Nat) (w : World) (hr : Blk w r 28 #[v]) (hs : Blk w g 209 s.cells) (hk : Blk w k 211 (w32s kons).toArray)
    (hv : Own w B v rs) (hb : RdB w w.heap.size A bs) (hBr : B ≤ r) (hBg : B ≤ g) (hsz : rs.length + bs.length ≤ 35184372088832) :
    Calls Try.prog 135 #[.slice A bs.length c, .pointer (some ⟨r, 0, none⟩), .pointer (some ⟨g, 0, none⟩), .pointer (some ⟨k, 0, none⟩)] w fun e w' => e = .returned (.tuple #[]) ∧
      ∃ v', Blk w' r 28 #[v'] ∧ Own w' B v' (left (rs ++ bs)) ∧ Blk w' g 209 (bt s (rs ++ bs) ((rs ++ bs).length / 64)).cells ∧ Blk w' k 211 (w32s kons).toArray ∧ Below B w w' := by
  have hr1 := hr.lt
  have hg0 := hs.lt
  have hk0 := hk.lt
  have cr : w.cell? ⟨r, 0, none⟩ = some v := hr.cell 0
  obtain ⟨al, hal⟩ : ∃ al, al = rs ++ bs := ⟨_, rfl⟩
  have hlen : al.length ≤ 35184372088832 := by rw [hal, List.length_append]; exact hsz
  rw [← hal]
  have Hal := Lib.hid hal; clear hal
  go_enter Try.func135, Try.ntmps135
  go_wp2_with (first
    | (at_builtin; refine app8 rfl (.tmp 6) (.tmp 7) rfl B v rs rfl hv w.heap.size A _ c bs rfl hb rfl (by omega) (by omega) ?_; intro v1 w1 hown1 hg1 hat1
       rw [← Hal.out] at hown1
       obtain ⟨A1, c1, rfl, hc1, hm1, hrd1⟩ := hown1.form
       have hr2 : Blk w1 r 28 #[v] := hr.grown hg1 (hv.ne hr (by decide)).symm
       have cr2 : w1.cell? ⟨r, 0, none⟩ = some v := hr2.cell 0
       have fr2 := hr2.frozen 0))
  have hbel1 : Below B w w1 := below_of_grown hg1 (by omega) (fun j hj => (hv.lt j hj).1)
  have hs2 : Blk w1 g 209 s.cells := hs.grown hg1 (hv.ne hs (by decide)).symm
  have hk2 : Blk w1 k 211 (w32s kons).toArray := hk.grown hg1 (hv.ne hk (by decide)).symm
  have hrg : r ≠ g := hr.ne hs (by decide)
  have hrk : r ≠ k := hr.ne hk (by decide)
  have hgk : g ≠ k := hs.ne hk (by decide)
  clear hs hk hv hb hr cr cr2 fr2 hat1 hrd1
  go_loopw [5] (fun i wr => ∃ j : Nat, 64 * j ≤ al.length ∧ i = .int .i64 ((64 * j : Nat) : Int) ∧ Blk wr r 28 #[.slice A1 al.length c1] ∧ Own wr B (.slice A1 al.length c1) al ∧ Blk wr g 209 (bt s al j).cells ∧ Blk wr k 211 (w32s kons).toArray ∧ Below B w wr)
    (fun i _ => al.length - (intOf i).toNat)
  case atStart =>
    exact ⟨0, by omega, rfl, hr2.set 0 _, hown1.setCell (p := ⟨r, 0, none⟩) (hown1.ne hr2 (by decide)) _, hs2.far (p := ⟨r, 0, none⟩) hrg.symm _, hk2.far (p := ⟨r, 0, none⟩) hrk.symm _, hbel1.setCell (p := ⟨r, 0, none⟩) hBr _⟩
  case round =>
    clear hown1 hr2 hs2 hk2 hbel1 hg1
    obtain ⟨j, hj, rfl, hr2, hown, hs2, hk2, hbel⟩ := hrel
    have hsz2 := hbel.size
    have cr2 : wr.cell? ⟨r, 0, none⟩ = some (.slice A1 al.length c1) := hr2.cell 0
    by_cases hlt : 64 ≤ al.length - 64 * j
    · have hblk : RdB wr wr.heap.size (cutA A1 1 (64 * j) c1) (blk al j) := (hown.rd).cutlh (by omega) hc1
      go_wp2_with (go_at_call 136; refine (take_any g k _ _ _ _ _ hs2 hk2 hblk (blk_length _ _ (by omega))).mono ?_; rintro e w' ⟨rfl, hs3, hgr⟩)
      go_roundw
      case rel =>
        refine ⟨j + 1, by omega, by go_num, hr2.grown hgr (by simp [hrg]), hown.kept hgr (.inr (hown.ne hs2 (by decide))), hs3, hk2.grown hgr (by simp [hgk.symm]), hbel.grown hgr (by omega) (fun x hx => by simp at hx; omega)⟩
      case measure => simp [intOf]; omega
    · have hcut : RdB wr wr.heap.size (cutA A1 1 (64 * j) c1) (al.drop (64 * j)) := (hown.rd).cutl (by omega) hc1
      have fr2 := hr2.frozen 0
      have hj2 : j = al.length / 64 := by omega
      have Hj2 := Lib.hid hj2; clear hj2
      have hld : (al.drop (64 * j)).length = al.length - 64 * j := List.length_drop
      have Hld := Lib.hid hld; clear hld
      go_wp2_with (first
        | (at_builtin; refine app8 rfl (.const (.slice none 0 0)) (.tmp 24) rfl B (.slice none 0 0) [] rfl (Own.nil _ _) wr.heap.size (cutA A1 1 (64 * j) c1) _ (c1 - 64 * j) (al.drop (64 * j)) rfl hcut Hld.out.symm (by rw [Hld.out, List.length_nil]; omega) (by omega) ?_; intro v2 w2 hown2 hg2 hat2
           obtain ⟨A2, c2, rfl, hc2, hm2, hrd2⟩ := hown2.form
           have hr3 : Blk w2 r 28 #[.slice A1 al.length c1] := hr2.grown hg2 (by simp [Value.ownBlock])
           have cr3 : w2.cell? ⟨r, 0, none⟩ = some (.slice A1 al.length c1) := hr3.cell 0
           have fr3 := hr3.frozen 0))
      go_end0
      rw [← Hj2.out]
      refine ⟨rfl, _, hr3.set 0 _, ?_, (hs2.grown hg2 (by simp [Value.ownBlock])).far (p := ⟨r, 0, none⟩) hrg.symm _, (hk2.grown hg2 (by simp [Value.ownBlock])).far (p := ⟨r, 0, none⟩) hrk.symm _,
        (hbel.grown hg2 (by omega) (fun x hx => by simp [Value.ownBlock] at hx)).setCell (p := ⟨r, 0, none⟩) hBr _⟩
      have h := hown2.setCell (p := ⟨r, 0, none⟩) (hown2.ne hr3 (by decide)) (.slice A2 ([] ++ al.drop (64 * j)).length c2)
      unfold left
      rw [← Hj2.out]
      rw [List.nil_append, Hld.out] at h
      exact h
end Go.Proofs.Ytillnpllcfleeaa
