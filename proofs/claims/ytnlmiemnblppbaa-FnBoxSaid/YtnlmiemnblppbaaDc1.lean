/-
  Cycs that are drawn: a step by the root, turns, roots.
-/
import Derived.Test.YtnlmiemnblppbaaIn
import Derived.Test.YtnlmiemnblppbaaC8
import Derived.Outline
namespace Go.Proofs.Ytnlmiemnblppbaa
open Go.RowKit

def SomeC8 (w : World) (e : Ending) (w' : World) : Prop := ∃ d : C8, e = .returned d.val ∧ Below w.heap.size w w'

set_option maxRecDepth 100000 in
set_option maxHeartbeats 1000000 in
theorem l2Step_some (c : C8) (w : World) : Calls Try.prog 128 #[c.val] w (SomeC8 w) := by
  have h0 := three_new w c zero8 zero8 51
  have H0 := hide h0
  clear h0
  rw [val_spell]
  go_enter Try.func128, Try.ntmps128
  go_wp2_with fail
  go_loopw [4] (fun i wr => ∃ (t : Nat) (d : C8), 1 ≤ t ∧ t ≤ 8 ∧ i = .int .i64 t ∧ Blk wr w.heap.size 51 c ∧ Blk wr (w.heap.size + 1) 51 zero8 ∧ Blk wr (w.heap.size + 1 + 1) 51 d ∧ Below w.heap.size w wr) (fun i _ => 8 - (intOf i).toNat)
  case atStart => exact ⟨1, zero8, by omega, by omega, rfl, H0.out.1, H0.out.2.1, H0.out.2.2.1, H0.out.2.2.2⟩
  case round =>
    obtain ⟨t, d, ht1, ht, rfl, hc, hz, hd, hb⟩ := hrel
    by_cases hlt : t < 8
    · obtain ⟨q, rfl⟩ : ∃ q, t = q + 1 := ⟨t - 1, by omega⟩
      have c1 := blk_cell hc q (by omega)
      have c2 := blk_cell hd (q + 1) hlt
      have f2 := blk_free hd (q + 1)
      have hd' := blk_set hd (q + 1) hlt (c.get q)
      have hc' := blk_other hc (q + 1) (.int .i64 (c.get q)) (show w.heap.size ≠ w.heap.size + 1 + 1 by omega)
      have hz' := blk_other hz (q + 1) (.int .i64 (c.get q)) (show w.heap.size + 1 ≠ w.heap.size + 1 + 1 by omega)
      have hb' := kept_set hb (p := ⟨w.heap.size + 1 + 1, q + 1, none⟩) (by simp; omega) (.int .i64 (c.get q))
      have Hd := hide hd'
      have Hc := hide hc'
      have Hz := hide hz'
      clear hd' hc' hz' hc hd hz
      generalize c.get q = x at *
      have e1 : (((q + 1 : Nat) : Int) - 1) = (q : Int) := by omega
      go_wp2_with fail
      go_roundw
      case rel => exact ⟨q + 2, _, by omega, by omega, by go_num, Hc.out, Hz.out, Hd.out, hb'⟩
      case measure => simp [intOf]; omega
    · obtain rfl : t = 8 := by omega
      obtain ⟨p0, p1, p2, p3, p4, p5, p6, p7⟩ := blk_cells hc
      obtain ⟨q0, q1, q2, q3, q4, q5, q6, q7⟩ := blk_cells hd
      obtain ⟨r0, r1, r2, r3, r4, r5, r6, r7⟩ := blk_cells hz
      obtain ⟨f0, f1, f2, f3, f4, f5, f6, f7⟩ := blk_frees hz
      have g0 := blk_free hd 0
      have g4 := blk_free hd 4
      go_wp2_with fail
      have hX := blk_set hd 4 (by omega) (wrap64 (d.a4 + c.a7))
      have hX := blk_set hX 0 (by omega) (wrap64 (-c.a7))
      have hZ := blk_other (blk_other hz 4 (.int .i64 (wrap64 (d.a4 + c.a7))) (show w.heap.size + 1 ≠ w.heap.size + 1 + 1 by omega)) 0 (.int .i64 (wrap64 (-c.a7))) (show w.heap.size + 1 ≠ w.heap.size + 1 + 1 by omega)
      have hZ := blk_set8 hZ ((d.set 4 (wrap64 (d.a4 + c.a7))).set 0 (wrap64 (-c.a7)))
      have hB := kept_set8 (kept_set (kept_set hb (p := ⟨w.heap.size + 1 + 1, 4, none⟩) (by simp; omega) (.int .i64 (wrap64 (d.a4 + c.a7)))) (p := ⟨w.heap.size + 1 + 1, 0, none⟩) (by simp; omega) (.int .i64 (wrap64 (-c.a7)))) (g := w.heap.size + 1) (by omega) ((d.set 4 (wrap64 (d.a4 + c.a7))).set 0 (wrap64 (-c.a7)))
      change bodyPost _ _ _ _ _ (set8w ((wr.setCell ⟨w.heap.size + 1 + 1, 4, none⟩ (.int .i64 (wrap64 (d.a4 + c.a7)))).setCell ⟨w.heap.size + 1 + 1, 0, none⟩ (.int .i64 (wrap64 (-c.a7)))) (w.heap.size + 1) ((d.set 4 (wrap64 (d.a4 + c.a7))).set 0 (wrap64 (-c.a7))))
      generalize set8w ((wr.setCell ⟨w.heap.size + 1 + 1, 4, none⟩ (.int .i64 (wrap64 (d.a4 + c.a7)))).setCell ⟨w.heap.size + 1 + 1, 0, none⟩ (.int .i64 (wrap64 (-c.a7)))) (w.heap.size + 1) ((d.set 4 (wrap64 (d.a4 + c.a7))).set 0 (wrap64 (-c.a7))) = wz at *
      generalize (d.set 4 (wrap64 (d.a4 + c.a7))).set 0 (wrap64 (-c.a7)) = z at *
      obtain ⟨z0, z1, z2, z3, z4, z5, z6, z7⟩ := blk_cells hZ
      exact bodyPost_ret (v := z.val) (by simp [results, Try.results128, go_sem, val_spell, z0, z1, z2, z3, z4, z5, z6, z7]) rfl ⟨_, rfl, hB⟩

theorem two_new (w : World) (c d : C8) (T : TypeId) :
    Blk ((w.alloc (.cells c.arr T)).alloc (.cells d.arr T)) w.heap.size T c ∧ Blk ((w.alloc (.cells c.arr T)).alloc (.cells d.arr T)) (w.heap.size + 1) T d ∧ Below w.heap.size w ((w.alloc (.cells c.arr T)).alloc (.cells d.arr T)) := by
  refine ⟨blk_alloc (blk_new _ _ _) _, ?_, kept_alloc (kept_new _ _) _⟩
  have := blk_new (w.alloc (.cells c.arr T)) d T
  rwa [show (w.alloc (.cells c.arr T)).heap.size = w.heap.size + 1 from by simp] at this

set_option maxRecDepth 100000 in
set_option maxHeartbeats 1000000 in
theorem l2Turned_some (c : C8) (n : Int) (w : World) (hn : n ≤ 1000000) : Calls Try.prog 119 #[c.val, .int .i64 n] w (SomeC8 w) := by
  have H0 := hide (two_new w c zero8 51)
  rw [val_spell]
  go_enter Try.func119, Try.ntmps119
  go_wp2_with fail
  go_loopw [5] (fun i wr => ∃ (t : Nat) (d : C8), ((t : Int) ≤ n ∨ t = 0) ∧ i = .int .i64 t ∧ Blk wr w.heap.size 51 d ∧ Blk wr (w.heap.size + 1) 51 zero8 ∧ Below w.heap.size w wr) (fun i _ => n.toNat - (intOf i).toNat)
  case atStart => exact ⟨0, c, .inr rfl, rfl, H0.out.1, H0.out.2.1, H0.out.2.2⟩
  case round =>
    obtain ⟨t, d, ht, rfl, hd, hz, hb⟩ := hrel
    by_cases hlt : (t : Int) < n
    · obtain ⟨p0, p1, p2, p3, p4, p5, p6, p7⟩ := blk_cells hd
      go_wp2_with fail
      refine (l2Step_some d wr).mono ?_
      rintro e w1 ⟨x, rfl, hb1⟩
      have hd1 := blk_kept hd hb1
      have hz1 := blk_set8_other (blk_kept hz hb1) x (show w.heap.size + 1 ≠ w.heap.size by omega)
      have hD := blk_set8 hd1 x
      have hB := kept_set8 (kept_trans hb hb1) (g := w.heap.size) (by omega) x
      obtain ⟨r0, r1, r2, r3, r4, r5, r6, r7⟩ := blk_cells hd1
      obtain ⟨f0, f1, f2, f3, f4, f5, f6, f7⟩ := blk_frees hd1
      rw [val_spell]
      clear hd hz hb hd1 p0 p1 p2 p3 p4 p5 p6 p7
      go_wp2_with fail
      go_roundw
      case rel => exact ⟨t + 1, x, .inl (by omega), by go_num, hD, hz1, hB⟩
      case measure => simp [intOf]; omega
    · obtain ⟨p0, p1, p2, p3, p4, p5, p6, p7⟩ := blk_cells hd
      obtain ⟨r0, r1, r2, r3, r4, r5, r6, r7⟩ := blk_cells hz
      obtain ⟨f0, f1, f2, f3, f4, f5, f6, f7⟩ := blk_frees hz
      go_wp2_with fail
      have hZ := blk_set8 hz d
      have hB := kept_set8 hb (g := w.heap.size + 1) (by omega) d
      change bodyPost _ _ _ _ _ (set8w wr (w.heap.size + 1) d)
      generalize set8w wr (w.heap.size + 1) d = wz at *
      obtain ⟨z0, z1, z2, z3, z4, z5, z6, z7⟩ := blk_cells hZ
      exact bodyPost_ret (v := d.val) (by simp [results, Try.results119, go_sem, val_spell, z0, z1, z2, z3, z4, z5, z6, z7]) rfl ⟨_, rfl, hB⟩

set_option maxRecDepth 100000 in
set_option maxHeartbeats 1000000 in
theorem l2Gauss_ok (x y : Int) (w : World) : Calls Try.prog 108 #[.int .i64 x, .int .i64 y] w fun e w' => e = .returned (⟨x, 0, 0, 0, 0, 0, y, 0⟩ : C8).val ∧ Below w.heap.size w w' := by
  go_enter Try.func108, Try.ntmps108
  go_wp2_with fail
  refine bodyPost_ret (v := (⟨x, 0, 0, 0, 0, 0, y, 0⟩ : C8).val) (by simp [results, Try.results108, go_sem, val_spell]) rfl ⟨rfl, ?_⟩
  exact kept_alloc (kept_new _ _) _

def SomeC8B (w : World) (e : Ending) (w' : World) : Prop := ∃ (d : C8) (b : Bool), e = .returned (.tuple #[d.val, .bool b]) ∧ Below w.heap.size w w'

theorem l1Is_ok (n : Int) (w : World) : Calls Try.prog 109 #[.int .i64 n] w fun e w' => e = .returned (.bool (decide (0 ≤ n ∧ n ≤ 23))) ∧ w = w' := by
  by_cases h : 0 ≤ n ∧ n ≤ 23
  · have H : Hid (decide (0 ≤ n ∧ n ≤ 23) = true) := by simpa [Hid] using h
    go_enter Try.func109, Try.ntmps109
    go_wp2_with fail
    refine (l6In_t _ _ _ _ h.1 h.2).mono ?_
    rintro e w' ⟨rfl, rfl⟩
    go_wp2_with fail
    go_ret
    exact ⟨by rw [H.out]; rfl, rfl⟩
  · have H : Hid (decide (0 ≤ n ∧ n ≤ 23) = false) := by simpa [Hid] using h
    have Hn := hide h
    clear h
    go_enter Try.func109, Try.ntmps109
    go_wp2_with fail
    refine (l6In_f _ _ _ _ Hn.out).mono ?_
    rintro e w' ⟨rfl, rfl⟩
    go_wp2_with fail
    go_ret
    exact ⟨by rw [H.out]; rfl, rfl⟩

set_option maxRecDepth 100000 in
set_option maxHeartbeats 1000000 in
theorem cycRoot_some (n : Int) (w : World) : Calls Try.prog 107 #[.int .i64 n] w (SomeC8B w) := by
  by_cases h : 0 ≤ n ∧ n ≤ 23
  · have H : Hid (decide (0 ≤ n ∧ n ≤ 23) = true) := by simpa [Hid] using h
    go_enter Try.func107, Try.ntmps107
    go_wp2_with fail
    refine (l1Is_ok _ _).mono ?_
    rintro e w' ⟨rfl, rfl⟩
    rw [H.out]
    go_wp2_with fail
    refine (l2Turned_some ⟨1, 0, 0, 0, 0, 0, 0, 0⟩ _ _ (by omega)).mono ?_
    rintro e w1 ⟨x, rfl, hb1⟩
    have h0 := two_new w zero8 ⟨1, 0, 0, 0, 0, 0, 0, 0⟩ 51
    have hz := blk_kept h0.1 hb1
    have hb := kept_trans h0.2.2 hb1
    have hB := kept_set8 hb (g := w.heap.size) (by omega) x
    have hZ := blk_set8 hz x
    obtain ⟨r0, r1, r2, r3, r4, r5, r6, r7⟩ := blk_cells hz
    obtain ⟨f0, f1, f2, f3, f4, f5, f6, f7⟩ := blk_frees hz
    clear h0 hb1 hb
    rw [val_spell]
    go_wp2_with fail
    change bodyPost _ _ _ _ _ (set8w w1 w.heap.size x)
    generalize set8w w1 w.heap.size x = wz at *
    obtain ⟨z0, z1, z2, z3, z4, z5, z6, z7⟩ := blk_cells hZ
    exact bodyPost_ret (v := .tuple #[x.val, .bool true]) (by simp [results, Try.results107, go_sem, val_spell, z0, z1, z2, z3, z4, z5, z6, z7]) rfl ⟨_, _, rfl, hB⟩
  · have H : Hid (decide (0 ≤ n ∧ n ≤ 23) = false) := by simpa [Hid] using h
    have Hn := hide h
    clear h
    go_enter Try.func107, Try.ntmps107
    go_wp2_with fail
    refine (l1Is_ok _ _).mono ?_
    rintro e w' ⟨rfl, rfl⟩
    rw [H.out]
    go_wp2_with fail
    exact bodyPost_ret (v := .tuple #[zero8.val, .bool false]) (by simp [results, Try.results107, go_sem, val_spell, zero8]) rfl ⟨_, _, rfl, kept_new _ _⟩
end Go.Proofs.Ytnlmiemnblppbaa
