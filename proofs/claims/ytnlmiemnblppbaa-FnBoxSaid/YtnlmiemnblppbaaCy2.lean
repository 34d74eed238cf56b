/-
  Cycs: copies and comparisons.
-/
import Derived.Test.YtnlmiemnblppbaaCy1
import Derived.Deep.RegionHeld3
import Derived.BigRegion
namespace Go.Proofs.Ytnlmiemnblppbaa
open Go.RowKit

set_option maxRecDepth 100000 in
set_option maxHeartbeats 2000000 in
theorem toIntA8_ok (c : C8) (w : World) :
    Calls Try.prog 80 #[c.val] w fun e w' => e = .returned c.val ∧ Below w.heap.size w w' := by
  rw [val_spell]
  go_enter Try.func80, Try.ntmps80
  go_wp2_with fail
  go_loopw [4] (fun i wr => ∃ t : Nat, t ≤ 8 ∧ i = .int .i64 t ∧ Below w.heap.size w wr ∧ wr.heap[w.heap.size]? = some (.cells c.arr 49 (0, 0)) ∧ wr.heap[w.heap.size + 1]? = some (.cells zero8.arr 49 (0, 0)) ∧ wr.heap[w.heap.size + 2]? = some (.cells (mix c zero8 t).arr 49 (0, 0))) (fun i _ => 8 - (intOf i).toNat)
  case atStart =>
    refine ⟨0, by omega, rfl, kept_alloc (kept_alloc (kept_new _ _) _) _, ?_, ?_, ?_⟩
    · rw [heap_alloc_old _ _ (by simp; omega), heap_alloc_old _ _ (by simp)]
      exact heap_alloc_new _ _
    · rw [heap_alloc_old _ _ (by simp)]
      have := heap_alloc_new (w.alloc (.cells c.arr 49)) (.cells zero8.arr 49 (0, 0))
      rw [show (w.alloc (.cells c.arr 49)).heap.size = w.heap.size + 1 from by simp] at this
      exact this
    · rw [mix_zero]
      have := heap_alloc_new ((w.alloc (.cells c.arr 49)).alloc (.cells zero8.arr 49)) (.cells zero8.arr 49 (0, 0))
      rw [show ((w.alloc (.cells c.arr 49)).alloc (.cells zero8.arr 49)).heap.size = w.heap.size + 2 from by simp] at this
      exact this
  case round =>
    obtain ⟨t, ht, rfl, hb, h0, h1, h2⟩ := hrel
    have H0 := hide h0
    have H1 := hide h1
    have H2 := hide h2
    obtain ⟨_, c0, _⟩ := row8 h0
    obtain ⟨p1, c1, f1⟩ := row8 h1
    obtain ⟨p2, c2, f2⟩ := row8 h2
    clear h0 h1 h2
    by_cases hlt : t < 8
    · have e0 := c0 t hlt
      have e2 := c2 t hlt
      clear c0 c1 c2 p1 p2 f1
      have Hm := hide (mix_set c zero8 t hlt)
      generalize c.get t = x at e0 Hm
      go_wp2_with fail
      go_roundw
      case rel => 
        refine ⟨t + 1, by omega, by go_num, kept_set hb (by show _ ≤ _ + 1 + 1; omega) _, ?_, ?_, ?_⟩
        · rw [heap_setCell_other _ _ _ _ (by show _ ≠ _ + 1 + 1; omega)]
          exact H0.out
        · rw [heap_setCell_other _ _ _ _ (by show _ + 1 ≠ _ + 1 + 1; omega)]
          exact H1.out
        · rw [← Hm.out]
          exact heap_setCell_same _ _ _ _ _ _ H2.out
      case measure => simp [intOf]; omega
    · obtain rfl : t = 8 := by omega
      rw [mix_all] at p2
      clear c0 c1 c2 f2 H0 H2
      simp only [zero8] at p1
      obtain ⟨p10, p11, p12, p13, p14, p15, p16, p17⟩ := p1
      obtain ⟨p20, p21, p22, p23, p24, p25, p26, p27⟩ := p2
      have h8 := set8 c H1.out
      have hb8 := hide (kept_set8 hb (g := w.heap.size + 1) (by omega) c)
      have H8 := hide (row8 h8).1
      clear h8 H1
      go_wp2_with fail
      change bodyPost _ _ _ _ _ (set8w wr (w.heap.size + 1) c)
      generalize set8w wr (w.heap.size + 1) c = wz at hb8 H8
      obtain ⟨p0, p1, p2, p3, p4, p5, p6, p7⟩ := H8.out
      exact bodyPost_ret (v := .agg #[.int .i64 c.a0, .int .i64 c.a1, .int .i64 c.a2, .int .i64 c.a3, .int .i64 c.a4, .int .i64 c.a5, .int .i64 c.a6, .int .i64 c.a7]) (by simp [results, Try.results80, go_sem, p0, p1, p2, p3, p4, p5, p6, p7]) rfl ⟨rfl, hb8.out⟩

set_option maxRecDepth 100000 in
set_option maxHeartbeats 4000000 in
theorem toCyc_ok (c : C8) (w : World) :
    Calls Try.prog 53 #[c.val] w fun e w' => e = .returned c.val ∧ Below w.heap.size w w' := by
  rw [val_spell]
  go_enter Try.func53, Try.ntmps53
  go_wp2_with fail
  refine (toIntA8_ok c _).mono ?_
  rintro e w1 ⟨rfl, hb1⟩
  have hb := kept_trans (kept_alloc (kept_alloc (kept_new w (.cells c.arr 80)) (.cells zero8.arr 51)) (.cells zero8.arr 51)) hb1
  obtain ⟨-, h1, h2⟩ := three w (.cells c.arr 80) (.cells zero8.arr 51) (.cells zero8.arr 51)
  have h1 := heap_kept hb1 h1
  have h2 := heap_kept hb1 h2
  have H8 : Hid (((set8w (set8w w1 (w.heap.size + 2) c) (w.heap.size + 1) c).heap[w.heap.size + 1]? = some (.cells c.arr 51 (0, 0)))) := by
    refine hide (set8 (d := zero8) c ?_)
    rw [show (set8w w1 (w.heap.size + 2) c).heap[w.heap.size + 1]? = w1.heap[w.heap.size + 1]? from by
      unfold set8w
      repeat rw [heap_setCell_other _ _ _ _ (by show _ + 1 ≠ _ + 2; omega)]]
    exact h1
  have hb8 := hide (kept_set8 (kept_set8 hb (g := w.heap.size + 2) (by omega) c) (g := w.heap.size + 1) (by omega) c)
  have hrow := row8 (set8 (d := zero8) c h2)
  obtain ⟨q1, -, f1⟩ := row8 h1
  obtain ⟨q2, -, f2⟩ := row8 h2
  simp only [zero8] at q1 q2
  obtain ⟨q10, q11, q12, q13, q14, q15, q16, q17⟩ := q1
  obtain ⟨q20, q21, q22, q23, q24, q25, q26, q27⟩ := q2
  clear h1 h2 hb hb1 hrow
  rw [val_spell]
  go_wp2_with fail
  change bodyPost _ _ _ _ _ (set8w (set8w w1 (w.heap.size + 2) c) (w.heap.size + 1) c)
  generalize set8w (set8w w1 (w.heap.size + 2) c) (w.heap.size + 1) c = wz at hb8 H8
  obtain ⟨⟨p0, p1, p2, p3, p4, p5, p6, p7⟩, -, -⟩ := row8 H8.out
  exact bodyPost_ret (v := .agg #[.int .i64 c.a0, .int .i64 c.a1, .int .i64 c.a2, .int .i64 c.a3, .int .i64 c.a4, .int .i64 c.a5, .int .i64 c.a6, .int .i64 c.a7]) (by simp [results, Try.results53, go_sem, p0, p1, p2, p3, p4, p5, p6, p7]) rfl ⟨rfl, hb8.out⟩

set_option maxRecDepth 100000 in
set_option maxHeartbeats 1000000 in
theorem eqIntA8_ok (c : C8) (w : World) :
    Calls Try.prog 88 #[c.val, c.val] w fun e w' => e = .returned (.bool true) ∧ Below w.heap.size w w' := by
  rw [val_spell]
  go_enter Try.func88, Try.ntmps88
  go_wp2_with fail
  go_loopw [5] (fun i wr => ∃ t : Nat, t ≤ 8 ∧ i = .int .i64 t ∧ Below w.heap.size w wr ∧ wr.heap[w.heap.size]? = some (.cells c.arr 49 (0, 0)) ∧ wr.heap[w.heap.size + 1]? = some (.cells c.arr 49 (0, 0))) (fun i _ => 8 - (intOf i).toNat)
  case atStart =>
    have h3 := three w (.cells c.arr 49) (.cells c.arr 49) (.cells c.arr 49)
    refine ⟨0, by omega, rfl, kept_alloc (kept_new _ _) _, ?_, ?_⟩
    · rw [heap_alloc_old _ _ (by simp)]
      exact heap_alloc_new _ _
    · have := heap_alloc_new (w.alloc (.cells c.arr 49)) (.cells c.arr 49)
      rwa [show (w.alloc (.cells c.arr 49)).heap.size = w.heap.size + 1 from by simp] at this
  case round =>
    obtain ⟨t, ht, rfl, hb, h0, h1⟩ := hrel
    have H0 := hide h0
    have H1 := hide h1
    have c0 := (row8 h0).2.1
    have c1 := (row8 h1).2.1
    clear h0 h1
    by_cases hlt : t < 8
    · have e0 := c0 t hlt
      have e1 := c1 t hlt
      clear c0 c1
      generalize c.get t = x at e0 e1
      go_wp2_with fail
      go_quiet (fail)
      go_wp2_with fail
      go_roundw
      case rel => exact ⟨t + 1, by omega, by go_num, kept_trans hb (kept_drewN _ _), heap_kept (kept_drewN _ _) H0.out, heap_kept (kept_drewN _ _) H1.out⟩
      case measure => simp [intOf]; omega
    · clear c0 c1
      go_wp2_with fail
      go_ret
      exact ⟨rfl, hb⟩

end Go.Proofs.Ytnlmiemnblppbaa
