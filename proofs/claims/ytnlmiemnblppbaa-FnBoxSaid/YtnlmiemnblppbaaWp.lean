/-
  Sums of two Cycs: l2Sum with the factor 1, and plus.
-/
import Derived.Test.YtnlmiemnblppbaaWv
import Derived.Outline
namespace Go.Proofs.Ytnlmiemnblppbaa
open Go.RowKit

theorem C8.add_get (a b : C8) (j : Nat) (h : j < 8) : (a.add b).get j = a.get j + b.get j := by
  rcases eight h with rfl | rfl | rfl | rfl | rfl | rfl | rfl | rfl <;> rfl
theorem mix_get (c d : C8) (t : Nat) (h : t < 8) : (mix c d t).get t = d.get t := by
  rcases eight h with rfl | rfl | rfl | rfl | rfl | rfl | rfl | rfl <;> simp [mix, C8.get]

theorem blk_mix {w : World} {B : Nat} {T : TypeId} {c d : C8} {t : Nat} (h : Blk w B T (mix c d t)) (ht : t < 8) : Blk (w.setCell ⟨B, t, none⟩ (.int .i64 (c.get t))) B T (mix c d (t + 1)) := by
  unfold Blk
  rw [heap_setCell_same w B t _ _ _ h, mix_set c d t ht]

def midC (c : C8) (M : Int) : Prop := ∀ j, j < 8 → -M ≤ c.get j ∧ c.get j ≤ M

set_option maxRecDepth 100000 in
set_option maxHeartbeats 2000000 in
theorem l2Sum_ok (a b : C8) (w : World) (ha : a.small 1000000000) (hb0 : b.small 1000000000) :
    Calls Try.prog 120 #[a.val, .int .i64 1, b.val] w fun e w' => e = .returned (a.add b).val ∧ Below w.heap.size w w' := by
  have Ha := hide ha
  have Hb := hide hb0
  have h3 := hide (three_new w a b zero8 51)
  clear ha hb0
  rw [val_spell, val_spell]
  go_enter Try.func120, Try.ntmps120
  go_wp2_with fail
  go_loopw [7] (fun i wr => ∃ t : Nat, t ≤ 8 ∧ i = .int .i64 t ∧ Blk wr w.heap.size 51 (mix (a.add b) a t) ∧ Blk wr (w.heap.size + 1) 51 b ∧ Blk wr (w.heap.size + 1 + 1) 51 zero8 ∧ Below w.heap.size w wr) (fun i _ => 8 - (intOf i).toNat)
  case atStart => exact ⟨0, by omega, rfl, by rw [mix_zero]; exact h3.out.1, h3.out.2.1, h3.out.2.2.1, h3.out.2.2.2⟩
  case round =>
    obtain ⟨t, ht, rfl, h0, h1, h2, hb⟩ := hrel
    clear h3
    by_cases hlt : t < 8
    · have c0 := blk_cell h0 t hlt
      rw [mix_get _ _ t hlt] at c0
      have c1 := blk_cell h1 t hlt
      have f0 := blk_free h0 t
      have hx := Ha.out t hlt
      have hy := Hb.out t hlt
      have hg := C8.add_get a b t hlt
      have H0 := blk_mix h0 hlt
      rw [hg] at H0
      have H1 := blk_other h1 t (.int .i64 (a.get t + b.get t)) (show w.heap.size + 1 ≠ w.heap.size by omega)
      have H2 := blk_other h2 t (.int .i64 (a.get t + b.get t)) (show w.heap.size + 1 + 1 ≠ w.heap.size by omega)
      have HB := kept_set hb (p := ⟨w.heap.size, t, none⟩) (by simp) (.int .i64 (a.get t + b.get t))
      clear h0 h1 h2 hb hg
      generalize a.get t = x at *
      generalize b.get t = y at *
      have K0 := hide H0
      have K1 := hide H1
      have K2 := hide H2
      have i1 : IntKind.i64.wrap ((1 : Int) * y) = y := by rw [Int.one_mul]; exact IntWalk.i64_in _ (by omega)
      have i2 : IntKind.i64.wrap y = y := IntWalk.i64_in _ (by omega)
      have i3 : IntKind.i64.wrap (x + y) = x + y := IntWalk.i64_in _ (by omega)
      clear H0 H1 H2
      go_wp2_with fail
      go_still_tail 14, (by kernel_rfl)
      go_wp2_with fail
      go_roundw
      case rel => exact ⟨t + 1, by omega, by go_num, K0.out, K1.out, K2.out, HB.drew⟩
      case measure => simp [intOf]; omega
    · obtain rfl : t = 8 := by omega
      rw [mix_all] at h0
      obtain ⟨s, hs⟩ : ∃ s, s = a.add b := ⟨_, rfl⟩
      rw [← hs] at h0
      have Hs := hide hs
      clear hs
      obtain ⟨p0, p1, p2, p3, p4, p5, p6, p7⟩ := blk_cells h0
      obtain ⟨q0, q1, q2, q3, q4, q5, q6, q7⟩ := blk_cells h2
      have fz := blk_free h2
      have H8 := hide (blk_set8 h2 s)
      have hb8 := hide (kept_set8 hb (g := w.heap.size + 1 + 1) (by omega) s)
      simp only [zero8] at q0 q1 q2 q3 q4 q5 q6 q7
      clear h0 h1 h2 hb
      go_wp2_with fail
      change bodyPost _ _ _ _ _ (set8w wr (w.heap.size + 1 + 1) s)
      generalize set8w wr (w.heap.size + 1 + 1) s = wz at hb8 H8
      obtain ⟨z0, z1, z2, z3, z4, z5, z6, z7⟩ := blk_cells H8.out
      exact bodyPost_ret (v := s.val) (by simp [results, Try.results120, go_sem, val_spell, z0, z1, z2, z3, z4, z5, z6, z7]) rfl ⟨by rw [Hs.out], hb8.out⟩

end Go.Proofs.Ytnlmiemnblppbaa
