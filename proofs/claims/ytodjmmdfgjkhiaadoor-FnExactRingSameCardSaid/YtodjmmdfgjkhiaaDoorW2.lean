/-
  Cycs: copies and comparisons.
-/
import Derived.Test.YtodjmmdfgjkhiaaDoorC8
import Derived.Test.YtodjmmdfgjkhiaaDoorIn
import Derived.Deep.RegionHeld3
import Derived.BigRegion
namespace Go.Proofs.YtodjmmdfgjkhiaaDoor
open Go.RowKit

set_option maxHeartbeats 1000000 in
theorem eqIntA8_ok (c : C8) (w : World) :
    Calls Tryd.prog 63 #[c.val, c.val] w fun e w' => e = .returned (.bool true) ∧ Below w.heap.size w w' := by
  rw [val_spell]
  go_enter Tryd.func63, Tryd.ntmps63
  go_wp2_with fail
  go_loopw [5] (fun i wr => ∃ t : Nat, t ≤ 8 ∧ i = .int .i64 t ∧ Below w.heap.size w wr ∧ wr.heap[w.heap.size]? = some (.cells c.arr 34 (0, 0)) ∧ wr.heap[w.heap.size + 1]? = some (.cells c.arr 34 (0, 0))) (fun i _ => 8 - (intOf i).toNat)
  case atStart =>
    have h3 := three w (.cells c.arr 34) (.cells c.arr 34) (.cells c.arr 34)
    refine ⟨0, by omega, rfl, kept_alloc (kept_new _ _) _, ?_, ?_⟩
    · rw [heap_alloc_old _ _ (by simp)]
      exact heap_alloc_new _ _
    · have := heap_alloc_new (w.alloc (.cells c.arr 34)) (.cells c.arr 34)
      rwa [show (w.alloc (.cells c.arr 34)).heap.size = w.heap.size + 1 from by simp] at this
  case round =>
    obtain ⟨t, ht, rfl, hb, h0, h1⟩ := hrel
    have H0 := hide h0
    have H1 := hide h1
    have c0 := (row8 h0).2.1
    have c1 := (row8 h1).2.1
    clear h0 h1
    by_cases hlt : t < 8
    · have e0 := c0 t hlt
      have e1 := c1 t hlt
      clear c0 c1
      generalize c.get t = x at e0 e1
      go_wp2_with fail
      go_quiet (fail)
      go_wp2_with fail
      go_roundw
      case rel => exact ⟨t + 1, by omega, by go_num, kept_trans hb (kept_drewN _ _), heap_kept (kept_drewN _ _) H0.out, heap_kept (kept_drewN _ _) H1.out⟩
      case measure => simp [intOf]; omega
    · clear c0 c1
      go_wp2_with fail
      go_ret
      exact ⟨rfl, hb⟩

set_option maxHeartbeats 1000000 in
theorem eqCyc_ok (c : C8) (w : World) :
    Calls Tryd.prog 46 #[c.val, c.val] w fun e w' => e = .returned (.bool true) ∧ Below w.heap.size w w' := by
  rw [val_spell]
  go_enter Tryd.func46, Tryd.ntmps46
  go_wp2_with fail
  refine (eqIntA8_ok c _).mono ?_
  rintro e w1 ⟨rfl, hb1⟩
  go_wp2_with fail
  go_ret
  exact ⟨rfl, kept_trans (kept_alloc (kept_new _ _) _) hb1⟩

end Go.Proofs.YtodjmmdfgjkhiaaDoor
