/-
  Cycs: arrays of eight numbers; lists of them as they lie in memory; the tests on one Cyc.
-/
import Derived.Test.YtnlmiemnblppbaaIn
import Derived.Test.YtnlmiemnblppbaaC8
namespace Go.Proofs.Ytnlmiemnblppbaa
open Go.RowKit

theorem idx_run (c : C8) (t : Nat) (h : t < 8) (W : World) : (Instr.index 49 (.agg #[.int .i64 c.a0, .int .i64 c.a1, .int .i64 c.a2, .int .i64 c.a3, .int .i64 c.a4, .int .i64 c.a5, .int .i64 c.a6, .int .i64 c.a7]) (.int .i64 t)).run Try.prog W = .ok (.int .i64 (c.get t)) W := by
  rcases eight h with rfl | rfl | rfl | rfl | rfl | rfl | rfl | rfl <;> kernel_rfl

set_option maxHeartbeats 1000000 in
theorem small_ok (c : C8) (n : Int) (w : World) (h : c.small n) (hn0 : 0 ≤ n) (hn1 : n ≤ 1000000) :
    Calls Try.prog 91 #[c.val, .int .i64 n] w fun e w' => e = .returned (.bool true) ∧ Below w.heap.size w w' := by
  have H := hide h
  have harr := c.get_arr
  clear h
  unfold C8.val
  go_enter Try.func91, Try.ntmps91
  go_wp2_with fail
  go_loop [6, 9] (fun q i => ∃ t : Nat, t ≤ 8 ∧ i = .int .i64 t) (fun _ i => 8 - (intOf i).toNat)
  case atStart => exact ⟨0, by omega, rfl⟩
  case round =>
    obtain ⟨t, ht, rfl⟩ := hrel
    by_cases hlt : t < 8
    · have h1 := idx_run c t hlt
      have hs := H.out t hlt
      generalize c.get t = x at h1 hs
      have Hs := hide hs
      clear hs harr
      go_wp2_with fail
      refine (within_t x _ _ _ Hs.out.1 Hs.out.2).mono ?_
      rintro e w' ⟨rfl, rfl⟩
      go_wp2_with fail
      go_round
      case rel => exact ⟨t + 1, by omega, by go_num⟩
      case measure => simp [intOf]; omega
    · clear harr
      go_wp2_with fail
      go_ret
      exact ⟨rfl, kept_new _ _⟩

set_option maxHeartbeats 1000000 in
theorem small_f (c : C8) (n : Int) (w : World) (h : ¬ c.small n) (hn0 : 0 ≤ n) (hn1 : n ≤ 1000000) :
    Calls Try.prog 91 #[c.val, .int .i64 n] w fun e w' => e = .returned (.bool false) ∧ Below w.heap.size w w' := by
  have H := hide h
  have harr := c.get_arr
  clear h
  unfold C8.val
  go_enter Try.func91, Try.ntmps91
  go_wp2_with fail
  go_loop [6, 9] (fun q i => ∃ t : Nat, t ≤ 8 ∧ i = .int .i64 t ∧ ∀ j, j < t → -n ≤ c.get j ∧ c.get j ≤ n) (fun _ i => 8 - (intOf i).toNat)
  case atStart => exact ⟨0, by omega, rfl, fun j h => absurd h (by omega)⟩
  case round =>
    obtain ⟨t, ht, rfl, hup⟩ := hrel
    have Hup := hide hup
    clear hup
    by_cases hlt : t < 8
    · have h1 := idx_run c t hlt
      clear harr
      by_cases hs : -n ≤ c.get t ∧ c.get t ≤ n
      · have Hs : Hid (∀ j, j < t + 1 → -n ≤ c.get j ∧ c.get j ≤ n) := fun j hj => if e : j < t then Hup.out j e else by
          obtain rfl : j = t := by omega
          exact hs
        generalize c.get t = x at h1 hs
        have Hs1 := hide hs
        clear hs
        go_wp2_with fail
        refine (within_t x _ _ _ Hs1.out.1 Hs1.out.2).mono ?_
        rintro e w' ⟨rfl, rfl⟩
        go_wp2_with fail
        go_round
        case rel => exact ⟨t + 1, by omega, by go_num, Hs.out⟩
        case measure => simp [intOf]; omega
      · generalize c.get t = x at h1 hs
        have Hs1 := hide hs
        clear hs
        go_wp2_with fail
        refine (within_f x _ _ _ Hs1.out).mono ?_
        rintro e w' ⟨rfl, rfl⟩
        go_wp2_with fail
        go_ret
        exact ⟨rfl, kept_new _ _⟩
    · exact absurd (fun j hj => Hup.out j (by omega)) H.out

theorem small_ok' (c : C8) (n : Int) (w : World) (hn0 : 0 ≤ n) (hn1 : n ≤ 1000000) :
    Calls Try.prog 91 #[c.val, .int .i64 n] w fun e w' => e = .returned (.bool (c.smallB n)) ∧ Below w.heap.size w w' := by
  by_cases h : c.small n
  · rw [show c.smallB n = true from decide_eq_true h]; exact small_ok c n w h hn0 hn1
  · rw [show c.smallB n = false from decide_eq_false h]; exact small_f c n w h hn0 hn1

theorem valid_ok (c : C8) (w : World) :
    Calls Try.prog 59 #[c.val] w fun e w' => e = .returned (.bool (c.smallB 1000000)) ∧ Below w.heap.size w w' := by
  rw [val_spell]
  go_enter Try.func59, Try.ntmps59
  go_wp2_with fail
  refine (small_ok' c _ _ (by decide) (by decide)).mono ?_
  rintro e w1 ⟨rfl, hb1⟩
  go_wp2_with fail
  go_ret
  exact ⟨rfl, kept_trans (kept_new _ _) hb1⟩

theorem rowNot_ok (c : C8) (w : World) :
    Calls Try.prog 83 #[c.val] w fun e w' => e = .returned (.bool (!c.smallB 1000000)) ∧ Below w.heap.size w w' := by
  rw [val_spell]
  go_enter Try.func83, Try.ntmps83
  go_wp2_with fail
  refine (valid_ok c _).mono ?_
  rintro e w1 ⟨rfl, hb1⟩
  go_wp2_with fail
  go_ret
  exact ⟨rfl, kept_trans (kept_new _ _) hb1⟩

set_option maxHeartbeats 1000000 in
theorem cycValid_ok (c : C8) (w : World) (h : c.small 1000000) :
    Calls Try.prog 77 #[c.val] w fun e w' => e = .returned (.bool true) ∧ Below w.heap.size w w' := by
  have H := hide h
  have hbox := boxed w c 51
  clear h
  unfold C8.val
  go_enter Try.func77, Try.ntmps77
  go_wp2_with fail
  go_loopw [3] (fun i wr => ∃ t : Nat, t ≤ 8 ∧ i = .int .i64 t ∧ Below w.heap.size w wr ∧ ∀ j, j < 8 → wr.cell? ⟨w.heap.size, j, none⟩ = some (.int .i64 (c.get j))) (fun i _ => 8 - (intOf i).toNat)
  case atStart => exact ⟨0, by omega, rfl, kept_new _ _, hbox⟩
  case round =>
    obtain ⟨t, ht, rfl, hb, hc⟩ := hrel
    clear hbox
    have Hc := hide hc
    by_cases hlt : t < 8
    · have h1 := hc t hlt
      have hs := H.out t hlt
      clear hc
      generalize c.get t = x at h1 hs
      have Hs := hide hs
      clear hs
      go_wp2_with fail
      refine (l6In_t x _ _ _ Hs.out.1 Hs.out.2).mono ?_
      rintro e w' ⟨rfl, rfl⟩
      go_wp2_with fail
      go_roundw
      case rel => exact ⟨t + 1, by omega, by go_num, hb, Hc.out⟩
      case measure => simp [intOf]; omega
    · clear hc
      go_wp2_with fail
      go_ret
      exact ⟨rfl, hb⟩

set_option maxHeartbeats 1000000 in
theorem cycValid_f (c : C8) (w : World) (h : ¬ c.small 1000000) :
    Calls Try.prog 77 #[c.val] w fun e w' => e = .returned (.bool false) ∧ Below w.heap.size w w' := by
  have H := hide h
  have hbox := boxed w c 51
  clear h
  unfold C8.val
  go_enter Try.func77, Try.ntmps77
  go_wp2_with fail
  go_loopw [3] (fun i wr => ∃ t : Nat, t ≤ 8 ∧ i = .int .i64 t ∧ Below w.heap.size w wr ∧ (∀ j, j < 8 → wr.cell? ⟨w.heap.size, j, none⟩ = some (.int .i64 (c.get j))) ∧ ∀ j, j < t → -1000000 ≤ c.get j ∧ c.get j ≤ 1000000) (fun i _ => 8 - (intOf i).toNat)
  case atStart => exact ⟨0, by omega, rfl, kept_new _ _, hbox, fun j h => absurd h (by omega)⟩
  case round =>
    obtain ⟨t, ht, rfl, hb, hc, hup⟩ := hrel
    clear hbox
    have Hc := hide hc
    have Hup := hide hup
    clear hup
    by_cases hlt : t < 8
    · have h1 := hc t hlt
      clear hc
      by_cases hs : -1000000 ≤ c.get t ∧ c.get t ≤ 1000000
      · have Hs : Hid (∀ j, j < t + 1 → -1000000 ≤ c.get j ∧ c.get j ≤ 1000000) := fun j hj => if e : j < t then Hup.out j e else by
          obtain rfl : j = t := by omega
          exact hs
        generalize c.get t = x at h1 hs
        have Hs1 := hide hs
        clear hs
        go_wp2_with fail
        refine (l6In_t x _ _ _ Hs1.out.1 Hs1.out.2).mono ?_
        rintro e w' ⟨rfl, rfl⟩
        go_wp2_with fail
        go_roundw
        case rel => exact ⟨t + 1, by omega, by go_num, hb, Hc.out, Hs.out⟩
        case measure => simp [intOf]; omega
      · generalize c.get t = x at h1 hs
        have Hs1 := hide hs
        clear hs
        go_wp2_with fail
        refine (l6In_f x _ _ _ Hs1.out).mono ?_
        rintro e w' ⟨rfl, rfl⟩
        go_wp2_with fail
        go_ret
        exact ⟨rfl, hb⟩
    · exact absurd (fun j hj => Hup.out j (by omega)) H.out

theorem cycValid_ok' (c : C8) (w : World) :
    Calls Try.prog 77 #[c.val] w fun e w' => e = .returned (.bool (c.smallB 1000000)) ∧ Below w.heap.size w w' := by
  by_cases h : c.small 1000000
  · rw [show c.smallB 1000000 = true from decide_eq_true h]; exact cycValid_ok c w h
  · rw [show c.smallB 1000000 = false from decide_eq_false h]; exact cycValid_f c w h

end Go.Proofs.Ytnlmiemnblppbaa
