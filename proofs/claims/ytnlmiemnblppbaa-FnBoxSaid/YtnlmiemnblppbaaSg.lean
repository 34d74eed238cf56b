/-
  The single point of an exact point: both sides.
-/
import Derived.Test.YtnlmiemnblppbaaCy1
import Derived.Test.YtnlmiemnblppbaaFt
namespace Go.Proofs.Ytnlmiemnblppbaa
open Go.RowKit

/-- The roots, in double words. -/
def rootD (k : Nat) : Nat × Nat := match k with
  | 0 => (4607182418800017408, 0)
  | 1 => (4606875505927962389, 4598334089338226320)
  | 2 => (4605975682916830378, 4602678819172646912)
  | 3 => (4604544271217802189, 4604544271217802189)
  | 4 => (4602678819172646912, 4605975682916830378)
  | 5 => (4598334089338226320, 4606875505927962389)
  | 6 => (0, 4607182418800017408)
  | _ => (13821706126193002128, 4606875505927962389)
def rootS (k : Nat) : Nat × Nat := ((floatToFloatBits .f64 (rootD k).1 .f32).getD 0, (floatToFloatBits .f64 (rootD k).2 .f32).getD 0)

theorem root_ok (k : Nat) (h : k < 8) : cConvBits .f64 (rootD k).1 (rootD k).2 .f32 = some (rootS k) ∧ fieldW Ieee.single (rootS k).1 ≤ 127 ∧ fieldW Ieee.single (rootS k).2 ≤ 127 := by
  have : ∀ k : Fin 8, cConvBits .f64 (rootD k.1).1 (rootD k.1).2 .f32 = some (rootS k.1) ∧ fieldW Ieee.single (rootS k.1).1 ≤ 127 ∧ fieldW Ieee.single (rootS k.1).2 ≤ 127 := by decide +kernel
  exact this ⟨k, h⟩

def prodW (c : Int) (r : Nat) : Nat := (Ieee.single.mul (floatOfInt .f32 c) r).getD 0
def addSg (a b : Nat) : Nat := (Ieee.single.add a b).getD 0
def sumZ (c : C8) : Nat → Nat × Nat
  | 0 => (0, 0)
  | t + 1 => (addSg (sumZ c t).1 (prodW (c.get t) (rootS t).1), addSg (sumZ c t).2 (prodW (c.get t) (rootS t).2))

theorem prod_ok (c : Int) (r : Nat) (h1 : -1000000 ≤ c) (h2 : c ≤ 1000000) (hr : fieldW Ieee.single r ≤ 127) : Ieee.single.mul (floatOfInt .f32 c) r = some (prodW c r) ∧ fieldW Ieee.single (prodW c r) ≤ 149 := by
  obtain ⟨p, hp, hf⟩ := mul_fin _ r 147 127 149 (int_fin c 20 147 (by omega) (by decide)) hr (by decide) (by decide) (by decide) (by decide) (by decide) (by decide)
  have e : prodW c r = p := by unfold prodW; rw [hp]; rfl
  rw [e]
  exact ⟨hp, hf⟩

theorem add_ok (a b e : Nat) (ha : fieldW Ieee.single a ≤ e) (hb : fieldW Ieee.single b ≤ e) (h1 : 1 ≤ e) (h2 : e ≤ 254) : Ieee.single.add a b = some (addSg a b) ∧ fieldW Ieee.single (addSg a b) ≤ e + 2 := by
  obtain ⟨p, hp, hf⟩ := sum_fin a b e ha hb h1 h2
  have e' : addSg a b = p := by unfold addSg; rw [hp]; rfl
  rw [e']
  exact ⟨hp, hf⟩

theorem sumZ_fin (c : C8) (h : c.small 1000000) (t : Nat) (ht : t ≤ 8) : fieldW Ieee.single (sumZ c t).1 ≤ 149 + 2 * t ∧ fieldW Ieee.single (sumZ c t).2 ≤ 149 + 2 * t := by
  induction t with
  | zero =>
    show fieldW Ieee.single 0 ≤ 149 + 2 * 0 ∧ fieldW Ieee.single 0 ≤ 149 + 2 * 0
    decide
  | succ t ih =>
    obtain ⟨i1, i2⟩ := ih (by omega)
    obtain ⟨_, r1, r2⟩ := root_ok t (by omega)
    obtain ⟨c1, c2⟩ := h t (by omega)
    have p1 := (prod_ok (c.get t) (rootS t).1 c1 c2 r1).2
    have p2 := (prod_ok (c.get t) (rootS t).2 c1 c2 r2).2
    exact ⟨(add_ok _ _ (149 + 2 * t) i1 (by omega) (by omega) (by omega)).2, (add_ok _ _ (149 + 2 * t) i2 (by omega) (by omega) (by omega)).2⟩

theorem sumZ_step (c : C8) (h : c.small 1000000) (t : Nat) (ht : t < 8) : Ieee.single.mul (floatOfInt .f32 (c.get t)) (rootS t).1 = some (prodW (c.get t) (rootS t).1) ∧ Ieee.single.mul (floatOfInt .f32 (c.get t)) (rootS t).2 = some (prodW (c.get t) (rootS t).2) ∧
    cSumBits .add .f32 (sumZ c t).1 (sumZ c t).2 (prodW (c.get t) (rootS t).1) (prodW (c.get t) (rootS t).2) = some ((sumZ c (t + 1)).1, (sumZ c (t + 1)).2) := by
  obtain ⟨i1, i2⟩ := sumZ_fin c h t (by omega)
  obtain ⟨_, r1, r2⟩ := root_ok t (by omega)
  obtain ⟨c1, c2⟩ := h t (by omega)
  have p1 := prod_ok (c.get t) (rootS t).1 c1 c2 r1
  have p2 := prod_ok (c.get t) (rootS t).2 c1 c2 r2
  have a1 := (add_ok _ _ (149 + 2 * t) i1 (Nat.le_trans p1.2 (by omega)) (by omega) (by omega)).1
  have a2 := (add_ok _ _ (149 + 2 * t) i2 (Nat.le_trans p2.2 (by omega)) (by omega) (by omega)).1
  refine ⟨p1.1, p2.1, ?_⟩
  unfold cSumBits
  show (Ieee.single.add _ _).bind _ = _
  rw [a1]
  show (Ieee.single.add _ _).bind _ = _
  rw [a2]
  rfl

theorem l4Wide_ok (k : Nat) (h : k < 8) (w : World) : Calls Try.prog 79 #[.int .i64 k] w fun e w' => e = .returned (.complex .f64 (rootD k).1 (rootD k).2) ∧ w = w' := by
  rcases eight h with rfl | rfl | rfl | rfl | rfl | rfl | rfl | rfl
  all_goals
    go_enter Try.func79, Try.ntmps79
    go_wp2_with fail
    go_ret
    exact ⟨rfl, rfl⟩

theorem wideRoot_ok (k : Nat) (h : k < 8) (w : World) : Calls Try.prog 86 #[.int .i64 k] w fun e w' => e = .returned (.complex .f64 (rootD k).1 (rootD k).2) ∧ w = w' := by
  rcases eight h with rfl | rfl | rfl | rfl | rfl | rfl | rfl | rfl
  all_goals
    go_enter Try.func86, Try.ntmps86
    go_wp2_with fail
    go_ret
    exact ⟨rfl, rfl⟩

theorem conv_root (k : Nat) (h : k < 8) (W : World) : (convert 83 46 (.complex .f64 (rootD k).1 (rootD k).2)).run Try.prog W = .ok (.complex .f32 (rootS k).1 (rootS k).2) W :=
  run_convert_complex W _ _ .f64 .f32 _ _ _ _ (by rw [Try.underlying83]; rfl) Try.underlying46 (root_ok k h).1

set_option maxHeartbeats 1000000 in
theorem specSingle_ok (c : C8) (w : World) (h : c.small 1000000) :
    Calls Try.prog 52 #[c.val] w fun e w' => e = .returned (.tuple #[.complex .f32 (sumZ c 8).1 (sumZ c 8).2, .bool true]) ∧ Below w.heap.size w w' := by
  have H := hide h
  have hbox := boxed w c 51
  have hval : ∀ W : World, Hid (Calls Try.prog 77 #[c.val] W fun e w' => e = .returned (.bool true) ∧ Below W.heap.size W w') := fun W => cycValid_ok c W h
  clear h
  unfold C8.val at hval ⊢
  go_enter Try.func52, Try.ntmps52
  have b0 := hbox 0 (by decide)
  have b1 := hbox 1 (by decide)
  have b2 := hbox 2 (by decide)
  have b3 := hbox 3 (by decide)
  have b4 := hbox 4 (by decide)
  have b5 := hbox 5 (by decide)
  have b6 := hbox 6 (by decide)
  have b7 := hbox 7 (by decide)
  go_wp2_with fail
  refine (hval _).out.mono ?_
  rintro e w1 ⟨rfl, hb1⟩
  have hb01 := kept_trans (kept_new _ _) hb1
  have hc1 : ∀ j, j < 8 → w1.cell? ⟨w.heap.size, j, none⟩ = some (.int .i64 (c.get j)) := fun j hj => kept_cell hb1 (hbox j hj)
  clear hbox hb1 b0 b1 b2 b3 b4 b5 b6 b7
  have Hc := hide hc1
  clear hc1
  go_wp2_with fail
  go_loop [4, 5] (fun z i => ∃ t : Nat, t ≤ 8 ∧ i = .int .i64 t ∧ z = .complex .f32 (sumZ c t).1 (sumZ c t).2) (fun _ i => 8 - (intOf i).toNat)
  case atStart => exact ⟨0, by omega, rfl, rfl⟩
  case round =>
    obtain ⟨t, ht, rfl, rfl⟩ := hrel
    by_cases hlt : t < 8
    · have h1 := Hc.out t hlt
      obtain ⟨m1, m2, hs⟩ := sumZ_step c H.out t hlt
      have hcv := fun W => conv_root t hlt W
      have hw := fun W => l4Wide_ok t hlt W
      have Hw := hide hw
      have d1 : ∀ W, (binOp .mul 55 (.float .f32 (floatOfInt .f32 (c.get t))) (.float .f32 (rootS t).1)).run Try.prog W = .ok (.float .f32 (prodW (c.get t) (rootS t).1)) W := fun W => run_float_arith W .mul _ .f32 _ _ _ m1
      have d2 : ∀ W, (binOp .mul 55 (.float .f32 (floatOfInt .f32 (c.get t))) (.float .f32 (rootS t).2)).run Try.prog W = .ok (.float .f32 (prodW (c.get t) (rootS t).2)) W := fun W => run_float_arith W .mul _ .f32 _ _ _ m2
      have d3 : ∀ W, (binOp .add 46 (.complex .f32 (sumZ c t).1 (sumZ c t).2) (.complex .f32 (prodW (c.get t) (rootS t).1) (prodW (c.get t) (rootS t).2))).run Try.prog W = .ok (.complex .f32 (sumZ c (t + 1)).1 (sumZ c (t + 1)).2) W := fun W => run_complex_sum W .add (.inl rfl) _ _ _ _ _ _ _ _ hs
      clear hw m1 m2 hs
      obtain ⟨z', hz'⟩ : ∃ z', sumZ c (t + 1) = z' := ⟨_, rfl⟩
      rw [hz'] at d3
      have Hz := hide hz'
      clear hz'
      generalize prodW (c.get t) (rootS t).1 = p1 at *
      generalize prodW (c.get t) (rootS t).2 = p2 at *
      generalize (rootS t) = r at *
      generalize (rootD t) = rd at *
      generalize sumZ c t = z at *
      generalize c.get t = x at *
      obtain ⟨r1, r2⟩ := r
      obtain ⟨rd1, rd2⟩ := rd
      obtain ⟨z1, z2⟩ := z
      obtain ⟨y1, y2⟩ := z'
      dsimp only at *
      go_wp2_with fail
      refine (Hw.out _).mono ?_
      rintro e w2 ⟨rfl, rfl⟩
      go_wp2_with fail
      go_round
      case rel => exact ⟨t + 1, by omega, by go_num, by rw [Hz.out]⟩
      case measure => simp [intOf]; omega
    · obtain rfl : t = 8 := by omega
      go_wp2_with fail
      go_ret2
      exact ⟨rfl, hb01⟩

theorem single1_ok (x : Int) (t : Nat) (hlt : t < 8) (w : World) (hx : -1000000 ≤ x ∧ x ≤ 1000000) :
    Calls Try.prog 85 #[.int .i64 x, .int .i64 t] w fun e w' => e = .returned (.complex .f32 (prodW x (rootS t).1) (prodW x (rootS t).2)) ∧ w = w' := by
  obtain ⟨_, r1, r2⟩ := root_ok t hlt
  have m1 := (prod_ok x (rootS t).1 hx.1 hx.2 r1).1
  have m2 := (prod_ok x (rootS t).2 hx.1 hx.2 r2).1
  have hcv := fun W => conv_root t hlt W
  have Hw := hide (fun W => wideRoot_ok t hlt W)
  have d1 : ∀ W, (binOp .mul 55 (.float .f32 (floatOfInt .f32 x)) (.float .f32 (rootS t).1)).run Try.prog W = .ok (.float .f32 (prodW x (rootS t).1)) W := fun W => run_float_arith W .mul _ .f32 _ _ _ m1
  have d2 : ∀ W, (binOp .mul 55 (.float .f32 (floatOfInt .f32 x)) (.float .f32 (rootS t).2)).run Try.prog W = .ok (.float .f32 (prodW x (rootS t).2)) W := fun W => run_float_arith W .mul _ .f32 _ _ _ m2
  clear m1 m2 r1 r2
  generalize prodW x (rootS t).1 = p1 at *
  generalize prodW x (rootS t).2 = p2 at *
  generalize (rootS t) = r at *
  generalize (rootD t) = rd at *
  obtain ⟨r1, r2⟩ := r
  obtain ⟨rd1, rd2⟩ := rd
  dsimp only at *
  go_enter Try.func85, Try.ntmps85
  go_wp2_with fail
  refine (Hw.out _).mono ?_
  rintro e w2 ⟨rfl, rfl⟩
  go_wp2_with fail
  go_ret
  exact ⟨rfl, rfl⟩

set_option maxHeartbeats 1000000 in
theorem summed_ok (c : C8) (w : World) (h : c.small 1000000) :
    Calls Try.prog 84 #[c.val, .func (.func 85) #[] #[]] w fun e w' => e = .returned (.complex .f32 (sumZ c 8).1 (sumZ c 8).2) ∧ Below w.heap.size w w' := by
  have H := hide h
  clear h
  unfold C8.val
  go_enter Try.func84, Try.ntmps84
  go_wp2_with fail
  go_loop [5, 10] (fun z i => ∃ t : Nat, t ≤ 8 ∧ i = .int .i64 t ∧ z = .complex .f32 (sumZ c t).1 (sumZ c t).2) (fun _ i => 8 - (intOf i).toNat)
  case atStart => exact ⟨0, by omega, rfl, rfl⟩
  case round =>
    obtain ⟨t, ht, rfl, rfl⟩ := hrel
    by_cases hlt : t < 8
    · have h1 := idx_run c t hlt
      obtain ⟨_, _, hs⟩ := sumZ_step c H.out t hlt
      have Hw := hide (fun W => single1_ok (c.get t) t hlt W (H.out t hlt))
      have d3 : ∀ W, (binOp .add 46 (.complex .f32 (sumZ c t).1 (sumZ c t).2) (.complex .f32 (prodW (c.get t) (rootS t).1) (prodW (c.get t) (rootS t).2))).run Try.prog W = .ok (.complex .f32 (sumZ c (t + 1)).1 (sumZ c (t + 1)).2) W := fun W => run_complex_sum W .add (.inl rfl) _ _ _ _ _ _ _ _ hs
      clear hs
      obtain ⟨z', hz'⟩ : ∃ z', sumZ c (t + 1) = z' := ⟨_, rfl⟩
      rw [hz'] at d3
      have Hz := hide hz'
      clear hz'
      generalize prodW (c.get t) (rootS t).1 = p1 at *
      generalize prodW (c.get t) (rootS t).2 = p2 at *
      generalize sumZ c t = z at *
      generalize c.get t = x at *
      obtain ⟨z1, z2⟩ := z
      obtain ⟨y1, y2⟩ := z'
      dsimp only at d3 ⊢
      go_wp2_with fail
      refine (Hw.out _).mono ?_
      rintro e w2 ⟨rfl, rfl⟩
      go_wp2_with fail
      go_round
      case rel => exact ⟨t + 1, by omega, by go_num, by rw [Hz.out]⟩
      case measure => simp [intOf]; omega
    · obtain rfl : t = 8 := by omega
      go_wp2_with fail
      go_ret
      exact ⟨rfl, kept_new _ _⟩

theorem single_ok (c : C8) (w : World) (h : c.small 1000000) :
    Calls Try.prog 55 #[c.val] w fun e w' => e = .returned (.complex .f32 (sumZ c 8).1 (sumZ c 8).2) ∧ Below w.heap.size w w' := by
  have hbox := boxed w c 51
  have hs : ∀ W : World, Hid (Calls Try.prog 84 #[c.val, .func (.func 85) #[] #[]] W fun e w' => e = .returned (.complex .f32 (sumZ c 8).1 (sumZ c 8).2) ∧ Below W.heap.size W w') := fun W => summed_ok c W h
  clear h
  generalize sumZ c 8 = z at *
  unfold C8.val at hs ⊢
  have b0 := hbox 0 (by decide)
  have b1 := hbox 1 (by decide)
  have b2 := hbox 2 (by decide)
  have b3 := hbox 3 (by decide)
  have b4 := hbox 4 (by decide)
  have b5 := hbox 5 (by decide)
  have b6 := hbox 6 (by decide)
  have b7 := hbox 7 (by decide)
  clear hbox
  go_enter Try.func55, Try.ntmps55
  go_wp2_with fail
  refine (hs _).out.mono ?_
  rintro e w1 ⟨rfl, hb1⟩
  go_wp2_with fail
  go_ret
  exact ⟨rfl, kept_trans (kept_new _ _) hb1⟩

end Go.Proofs.Ytnlmiemnblppbaa
