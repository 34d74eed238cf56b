/-
  Rings and wheels: which fit; RingCusps of the reference.
-/
import Derived.Test.YtnlmiemnblppbaaIn
import Derived.Test.YtnlmiemnblppbaaGcd
namespace Go.Proofs.Ytnlmiemnblppbaa
open Go.RowKit

def gearP (n : Int) : Prop := 6 ≤ n ∧ n ≤ 240
instance (n : Int) : Decidable (gearP n) := by unfold gearP; infer_instance
/-- The ring and the wheel fit. -/
def ringP (r q : Int) (i : Bool) : Prop := gearP r ∧ gearP q ∧ ¬ (i = true ∧ r ≤ q)
instance (r q : Int) (i : Bool) : Decidable (ringP r q i) := by unfold ringP; infer_instance
def cuspsRes (r q : Int) (i : Bool) : Int × Bool := if ringP r q i then (r / (Int.gcd r q : Int), true) else (0, false)
def roundsRes (r q : Int) (i : Bool) : Int × Bool := if ringP r q i then (q / (Int.gcd r q : Int), true) else (0, false)

theorem gear_gcd {r q : Int} (h1 : gearP r) : 1 ≤ (Int.gcd r q : Int) ∧ (Int.gcd r q : Int) ≤ 240 := by
  unfold gearP at h1
  have a : 0 < Int.gcd r q := Int.gcd_pos_of_ne_zero_left _ (by omega)
  have b : Int.gcd r q ∣ r.natAbs := Nat.gcd_dvd_left _ _
  have c := Nat.le_of_dvd (by omega) b
  omega

theorem l9Gear_ok (n : Int) (w : World) : Calls Try.prog 122 #[.int .i64 n] w fun e w' => e = .returned (.bool (decide (gearP n))) ∧ w = w' := by
  by_cases h : gearP n
  · have H : Hid (decide (gearP n) = true) := by simpa [Hid] using h
    go_enter Try.func122, Try.ntmps122
    go_wp2_with fail
    refine (l6In_t _ _ _ _ h.1 h.2).mono ?_
    rintro e w' ⟨rfl, rfl⟩
    go_wp2_with fail
    go_ret
    exact ⟨by rw [H.out]; rfl, rfl⟩
  · have H : Hid (decide (gearP n) = false) := by simpa [Hid] using h
    have Hn : Hid (¬ gearP n) := h
    clear h
    go_enter Try.func122, Try.ntmps122
    go_wp2_with fail
    refine (l6In_f _ _ _ _ Hn.out).mono ?_
    rintro e w' ⟨rfl, rfl⟩
    go_wp2_with fail
    go_ret
    exact ⟨by rw [H.out]; rfl, rfl⟩

def IB (x : Int × Bool) (w : World) (e : Ending) (w' : World) : Prop := e = .returned (.tuple #[.int .i64 x.1, .bool x.2]) ∧ Below w.heap.size w w'

set_option maxHeartbeats 1000000 in
theorem cuspsSpec_ok (r q : Int) (i : Bool) (w : World) : Calls Try.prog 112 #[.int .i64 r, .int .i64 q, .bool i] w (IB (cuspsRes r q i) w) := by
  by_cases h1 : gearP r
  · have H1 : Hid (decide (gearP r) = true) := by simpa [Hid] using h1
    by_cases h2 : gearP q
    · have H2 : Hid (decide (gearP q) = true) := by simpa [Hid] using h2
      obtain ⟨g1, g2⟩ := gear_gcd h1 (q := q)
      by_cases h3 : i = true ∧ r ≤ q
      · obtain ⟨rfl, h4⟩ := h3
        have hF : Hid (cuspsRes r q true = (0, false)) := by simp [cuspsRes, ringP, h4, Hid]
        clear h1 h2
        go_enter Try.func112, Try.ntmps112
        go_wp2_with fail
        refine (l9Gear_ok r _).mono ?_
        rintro e w1 ⟨rfl, rfl⟩
        rw [H1.out]
        go_wp2_with fail
        refine (l9Gear_ok q _).mono ?_
        rintro e w1 ⟨rfl, rfl⟩
        rw [H2.out]
        go_wp2_with fail
        go_ret2
        exact ⟨by rw [hF.out]; rfl, Below.refl _ _⟩
      · have hF : Hid (cuspsRes r q i = (r / (Int.gcd r q : Int), true)) := by
          have : ringP r q i := ⟨h1, h2, h3⟩
          simp [cuspsRes, this, Hid]
        have h1' : 6 ≤ r ∧ r ≤ 240 := h1
        have h2' : 6 ≤ q ∧ q ≤ 240 := h2
        clear h1 h2
        cases i with
        | false =>
          clear h3
          go_enter Try.func112, Try.ntmps112
          go_wp2_with fail
          refine (l9Gear_ok r _).mono ?_
          rintro e w1 ⟨rfl, rfl⟩
          rw [H1.out]
          go_wp2_with fail
          refine (l9Gear_ok q _).mono ?_
          rintro e w1 ⟨rfl, rfl⟩
          rw [H2.out]
          go_wp2_with fail
          refine (l1Gcd_ok r q _ (by omega) (by omega)).mono ?_
          rintro e w1 ⟨rfl, rfl⟩
          generalize (Int.gcd r q : Int) = g at *
          have hz : ¬ g = 0 := by omega
          go_wp2_with fail
          go_ret2
          exact ⟨by rw [hF.out]; rfl, Below.refl _ _⟩
        | true =>
          have h4 : ¬ r ≤ q := fun h => h3 ⟨rfl, h⟩
          clear h3
          go_enter Try.func112, Try.ntmps112
          go_wp2_with fail
          refine (l9Gear_ok r _).mono ?_
          rintro e w1 ⟨rfl, rfl⟩
          rw [H1.out]
          go_wp2_with fail
          refine (l9Gear_ok q _).mono ?_
          rintro e w1 ⟨rfl, rfl⟩
          rw [H2.out]
          go_wp2_with fail
          refine (l1Gcd_ok r q _ (by omega) (by omega)).mono ?_
          rintro e w1 ⟨rfl, rfl⟩
          generalize (Int.gcd r q : Int) = g at *
          have hz : ¬ g = 0 := by omega
          go_wp2_with fail
          go_ret2
          exact ⟨by rw [hF.out]; rfl, Below.refl _ _⟩
    · have H2 : Hid (decide (gearP q) = false) := by simpa [Hid] using h2
      have hF : Hid (cuspsRes r q i = (0, false)) := by
        have : ¬ ringP r q i := fun h => h2 h.2.1
        simp [cuspsRes, this, Hid]
      clear h1 h2
      go_enter Try.func112, Try.ntmps112
      go_wp2_with fail
      refine (l9Gear_ok r _).mono ?_
      rintro e w1 ⟨rfl, rfl⟩
      rw [H1.out]
      go_wp2_with fail
      refine (l9Gear_ok q _).mono ?_
      rintro e w1 ⟨rfl, rfl⟩
      rw [H2.out]
      go_wp2_with fail
      go_ret2
      exact ⟨by rw [hF.out]; rfl, Below.refl _ _⟩
  · have H1 : Hid (decide (gearP r) = false) := by simpa [Hid] using h1
    have hF : Hid (cuspsRes r q i = (0, false)) := by
      have : ¬ ringP r q i := fun h => h1 h.1
      simp [cuspsRes, this, Hid]
    clear h1
    go_enter Try.func112, Try.ntmps112
    go_wp2_with fail
    refine (l9Gear_ok r _).mono ?_
    rintro e w1 ⟨rfl, rfl⟩
    rw [H1.out]
    go_wp2_with fail
    go_ret2
    exact ⟨by rw [hF.out]; rfl, Below.refl _ _⟩


end Go.Proofs.Ytnlmiemnblppbaa
