/-
  Cusps and rounds, of the program and of the reference.
-/
import Derived.Test.YtiiocjkhjogfkaaDoorRing
namespace Go.Proofs.YtiiocjkhjogfkaaDoor
open Go.RowKit

def IB (x : Int × Bool) (w : World) (e : Ending) (w' : World) : Prop := e = .returned (.tuple #[.int .i64 x.1, .bool x.2]) ∧ Below w.heap.size w w'

set_option maxHeartbeats 1000000 in
theorem cuspsImpl_ok (r q : Int) (i : Bool) (w : World) (hg : Handle w) : Calls Tryd.prog 13 #[.int .i64 r, .int .i64 q, .bool i] w (IB (cuspsRes r q i) w) := by
  have HG := hide hg
  clear hg
  by_cases h : ringP r q i
  · have hF : Hid (cuspsRes r q i = (r / (Int.gcd r q : Int), true)) := by simp [cuspsRes, h, Hid]
    obtain ⟨g1, g2⟩ := gear_gcd h.1 (q := q)
    have h1 : 6 ≤ r ∧ r ≤ 240 := h.1
    have h2 : 6 ≤ q ∧ q ≤ 240 := h.2.1
    have hP := hide h
    clear h
    go_enter Tryd.func13, Tryd.ntmps13
    go_wp2_with fail
    refine (meshes_ok r q i _).mono ?_
    rintro e w1 ⟨g, v, rfl, hv, _, hb1⟩
    obtain ⟨rfl, rfl⟩ := hv hP.out
    clear hv
    go_wp2_with fail
    refine (fits_nil _).mono ?_
    rintro e w2 ⟨rfl, hb2⟩
    have hb := kept_trans hb1 hb2
    generalize (Int.gcd r q : Int) = g at *
    have hz : ¬ g = 0 := by omega
    clear hb1 hb2
    go_wp2_with fail
    go_ret2
    exact ⟨by rw [hF.out]; rfl, hb⟩
  · have hF : Hid (cuspsRes r q i = (0, false)) := by simp [cuspsRes, h, Hid]
    have hP := hide h
    clear h
    go_enter Tryd.func13, Tryd.ntmps13
    go_wp2_with fail
    refine (meshes_ok r q i _).mono ?_
    rintro e w1 ⟨g, v, rfl, _, hv, hb1⟩
    have hB := hv hP.out
    clear hv
    go_wp2_with fail
    refine (fits_bad v _ (handle_kept HG.out hb1) hB).mono ?_
    rintro e w2 ⟨rfl, hb2⟩
    have hb := kept_trans hb1 hb2
    clear hb1 hb2 hB
    go_wp2_with fail
    go_ret2
    exact ⟨by rw [hF.out]; rfl, hb⟩

set_option maxHeartbeats 1000000 in
theorem roundsImpl_ok (r q : Int) (i : Bool) (w : World) (hg : Handle w) : Calls Tryd.prog 15 #[.int .i64 r, .int .i64 q, .bool i] w (IB (roundsRes r q i) w) := by
  have HG := hide hg
  clear hg
  by_cases h : ringP r q i
  · have hF : Hid (roundsRes r q i = (q / (Int.gcd r q : Int), true)) := by simp [roundsRes, h, Hid]
    obtain ⟨g1, g2⟩ := gear_gcd h.1 (q := q)
    have h1 : 6 ≤ r ∧ r ≤ 240 := h.1
    have h2 : 6 ≤ q ∧ q ≤ 240 := h.2.1
    have hP := hide h
    clear h
    go_enter Tryd.func15, Tryd.ntmps15
    go_wp2_with fail
    refine (meshes_ok r q i _).mono ?_
    rintro e w1 ⟨g, v, rfl, hv, _, hb1⟩
    obtain ⟨rfl, rfl⟩ := hv hP.out
    clear hv
    go_wp2_with fail
    refine (fits_nil _).mono ?_
    rintro e w2 ⟨rfl, hb2⟩
    have hb := kept_trans hb1 hb2
    generalize (Int.gcd r q : Int) = g at *
    have hz : ¬ g = 0 := by omega
    clear hb1 hb2
    go_wp2_with fail
    go_ret2
    exact ⟨by rw [hF.out]; rfl, hb⟩
  · have hF : Hid (roundsRes r q i = (0, false)) := by simp [roundsRes, h, Hid]
    have hP := hide h
    clear h
    go_enter Tryd.func15, Tryd.ntmps15
    go_wp2_with fail
    refine (meshes_ok r q i _).mono ?_
    rintro e w1 ⟨g, v, rfl, _, hv, hb1⟩
    have hB := hv hP.out
    clear hv
    go_wp2_with fail
    refine (fits_bad v _ (handle_kept HG.out hb1) hB).mono ?_
    rintro e w2 ⟨rfl, hb2⟩
    have hb := kept_trans hb1 hb2
    clear hb1 hb2 hB
    go_wp2_with fail
    go_ret2
    exact ⟨by rw [hF.out]; rfl, hb⟩

set_option maxHeartbeats 1000000 in
theorem cuspsSpec_ok (r q : Int) (i : Bool) (w : World) : Calls Tryd.prog 12 #[.int .i64 r, .int .i64 q, .bool i] w (IB (cuspsRes r q i) w) := by
  by_cases h1 : gearP r
  · have H1 : Hid (decide (gearP r) = true) := by simpa [Hid] using h1
    by_cases h2 : gearP q
    · have H2 : Hid (decide (gearP q) = true) := by simpa [Hid] using h2
      obtain ⟨g1, g2⟩ := gear_gcd h1 (q := q)
      by_cases h3 : i = true ∧ r ≤ q
      · obtain ⟨rfl, h4⟩ := h3
        have hF : Hid (cuspsRes r q true = (0, false)) := by simp [cuspsRes, ringP, h4, Hid]
        clear h1 h2
        go_enter Tryd.func12, Tryd.ntmps12
        go_wp2_with fail
        refine (l9Gear_ok r _).mono ?_
        rintro e w1 ⟨rfl, rfl⟩
        rw [H1.out]
        go_wp2_with fail
        refine (l9Gear_ok q _).mono ?_
        rintro e w1 ⟨rfl, rfl⟩
        rw [H2.out]
        go_wp2_with fail
        go_ret2
        exact ⟨by rw [hF.out]; rfl, Below.refl _ _⟩
      · have hF : Hid (cuspsRes r q i = (r / (Int.gcd r q : Int), true)) := by
          have : ringP r q i := ⟨h1, h2, h3⟩
          simp [cuspsRes, this, Hid]
        have h1' : 6 ≤ r ∧ r ≤ 240 := h1
        have h2' : 6 ≤ q ∧ q ≤ 240 := h2
        clear h1 h2
        cases i with
        | false =>
          clear h3
          go_enter Tryd.func12, Tryd.ntmps12
          go_wp2_with fail
          refine (l9Gear_ok r _).mono ?_
          rintro e w1 ⟨rfl, rfl⟩
          rw [H1.out]
          go_wp2_with fail
          refine (l9Gear_ok q _).mono ?_
          rintro e w1 ⟨rfl, rfl⟩
          rw [H2.out]
          go_wp2_with fail
          refine (l1Gcd_ok r q _ (by omega) (by omega)).mono ?_
          rintro e w1 ⟨rfl, rfl⟩
          generalize (Int.gcd r q : Int) = g at *
          have hz : ¬ g = 0 := by omega
          go_wp2_with fail
          go_ret2
          exact ⟨by rw [hF.out]; rfl, Below.refl _ _⟩
        | true =>
          have h4 : ¬ r ≤ q := fun h => h3 ⟨rfl, h⟩
          clear h3
          go_enter Tryd.func12, Tryd.ntmps12
          go_wp2_with fail
          refine (l9Gear_ok r _).mono ?_
          rintro e w1 ⟨rfl, rfl⟩
          rw [H1.out]
          go_wp2_with fail
          refine (l9Gear_ok q _).mono ?_
          rintro e w1 ⟨rfl, rfl⟩
          rw [H2.out]
          go_wp2_with fail
          refine (l1Gcd_ok r q _ (by omega) (by omega)).mono ?_
          rintro e w1 ⟨rfl, rfl⟩
          generalize (Int.gcd r q : Int) = g at *
          have hz : ¬ g = 0 := by omega
          go_wp2_with fail
          go_ret2
          exact ⟨by rw [hF.out]; rfl, Below.refl _ _⟩
    · have H2 : Hid (decide (gearP q) = false) := by simpa [Hid] using h2
      have hF : Hid (cuspsRes r q i = (0, false)) := by
        have : ¬ ringP r q i := fun h => h2 h.2.1
        simp [cuspsRes, this, Hid]
      clear h1 h2
      go_enter Tryd.func12, Tryd.ntmps12
      go_wp2_with fail
      refine (l9Gear_ok r _).mono ?_
      rintro e w1 ⟨rfl, rfl⟩
      rw [H1.out]
      go_wp2_with fail
      refine (l9Gear_ok q _).mono ?_
      rintro e w1 ⟨rfl, rfl⟩
      rw [H2.out]
      go_wp2_with fail
      go_ret2
      exact ⟨by rw [hF.out]; rfl, Below.refl _ _⟩
  · have H1 : Hid (decide (gearP r) = false) := by simpa [Hid] using h1
    have hF : Hid (cuspsRes r q i = (0, false)) := by
      have : ¬ ringP r q i := fun h => h1 h.1
      simp [cuspsRes, this, Hid]
    clear h1
    go_enter Tryd.func12, Tryd.ntmps12
    go_wp2_with fail
    refine (l9Gear_ok r _).mono ?_
    rintro e w1 ⟨rfl, rfl⟩
    rw [H1.out]
    go_wp2_with fail
    go_ret2
    exact ⟨by rw [hF.out]; rfl, Below.refl _ _⟩

set_option maxHeartbeats 1000000 in
theorem roundsSpec_ok (r q : Int) (i : Bool) (w : World) : Calls Tryd.prog 14 #[.int .i64 r, .int .i64 q, .bool i] w (IB (roundsRes r q i) w) := by
  by_cases h : ringP r q i
  · have hF : Hid (roundsRes r q i = (q / (Int.gcd r q : Int), true)) := by simp [roundsRes, h, Hid]
    have hC : Hid (cuspsRes r q i = (r / (Int.gcd r q : Int), true)) := by simp [cuspsRes, h, Hid]
    obtain ⟨g1, g2⟩ := gear_gcd h.1 (q := q)
    have h1' : 6 ≤ r ∧ r ≤ 240 := h.1
    have h2' : 6 ≤ q ∧ q ≤ 240 := h.2.1
    clear h
    go_enter Tryd.func14, Tryd.ntmps14
    go_wp2_with fail
    refine (cuspsSpec_ok r q i _).mono ?_
    rintro e w1 ⟨rfl, hb⟩
    rw [hC.out]
    go_wp2_with fail
    refine (l1Gcd_ok r q _ (by omega) (by omega)).mono ?_
    rintro e w2 ⟨rfl, rfl⟩
    generalize (Int.gcd r q : Int) = g at *
    have hz : ¬ g = 0 := by omega
    go_wp2_with fail
    go_ret2
    exact ⟨by rw [hF.out]; rfl, hb⟩
  · have hF : Hid (roundsRes r q i = (0, false)) := by simp [roundsRes, h, Hid]
    have hC : Hid (cuspsRes r q i = (0, false)) := by simp [cuspsRes, h, Hid]
    clear h
    go_enter Tryd.func14, Tryd.ntmps14
    go_wp2_with fail
    refine (cuspsSpec_ok r q i _).mono ?_
    rintro e w1 ⟨rfl, hb⟩
    rw [hC.out]
    go_wp2_with fail
    go_ret2
    exact ⟨by rw [hF.out]; rfl, hb⟩

end Go.Proofs.YtiiocjkhjogfkaaDoor
