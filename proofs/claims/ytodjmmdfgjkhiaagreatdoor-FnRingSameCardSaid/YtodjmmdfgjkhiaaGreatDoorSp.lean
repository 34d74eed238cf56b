/-
  When two rings draw the same curve: plain arithmetic over the values of RingDesign, DesignBack.
-/
import Derived.Test.YtodjmmdfgjkhiaaGreatDoorRsm
namespace Go.Proofs.YtodjmmdfgjkhiaaGreatDoor
open Go.RowKit

theorem gz_zero (x : Int) : (gz x).eqB zero8 = decide (x = 0) := by
  by_cases h : x = 0
  · subst h; decide
  · simp [C8.eqB, gz, zero8, h]

theorem gz_inj {x y : Int} (h : gz x = gz y) : x = y := by
  simpa [gz] using h

theorem okB_gz {a x : Int} (ha : -1000 ≤ a ∧ a ≤ 1000) (hx : -1000 ≤ x ∧ x ≤ 1000) : (⟨a, gz x⟩ : W9).okB = true := by
  simp [W9.okB, gz_small hx, ha]

theorem non_two (a b x y : Int) (hx : x ≠ 0) : nonzero [(⟨b, gz y⟩ : W9), ⟨a, gz x⟩] = if y = 0 then [⟨a, gz x⟩] else [⟨b, gz y⟩, ⟨a, gz x⟩] := by
  by_cases h : y = 0
  · simp [nonzero, gz_zero, hx, h]
  · simp [nonzero, gz_zero, hx, h]

theorem tidy_two {a b x y : Int} (hab : b < a) (ha : -1000 ≤ a ∧ a ≤ 1000) (hb : -1000 ≤ b ∧ b ≤ 1000) (hx : -1000 ≤ x ∧ x ≤ 1000) (hx0 : x ≠ 0) (hy : -1000 ≤ y ∧ y ≤ 1000) :
    tidyRes [⟨a, gz x⟩, ⟨b, gz y⟩] = (if y = 0 then [⟨a, gz x⟩] else [⟨b, gz y⟩, ⟨a, gz x⟩], true) := by
  have h1 := gz_small hx
  have h2 := gz_small hy
  have n1 : ¬ a < b := by omega
  have n2 : ¬ a = b := by omega
  have e : foldW addW [] [(⟨a, gz x⟩ : W9), ⟨b, gz y⟩] = ([⟨b, gz y⟩, ⟨a, gz x⟩], true) := by
    simp [foldW, radW, addW, h1, h2, n1, n2]
  rw [tidyRes, e, doneW]
  dsimp only
  rw [non_two a b x y hx0]
  have o1 := okB_gz ha hx
  have o2 := okB_gz hb hy
  by_cases h : y = 0
  · rw [if_pos h, if_pos ⟨rfl, by simp [designB, o1]⟩]
  · rw [if_neg h, if_pos ⟨rfl, by simp [designB, o1, o2]⟩]

theorem tidy_one {a x : Int} (ha : -1000 ≤ a ∧ a ≤ 1000) (hx : -1000 ≤ x ∧ x ≤ 1000) (hx0 : x ≠ 0) :
    tidyRes [⟨a, gz x⟩] = ([⟨a, gz x⟩], true) := by
  have h1 := gz_small hx
  have o1 := okB_gz ha hx
  have e : foldW addW [] [(⟨a, gz x⟩ : W9)] = ([⟨a, gz x⟩], true) := by simp [foldW, radW, addW, h1]
  rw [tidyRes, e, doneW]
  dsimp only
  have : nonzero [(⟨a, gz x⟩ : W9)] = [⟨a, gz x⟩] := by simp [nonzero, gz_zero, hx0]
  rw [this, if_pos ⟨rfl, by simp [designB, o1]⟩]

/-- A ring and a wheel whose teeth and whose difference fit: the two speeds. -/
theorem ring_form {r q : Int} (h : 6 ≤ q ∧ 6 ≤ r - q ∧ r ≤ 240) : ∃ a b : Int, 1 ≤ a ∧ a ≤ 240 ∧ 1 ≤ b ∧ b ≤ 240 ∧
    (∀ p : Int, -300 ≤ p ∧ p ≤ 300 → ringRes r q p true = (if p = 0 then [⟨a, gz (r - q)⟩] else [⟨-b, gz p⟩, ⟨a, gz (r - q)⟩], true)) ∧
    (∀ p : Int, -300 ≤ p ∧ p ≤ 300 → ringRes r (r - q) p true = (if p = 0 then [⟨b, gz q⟩] else [⟨-a, gz p⟩, ⟨b, gz q⟩], true)) := by
  obtain ⟨h1, h2, h3⟩ := h
  have hgr : (Int.gcd r (r - q) : Int) = (Int.gcd r q : Int) := by
    have e1 : Int.gcd r (r - q) = Int.gcd r q := by
      apply Nat.dvd_antisymm
      · refine Int.dvd_gcd (Int.gcd_dvd_left ..) ?_
        have := Int.dvd_sub (Int.gcd_dvd_left r (r - q)) (Int.gcd_dvd_right r (r - q))
        rwa [show r - (r - q) = q from by omega] at this
      · exact Int.dvd_gcd (Int.gcd_dvd_left ..) (Int.dvd_sub (Int.gcd_dvd_left ..) (Int.gcd_dvd_right ..))
    rw [e1]
  have hg0 := gear_gcd (r := r) (q := q) ⟨by omega, by omega⟩
  have d1 : (Int.gcd r q : Int) ∣ q := Int.gcd_dvd_right ..
  have d2 : (Int.gcd r q : Int) ∣ r - q := Int.dvd_sub (Int.gcd_dvd_left ..) (Int.gcd_dvd_right ..)
  have P1 : ringP r q true := ⟨⟨by omega, by omega⟩, ⟨by omega, by omega⟩, by omega⟩
  have P2 : ringP r (r - q) true := ⟨⟨by omega, by omega⟩, ⟨by omega, by omega⟩, by omega⟩
  have F1 : ∀ p : Int, -300 ≤ p ∧ p ≤ 300 → ringRes r q p true = tidyRes [⟨q.tdiv (Int.gcd r q), gz (r - q)⟩, ⟨(q - r).tdiv (Int.gcd r q), gz p⟩] := fun p hp => by simp [ringRes, ringW, P1, hp]
  have F2 : ∀ p : Int, -300 ≤ p ∧ p ≤ 300 → ringRes r (r - q) p true = tidyRes [⟨(r - q).tdiv (Int.gcd r q), gz (r - (r - q))⟩, ⟨((r - q) - r).tdiv (Int.gcd r q), gz p⟩] := fun p hp => by
    rw [← hgr]
    simp [ringRes, ringW, P2, hp]
  generalize (Int.gcd r q : Int) = g at hg0 d1 d2 F1 F2
  obtain ⟨a, rfl⟩ := d1
  obtain ⟨b, hb⟩ := d2
  have hg : g ≠ 0 := by omega
  have e1 : (g * a).tdiv g = a := Int.mul_tdiv_cancel_left a hg
  have e2 : (g * a - r).tdiv g = -b := by
    rw [show g * a - r = g * (-b) from by rw [Int.mul_neg, ← hb]; omega]
    exact Int.mul_tdiv_cancel_left _ hg
  have e3 : (r - g * a).tdiv g = b := by rw [hb]; exact Int.mul_tdiv_cancel_left b hg
  have e4 : (r - g * a - r).tdiv g = -a := by
    rw [show r - g * a - r = g * (-a) from by rw [Int.mul_neg]; omega]
    exact Int.mul_tdiv_cancel_left _ hg
  have a1 : 1 ≤ a := by
    rcases Int.lt_or_le a 1 with h | h
    · have := Int.mul_le_mul_of_nonneg_left (show a ≤ 0 by omega) (show 0 ≤ g by omega)
      omega
    · exact h
  have b1 : 1 ≤ b := by
    rcases Int.lt_or_le b 1 with h | h
    · have := Int.mul_le_mul_of_nonneg_left (show b ≤ 0 by omega) (show 0 ≤ g by omega)
      omega
    · exact h
  have a2 : a ≤ g * a := by
    have := Int.mul_le_mul_of_nonneg_right hg0.1 (show 0 ≤ a by omega)
    omega
  have b2 : b ≤ g * b := by
    have := Int.mul_le_mul_of_nonneg_right hg0.1 (show 0 ≤ b by omega)
    omega
  refine ⟨a, b, a1, by omega, b1, by omega, fun p hp => ?_, fun p hp => ?_⟩
  · rw [F1 p hp, e1, e2]
    exact tidy_two (by omega) (by omega) (by omega) (by omega) (by omega) (by omega)
  · rw [F2 p hp, e3, e4, show r - (r - g * a) = g * a from by omega]
    exact tidy_two (by omega) (by omega) (by omega) (by omega) (by omega) (by omega)

theorem same_form {r q p o : Int} (h : 6 ≤ q ∧ 6 ≤ r - q ∧ r ≤ 240) (hp : -300 ≤ p ∧ p ≤ 300) (ho : -300 ≤ o ∧ o ≤ 300) :
    sameRes r q p o = decide (p = q ∧ o = r - q) := by
  obtain ⟨a, b, a1, a2, b1, b2, F1, F2⟩ := ring_form h
  have hw : wrap64 (r - q) = r - q := by unfold wrap64; omega
  have hB : backRes (if p = 0 then [(⟨a, gz (r - q)⟩ : W9)] else [⟨-b, gz p⟩, ⟨a, gz (r - q)⟩]) = (if p = 0 then [⟨-a, gz (r - q)⟩] else [⟨-a, gz (r - q)⟩, ⟨b, gz p⟩], true) := by
    have o1 := okB_gz (a := a) (x := r - q) (by omega) (by omega)
    have o2 := okB_gz (a := -b) (x := p) (by omega) (by omega)
    by_cases h0 : p = 0
    · rw [if_pos h0, if_pos h0, backRes, changeRes, if_pos (by simp [designB, o1])]
      simp only [List.map_cons, List.map_nil, fast_neg]
      exact tidy_one (by omega) (by omega) (by omega)
    · rw [if_neg h0, if_neg h0, backRes, changeRes, if_pos (by simp [designB, o1, o2])]
      simp only [List.map_cons, List.map_nil, fast_neg]
      have := tidy_two (a := - -b) (b := -a) (x := p) (y := r - q) (by omega) (by omega) (by omega) (by omega) h0 (by omega)
      rw [this, if_neg (by omega), Int.neg_neg]
  rw [sameRes, hw, F1 p hp, F2 o ho]
  dsimp only
  rw [hB]
  dsimp only
  simp only [Bool.true_and]
  congr 1
  apply propext
  by_cases p0 : p = 0
  · rw [if_pos p0]
    by_cases o0 : o = 0
    · rw [if_pos o0]
      constructor
      · intro h
        have := (List.cons.inj h).1
        have := congrArg W9.s this
        simp at this
        omega
      · intro h; omega
    · rw [if_neg o0]
      constructor
      · intro h; exact absurd (congrArg List.length h) (by simp)
      · intro h; omega
  · rw [if_neg p0]
    by_cases o0 : o = 0
    · rw [if_pos o0]
      constructor
      · intro h; exact absurd (congrArg List.length h) (by simp)
      · intro h; omega
    · rw [if_neg o0]
      constructor
      · intro h
        obtain ⟨h1, h2⟩ := List.cons.inj h
        obtain ⟨h2, -⟩ := List.cons.inj h2
        have c1 := gz_inj (congrArg W9.c h1)
        have c2 := gz_inj (congrArg W9.c h2)
        exact ⟨c2, c1.symm⟩
      · rintro ⟨e1, e2⟩; rw [e1, e2]

end Go.Proofs.YtodjmmdfgjkhiaaGreatDoor
