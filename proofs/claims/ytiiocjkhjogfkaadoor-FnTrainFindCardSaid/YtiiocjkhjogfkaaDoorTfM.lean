/-
  Found trains have the ratio: in plain words.
-/
import Derived.Test.YtiiocjkhjogfkaaDoorTfD
import Derived.Test.YtiiocjkhjogfkaaDoorTrainS
namespace Go.Proofs.YtiiocjkhjogfkaaDoor
open Go.RowKit

theorem from_true (top bottom : Int) : ∀ (f : Nat) (a : Int) (xs : List Int), 6 ≤ a → a + f ≤ 241 → tfFrom f top bottom a = (xs, true) → ∃ p q, xs = [p, q] ∧ (6 ≤ p ∧ p ≤ 240) ∧ (6 ≤ q ∧ q ≤ 240) ∧ p * bottom = q * top := by
  intro f
  induction f with
  | zero => intro a xs _ _ h; simp [tfFrom] at h
  | succ f ih =>
    intro a xs h1 h2 h
    simp only [tfFrom] at h
    split at h
    · rename_i hc
      simp only [Prod.mk.injEq, and_true] at h
      refine ⟨a, a * bottom / top, h.symm, ⟨h1, by omega⟩, hc.2, ?_⟩
      exact (Int.ediv_mul_cancel (Int.dvd_of_emod_eq_zero hc.1)).symm
    · exact ih (a + 1) xs (by omega) (by omega) h

theorem find_true {top bottom : Int} {xs : List Int} (h : tfAll top bottom = (xs, true)) : ∃ p q, xs = [p, q] ∧ (6 ≤ p ∧ p ≤ 240) ∧ (6 ≤ q ∧ q ≤ 240) ∧ p * bottom = q * top ∧ (1 ≤ top ∧ top ≤ 1000) ∧ (1 ≤ bottom ∧ bottom ≤ 1000) := by
  unfold tfAll at h
  split at h
  · rename_i hc
    obtain ⟨p, q, h1, h2, h3, h4⟩ := from_true top bottom 235 6 xs (by omega) (by omega) h
    exact ⟨p, q, h1, h2, h3, h4, by omega, by omega⟩
  · simp at h

/-- The ratio of one pair. -/
theorem pair_out {p q : Int} (hp : 6 ≤ p ∧ p ≤ 240) (hq : 6 ≤ q ∧ q ≤ 240) : ∃ U V g : Int, trainOut [p, q] = ((U, V), true) ∧ (-240 ≤ U ∧ U ≤ 240) ∧ (-240 ≤ V ∧ V ≤ 240) ∧ 1 ≤ g ∧ -p = g * U ∧ q = g * V := by
  have g1 : 0 < Int.gcd (-p) q := Int.gcd_pos_of_ne_zero_right _ (by omega)
  have d1 : (Int.gcd (-p) q : Int) ∣ -p := Int.gcd_dvd_left ..
  have d2 : (Int.gcd (-p) q : Int) ∣ q := Int.gcd_dvd_right ..
  obtain ⟨U, hU⟩ := d1
  obtain ⟨V, hV⟩ := d2
  have e1 : (-p).tdiv (Int.gcd (-p) q : Int) = U := by
    have := Int.mul_tdiv_cancel_left (a := (Int.gcd (-p) q : Int)) U (by omega)
    rw [← hU] at this; exact this
  have e2 : q.tdiv (Int.gcd (-p) q : Int) = V := by
    have := Int.mul_tdiv_cancel_left (a := (Int.gcd (-p) q : Int)) V (by omega)
    rw [← hV] at this; exact this
  have b : ∀ (z y g : Int), 1 ≤ g → z = g * y → -240 ≤ z → z ≤ 240 → -240 ≤ y ∧ y ≤ 240 := fun z y g hg hz h1 h2 => by
    have n : z.natAbs = g.natAbs * y.natAbs := by rw [hz]; exact Int.natAbs_mul ..
    have m : y.natAbs ≤ g.natAbs * y.natAbs := Nat.le_mul_of_pos_left _ (by omega)
    omega
  have bU := b _ U _ (by omega) hU (by omega) (by omega)
  have bV := b _ V _ (by omega) hV (by omega) (by omega)
  refine ⟨U, V, (Int.gcd (-p) q : Int), ?_, bU, bV, by omega, hU, hV⟩
  have hl : lenB 2 = true := by decide
  have hg : gearsB [p, q] = true := by simp [gearsB, gearP, hp, hq]
  have ha : accK [p, q] 1 = some (U, V) := by
    show stepR (1, 1) p q = _
    simp only [stepR, Int.one_mul]
    rw [e1, e2, if_pos ⟨by omega, by omega⟩]
  simp [trainOut, trainRes, hl, hg, ha]

/-- .. and it is that of the fraction that was looked for. -/
theorem found_ratio {top bottom p q U V g : Int} (h : p * bottom = q * top) (hg : 1 ≤ g) (h1 : -p = g * U) (h2 : q = g * V) : -(U * bottom) = V * top := by
  have e : g * (-(U * bottom)) = g * (V * top) := by
    rw [Int.mul_neg, ← Int.mul_assoc, ← h1, ← Int.mul_assoc, ← h2, ← h, Int.neg_mul, Int.neg_neg]
  exact Int.eq_of_mul_eq_mul_left (by omega) e

end Go.Proofs.YtiiocjkhjogfkaaDoor
