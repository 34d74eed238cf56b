/-
  The ratio of a train is a reduced fraction: in plain words.
-/
import Derived.Test.YtiiocjkhjogfkaaDoorTrainS
namespace Go.Proofs.YtiiocjkhjogfkaaDoor
open Go.RowKit

/-- What the accumulator keeps: a reduced fraction whose sign tells how many pairs. -/
def Kept (k : Nat) (a b : Int) : Prop := Int.gcd a b = 1 ∧ (-1000000000 ≤ a ∧ a ≤ 1000000000) ∧ (1 ≤ b ∧ b ≤ 1000000000) ∧ a ≠ 0 ∧ (a < 0 ↔ k % 2 = 1)

theorem step_kept {k : Nat} {a b x y a' b' : Int} (h : Kept k a b) (hx : gearP x) (hy : gearP y) (hs : stepR (a, b) x y = some (a', b')) : Kept (k + 1) a' b' := by
  obtain ⟨_, _, ⟨b1, b2⟩, ha0, hsg⟩ := h
  obtain ⟨x1, x2⟩ := hx
  obtain ⟨y1, y2⟩ := hy
  have hB : 0 < b * y := Int.mul_pos (by omega) (by omega)
  have hT0 : -(a * x) ≠ 0 := by
    intro e
    have e' : a * x = 0 := by omega
    rcases Int.mul_eq_zero.1 e' with h | h <;> omega
  have hTs : -(a * x) < 0 ↔ 0 < a := by
    constructor
    · intro h
      rcases Int.lt_or_gt_of_ne ha0 with h1 | h1
      · have := Int.mul_neg_of_neg_of_pos h1 (show 0 < x by omega); omega
      · exact h1
    · intro h
      have := Int.mul_pos h (show 0 < x by omega); omega
  have d1 : (Int.gcd (-(a * x)) (b * y) : Int) ∣ -(a * x) := Int.gcd_dvd_left ..
  have d2 : (Int.gcd (-(a * x)) (b * y) : Int) ∣ b * y := Int.gcd_dvd_right ..
  have hg : 0 < Int.gcd (-(a * x)) (b * y) := Int.gcd_pos_of_ne_zero_right _ (by omega)
  have hq := Int.gcd_ediv_gcd_ediv_gcd hg
  simp only [stepR] at hs
  split at hs
  · rename_i hc
    injection hs with hs
    injection hs with e1 e2
    rw [Int.tdiv_eq_ediv_of_dvd d1] at e1 hc
    rw [Int.tdiv_eq_ediv_of_dvd d2] at e2 hc
    rw [e1, e2] at hq hc
    have m1 := Int.mul_ediv_cancel' d1
    have m2 := Int.mul_ediv_cancel' d2
    rw [e1] at m1
    rw [e2] at m2
    have hg' : 0 < (Int.gcd (-(a * x)) (b * y) : Int) := by omega
    generalize (Int.gcd (-(a * x)) (b * y) : Int) = g at *
    have hb' : 0 < b' := by
      rcases Int.lt_or_le 0 b' with h | h
      · exact h
      · have := Int.mul_nonpos_of_nonneg_of_nonpos (Int.le_of_lt hg') h
        omega
    have ha' : a' ≠ 0 := by
      intro e; rw [e, Int.mul_zero] at m1; exact hT0 m1.symm
    have hsg' : a' < 0 ↔ 0 < a := by
      rw [← hTs, ← m1]
      constructor
      · intro h
        exact Int.mul_neg_of_pos_of_neg hg' h
      · intro h
        rcases Int.lt_or_gt_of_ne ha' with h1 | h1
        · exact h1
        · have := Int.mul_pos hg' h1; omega
    exact ⟨hq, ⟨hc.1, hc.2.1⟩, ⟨by omega, hc.2.2⟩, ha', by rw [hsg']; omega⟩
  · cases hs

theorem acc_kept {zs : List Int} (hgs : gearsB zs = true) : ∀ (k : Nat) (a b : Int), 2 * k ≤ zs.length → accK zs k = some (a, b) → Kept k a b := by
  have hG : ∀ j (h : j < zs.length), gearP zs[j] := fun j h => by
    simp only [gearsB, List.all_eq_true, decide_eq_true_eq] at hgs
    exact hgs _ (List.getElem_mem h)
  intro k
  induction k with
  | zero =>
    intro a b _ h
    simp only [accK, Option.some.injEq, Prod.mk.injEq] at h
    obtain ⟨rfl, rfl⟩ := h
    exact ⟨rfl, by omega, by omega, by omega, by omega⟩
  | succ k ih =>
    intro a b hk h
    rw [accK] at h
    cases hp : accK zs k with
    | none => rw [hp] at h; cases h
    | some p =>
      rw [hp] at h
      obtain ⟨a0, b0⟩ := p
      have h' : stepR (a0, b0) (zs.getD (k * 2) 0) (zs.getD (k * 2 + 1) 0) = some (a, b) := h
      rw [at_getD zs _ (show k * 2 < zs.length by omega), at_getD zs _ (show k * 2 + 1 < zs.length by omega)] at h'
      exact step_kept (ih a0 b0 (by omega) hp) (hG _ _) (hG _ _) h'

theorem out_kept {zs : List Int} {a b : Int} (h : trainOut zs = ((a, b), true)) : Kept (zs.length / 2) a b ∧ gearsB zs = true ∧ lenB zs.length = true ∧ accK zs (zs.length / 2) = some (a, b) := by
  unfold trainOut trainRes at h
  by_cases hc : lenB zs.length = true ∧ gearsB zs = true
  · rw [if_pos hc] at h
    cases hp : accK zs (zs.length / 2) with
    | none => rw [hp] at h; simp at h
    | some p =>
      rw [hp] at h
      obtain ⟨a0, b0⟩ := p
      simp only [Prod.mk.injEq, and_true] at h
      obtain ⟨rfl, rfl⟩ := h
      exact ⟨acc_kept hc.2 _ _ _ (by omega) hp, hc.2, hc.1, rfl⟩
  · rw [if_neg hc] at h
    simp at h

theorem out_false {zs : List Int} {p : Int × Int} (h : trainOut zs = (p, false)) : p = (0, 0) := by
  unfold trainOut at h
  split at h
  · simp at h
  · simp only [Prod.mk.injEq, and_true] at h; exact h.symm

/-- Below the bottom no whole turn is one. -/
theorem turn_not {U V n : Int} (hg : Int.gcd U V = 1) (h1 : 1 ≤ n) (h2 : n < V) : ((n * U).tmod V == 0) = false := by
  rw [beq_eq_false_iff_ne]
  intro h
  have hd := Int.dvd_of_tmod_eq_zero h
  rw [← Int.natAbs_dvd_natAbs, Int.natAbs_mul] at hd
  rw [Int.gcd_eq_natAbs_gcd_natAbs] at hg
  have hc : Nat.Coprime V.natAbs U.natAbs := Nat.Coprime.symm hg
  have hd' := Nat.Coprime.dvd_of_dvd_mul_right hc hd
  have := Nat.le_of_dvd (by omega) hd'
  omega

theorem prod_i {x y M N : Int} (hx : -M ≤ x ∧ x ≤ M) (hy : -N ≤ y ∧ y ≤ N) : -(M * N) ≤ x * y ∧ x * y ≤ M * N := by
  have n : (x * y).natAbs = x.natAbs * y.natAbs := Int.natAbs_mul ..
  have m : x.natAbs * y.natAbs ≤ M.natAbs * N.natAbs := Nat.mul_le_mul (by omega) (by omega)
  have e : (M * N).natAbs = M.natAbs * N.natAbs := Int.natAbs_mul ..
  have p : 0 ≤ M * N := Int.mul_nonneg (by omega) (by omega)
  omega

end Go.Proofs.YtiiocjkhjogfkaaDoor
