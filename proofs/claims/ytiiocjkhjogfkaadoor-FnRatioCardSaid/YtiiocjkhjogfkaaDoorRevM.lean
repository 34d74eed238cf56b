/-
  A train turned round has the turned ratio: in plain words.
-/
import Derived.Test.YtiiocjkhjogfkaaDoorTrM
namespace Go.Proofs.YtiiocjkhjogfkaaDoor
open Go.RowKit

/-- A product over the first k places. -/
def pr (f : Nat → Nat) : Nat → Nat
  | 0 => 1
  | k + 1 => pr f k * f k

theorem pr_front (f : Nat → Nat) : ∀ k, pr f (k + 1) = f 0 * pr (fun i => f (i + 1)) k := by
  intro k
  induction k with
  | zero => simp [pr]
  | succ k ih =>
    rw [pr, ih, pr, Nat.mul_assoc]

theorem pr_congr {f g : Nat → Nat} : ∀ k, (∀ i, i < k → f i = g i) → pr f k = pr g k := by
  intro k
  induction k with
  | zero => intro _; rfl
  | succ k ih => intro h; rw [pr, pr, ih (fun i hi => h i (by omega)), h k (by omega)]

theorem pr_rev (f : Nat → Nat) : ∀ k, pr (fun i => f (k - 1 - i)) k = pr f k := by
  intro k
  induction k with
  | zero => rfl
  | succ k ih =>
    rw [pr_front, pr]
    have e : pr (fun i => f (k + 1 - 1 - (i + 1))) k = pr (fun i => f (k - 1 - i)) k := pr_congr k (fun i hi => by rw [show k + 1 - 1 - (i + 1) = k - 1 - i by omega])
    rw [e, ih, Nat.mul_comm]
    rfl

theorem pr_pos {f : Nat → Nat} : ∀ k, (∀ i, i < k → 0 < f i) → 0 < pr f k := by
  intro k
  induction k with
  | zero => intro _; exact Nat.one_pos
  | succ k ih => intro h; exact Nat.mul_pos (ih (fun i hi => h i (by omega))) (h k (by omega))

def tp (zs : List Int) (i : Nat) : Nat := (zs.getD (i * 2) 0).natAbs
def bt (zs : List Int) (i : Nat) : Nat := (zs.getD (i * 2 + 1) 0).natAbs

theorem step_frac {a b x y a' b' : Int} {n d : Nat} (hb : 1 ≤ b) (hy : 1 ≤ y) (h : a.natAbs * d = b.natAbs * n) (hs : stepR (a, b) x y = some (a', b')) : a'.natAbs * (d * y.natAbs) = b'.natAbs * (n * x.natAbs) := by
  have hB : 0 < b * y := Int.mul_pos (by omega) (by omega)
  have d1 : (Int.gcd (-(a * x)) (b * y) : Int) ∣ -(a * x) := Int.gcd_dvd_left ..
  have d2 : (Int.gcd (-(a * x)) (b * y) : Int) ∣ b * y := Int.gcd_dvd_right ..
  have hg : 0 < Int.gcd (-(a * x)) (b * y) := Int.gcd_pos_of_ne_zero_right _ (by omega)
  simp only [stepR] at hs
  split at hs
  · injection hs with hs
    injection hs with e1 e2
    rw [Int.tdiv_eq_ediv_of_dvd d1] at e1
    rw [Int.tdiv_eq_ediv_of_dvd d2] at e2
    have m1 := congrArg Int.natAbs (Int.mul_ediv_cancel' d1)
    have m2 := congrArg Int.natAbs (Int.mul_ediv_cancel' d2)
    rw [e1, Int.natAbs_mul, Int.natAbs_neg, Int.natAbs_mul, Int.natAbs_natCast] at m1
    rw [e2, Int.natAbs_mul, Int.natAbs_mul, Int.natAbs_natCast] at m2
    generalize Int.gcd (-(a * x)) (b * y) = g at *
    refine Nat.eq_of_mul_eq_mul_left hg ?_
    rw [← Nat.mul_assoc, m1, ← Nat.mul_assoc g, m2]
    calc a.natAbs * x.natAbs * (d * y.natAbs) = a.natAbs * d * (x.natAbs * y.natAbs) := by ac_rfl
      _ = b.natAbs * n * (x.natAbs * y.natAbs) := by rw [h]
      _ = b.natAbs * y.natAbs * (n * x.natAbs) := by ac_rfl
  · cases hs

theorem acc_frac {zs : List Int} (hgs : gearsB zs = true) : ∀ (k : Nat) (a b : Int), 2 * k ≤ zs.length → accK zs k = some (a, b) → a.natAbs * pr (bt zs) k = b.natAbs * pr (tp zs) k := by
  have hG : ∀ j (h : j < zs.length), gearP zs[j] := fun j h => by
    simp only [gearsB, List.all_eq_true, decide_eq_true_eq] at hgs
    exact hgs _ (List.getElem_mem h)
  intro k
  induction k with
  | zero =>
    intro a b _ h
    simp only [accK, Option.some.injEq, Prod.mk.injEq] at h
    obtain ⟨rfl, rfl⟩ := h
    rfl
  | succ k ih =>
    intro a b hk h
    rw [accK] at h
    cases hp : accK zs k with
    | none => rw [hp] at h; cases h
    | some p =>
      rw [hp] at h
      obtain ⟨a0, b0⟩ := p
      have h' : stepR (a0, b0) (zs.getD (k * 2) 0) (zs.getD (k * 2 + 1) 0) = some (a, b) := h
      have hkept := acc_kept hgs k a0 b0 (by omega) hp
      have hy : gearP (zs.getD (k * 2 + 1) 0) := by rw [at_getD zs _ (show k * 2 + 1 < zs.length by omega)]; exact hG _ _
      have hy' : 1 ≤ zs.getD (k * 2 + 1) 0 := by have := hy.1; omega
      exact step_frac hkept.2.2.1.1 hy' (ih a0 b0 (by omega) hp) h'

theorem red_unique {a b c d n m : Nat} (h1 : Nat.Coprime a b) (h2 : Nat.Coprime c d) (hn : 0 < n) (hb : 0 < b) (e1 : a * m = b * n) (e2 : c * n = d * m) : c = b ∧ d = a := by
  have e : c * a = d * b := by
    refine Nat.eq_of_mul_eq_mul_left hn ?_
    calc n * (c * a) = c * n * a := by ac_rfl
      _ = d * m * a := by rw [e2]
      _ = d * (a * m) := by ac_rfl
      _ = d * (b * n) := by rw [e1]
      _ = n * (d * b) := by ac_rfl
  have k1 : b ∣ c := Nat.Coprime.dvd_of_dvd_mul_right h1.symm ⟨d, by rw [e, Nat.mul_comm]⟩
  have k2 : c ∣ b := Nat.Coprime.dvd_of_dvd_mul_left h2 ⟨a, e.symm⟩
  have k3 : c = b := Nat.dvd_antisymm k2 k1
  refine ⟨k3, ?_⟩
  rw [k3, Nat.mul_comm d b] at e
  exact (Nat.eq_of_mul_eq_mul_left hb e).symm

theorem rev_at (zs : List Int) (j : Nat) (h : j < zs.length) : zs.reverse.getD j 0 = zs.getD (zs.length - 1 - j) 0 := by
  rw [at_getD _ _ (by simpa using h), at_getD _ _ (by omega), List.getElem_reverse]

/-- The turned train's ratio. -/
theorem turned {zs : List Int} {U V a b : Int} (h : trainOut zs = ((U, V), true)) (h' : trainOut zs.reverse = ((a, b), true)) : a.natAbs = V.natAbs ∧ b.natAbs = U.natAbs := by
  obtain ⟨k1, g1, l1, e1⟩ := out_kept h
  obtain ⟨k2, g2, l2, e2⟩ := out_kept h'
  rw [List.length_reverse] at k2 l2 e2
  have hl : zs.length % 2 = 0 := by simp only [lenB, decide_eq_true_eq] at l1; exact l1.2.2
  have hG : ∀ j (h : j < zs.length), gearP zs[j] := fun j h => by
    simp only [gearsB, List.all_eq_true, decide_eq_true_eq] at g1
    exact g1 _ (List.getElem_mem h)
  obtain ⟨m, hm⟩ : ∃ m, m = zs.length / 2 := ⟨_, rfl⟩
  have hlen : zs.length = 2 * m := by omega
  rw [← hm] at k1 k2 e1 e2
  have f1 := acc_frac g1 m U V (by omega) e1
  have f2 := acc_frac g2 m a b (by rw [List.length_reverse]; omega) e2
  have r1 : pr (tp zs.reverse) m = pr (bt zs) m := by
    rw [← pr_rev (bt zs) m]
    refine pr_congr m fun i hi => ?_
    show (zs.reverse.getD (i * 2) 0).natAbs = (zs.getD ((m - 1 - i) * 2 + 1) 0).natAbs
    rw [rev_at zs _ (by omega), show zs.length - 1 - i * 2 = (m - 1 - i) * 2 + 1 by omega]
  have r2 : pr (bt zs.reverse) m = pr (tp zs) m := by
    rw [← pr_rev (tp zs) m]
    refine pr_congr m fun i hi => ?_
    show (zs.reverse.getD (i * 2 + 1) 0).natAbs = (zs.getD ((m - 1 - i) * 2) 0).natAbs
    rw [rev_at zs _ (by omega), show zs.length - 1 - (i * 2 + 1) = (m - 1 - i) * 2 by omega]
  rw [r1, r2] at f2
  have p1 : 0 < pr (tp zs) m := pr_pos m fun i hi => by
    show 0 < (zs.getD (i * 2) 0).natAbs
    rw [at_getD zs _ (by omega)]
    have := (hG (i * 2) (by omega)).1
    omega
  have c1 : Nat.Coprime U.natAbs V.natAbs := by have := k1.1; rw [Int.gcd_eq_natAbs_gcd_natAbs] at this; exact this
  have c2 : Nat.Coprime a.natAbs b.natAbs := by have := k2.1; rw [Int.gcd_eq_natAbs_gcd_natAbs] at this; exact this
  have hV := k1.2.2.1.1
  exact red_unique c1 c2 p1 (by omega) f1 f2

end Go.Proofs.YtiiocjkhjogfkaaDoor
