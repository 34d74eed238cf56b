/-
  The ratio of a train in plain words: pair by pair, reduced.
-/
import Derived.Test.YtiiocjkhjogfkaaDoorGcd
import Derived.Test.YtiiocjkhjogfkaaDoorChunk
namespace Go.Proofs.YtiiocjkhjogfkaaDoor
open Go.RowKit

/-- One pair: the tops negated and multiplied, reduced; none if a part is too great. -/
def stepR (p : Int × Int) (x y : Int) : Option (Int × Int) :=
  let g : Int := Int.gcd (-(p.1 * x)) (p.2 * y)
  if -1000000000 ≤ (-(p.1 * x)).tdiv g ∧ (-(p.1 * x)).tdiv g ≤ 1000000000 ∧ (p.2 * y).tdiv g ≤ 1000000000 then some ((-(p.1 * x)).tdiv g, (p.2 * y).tdiv g) else none

/-- After the first k pairs. -/
def accK (zs : List Int) : Nat → Option (Int × Int)
  | 0 => some (1, 1)
  | k + 1 => (accK zs k).bind fun p => stepR p (zs.getD (k * 2) 0) (zs.getD (k * 2 + 1) 0)

/-- The same over a list of places. -/
def accP (zs : List Int) {m : Nat} (xs : List (Pl m)) : Option (Int × Int) :=
  xs.foldl (fun a x => a.bind fun p => stepR p (zs.getD (x.1 * 2) 0) (zs.getD (x.1 * 2 + 1) 0)) (some (1, 1))

theorem accP_snoc (zs : List Int) {m : Nat} (xs : List (Pl m)) (x : Pl m) : accP zs (xs ++ [x]) = (accP zs xs).bind fun p => stepR p (zs.getD (x.1 * 2) 0) (zs.getD (x.1 * 2 + 1) 0) := by
  simp [accP]

theorem accP_order (zs : List Int) {m : Nat} : ∀ (k : Nat) (xs : List (Pl m)), xs.length = k → InOrder xs → accP zs xs = accK zs k := by
  intro k
  induction k with
  | zero => intro xs h _; rw [List.eq_nil_of_length_eq_zero h]; rfl
  | succ k ih =>
    intro xs h ho
    have hne : xs ≠ [] := by intro e; rw [e] at h; simp at h
    have hd := List.dropLast_concat_getLast hne
    have hl : xs.dropLast.length = k := by simp [h]
    have hx : (xs.getLast hne).1 = k := ho k _ (by rw [List.getLast_eq_getElem]; simp [h])
    have ho' : InOrder xs.dropLast := fun i x hi => ho i x (by
      rw [List.getElem?_dropLast] at hi
      split at hi
      · exact hi
      · cases hi)
    rw [← hd, accP_snoc, ih _ hl ho', hx]
    rfl

theorem accK_none (zs : List Int) {k : Nat} (h : accK zs k = none) : ∀ j, k ≤ j → accK zs j = none := by
  intro j hj
  induction j with
  | zero => obtain rfl : k = 0 := by omega
            exact h
  | succ j ih =>
    by_cases e : k = j + 1
    · rw [← e]; exact h
    · rw [accK, ih (by omega)]; rfl

/-- Bounds of one step: products and quotients. -/
theorem step_bd {t b x y : Int} (ht : -1000000000 ≤ t ∧ t ≤ 1000000000) (hb : 1 ≤ b ∧ b ≤ 1000000000) (hx : 6 ≤ x ∧ x ≤ 240) (hy : 6 ≤ y ∧ y ≤ 240) :
    ∃ T B g U V : Int, -(t * x) = T ∧ b * y = B ∧ (Int.gcd T B : Int) = g ∧ T.tdiv g = U ∧ B.tdiv g = V ∧ (-240000000000 ≤ T ∧ T ≤ 240000000000) ∧ (1 ≤ B ∧ B ≤ 240000000000) ∧ (1 ≤ g ∧ g ≤ 240000000000) ∧ (-240000000000 ≤ U ∧ U ≤ 240000000000) ∧ (1 ≤ V ∧ V ≤ 240000000000) := by
  have a1 : -240000000000 ≤ t * x ∧ t * x ≤ 240000000000 := by
    have n1 : (t * x).natAbs = t.natAbs * x.natAbs := Int.natAbs_mul ..
    have n2 : t.natAbs * x.natAbs ≤ 1000000000 * 240 := Nat.mul_le_mul (by omega) (by omega)
    omega
  have a2 : 1 ≤ b * y ∧ b * y ≤ 240000000000 := by
    have n1 : (b * y).natAbs = b.natAbs * y.natAbs := Int.natAbs_mul ..
    have n2 : b.natAbs * y.natAbs ≤ 1000000000 * 240 := Nat.mul_le_mul (by omega) (by omega)
    have n3 : 0 < b * y := Int.mul_pos (by omega) (by omega)
    omega
  generalize t * x = u at *
  generalize b * y = B at *
  have g1 : 0 < Int.gcd (-u) B := Int.gcd_pos_of_ne_zero_right _ (by omega)
  have g2 : Int.gcd (-u) B ∣ B.natAbs := Nat.gcd_dvd_right _ _
  have g3 := Nat.le_of_dvd (by omega) g2
  refine ⟨-u, B, (Int.gcd (-u) B : Int), _, _, rfl, rfl, rfl, rfl, rfl, by omega, by omega, by omega, ?_, ?_⟩
  · have h1 : ((-u).tdiv (Int.gcd (-u) B : Int)).natAbs = (-u).natAbs / Int.gcd (-u) B := by rw [Int.natAbs_tdiv]; rfl
    have h2 : (-u).natAbs / Int.gcd (-u) B ≤ (-u).natAbs := Nat.div_le_self _ _
    omega
  · have h0 : B.tdiv (Int.gcd (-u) B : Int) = ((B.natAbs / Int.gcd (-u) B : Nat) : Int) := by
      rw [show B = (B.natAbs : Int) by omega]
      rfl
    have h2 : B.natAbs / Int.gcd (-u) B ≤ B.natAbs := Nat.div_le_self _ _
    have h3 : 0 < B.natAbs / Int.gcd (-u) B := Nat.div_pos g3 g1
    omega

end Go.Proofs.YtiiocjkhjogfkaaDoor
