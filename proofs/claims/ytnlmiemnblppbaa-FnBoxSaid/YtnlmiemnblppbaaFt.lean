/-
  Floats as words, in plain Lean: finite words; sums, products and quotients of finite words are finite.
-/
import Derived.Test.YtnlmiemnblppbaaBase
namespace Go.Proofs.Ytnlmiemnblppbaa
open Ieee

theorem cut_le (neg : Bool) (n drop K : Nat) (h : n < 2 ^ (K + drop)) : Toward.even.cut neg n drop ≤ 2 ^ K := by
  have hK : 1 ≤ 2 ^ K := Nat.one_le_two_pow
  unfold Toward.cut
  dsimp only
  have hb : ∀ b : Bool, b.toNat ≤ 1 := fun b => by cases b <;> decide
  rw [Nat.one_shiftLeft]
  by_cases hd : drop ≤ n.log2 + 2
  · rw [Nat.min_eq_left hd]
    have : n / 2 ^ drop < 2 ^ K := (Nat.div_lt_iff_lt_mul (Nat.two_pow_pos _)).2 (by rw [← Nat.pow_add]; exact h)
    exact Nat.le_trans (Nat.add_le_add_left (hb _) _) this
  · rw [Nat.min_eq_right (by omega)]
    have h0 : n / 2 ^ (n.log2 + 2) = 0 := Nat.div_eq_of_lt (Nat.lt_of_lt_of_le Nat.lt_log2_self (Nat.pow_le_pow_right (by decide) (by omega)))
    rw [h0, Nat.zero_add]
    exact Nat.le_trans (hb _) hK

/-- The word's exponent field. -/
def fieldW (f : Format) (x : Nat) : Nat := x % f.signWeight / f.binade

theorem field_word (f : Format) (neg : Bool) (r : Nat) (h : r < f.signWeight) : fieldW f (f.word neg r) = r / f.binade := by
  unfold fieldW Format.word
  split
  · rw [Nat.add_mod_left, Nat.mod_eq_of_lt h]
  · rw [Nat.mod_eq_of_lt h]

theorem near_field (f : Format) (neg : Bool) (mag k e : Nat) (place : Int) (hm : mag < 2 ^ k) (he : place + k - 1 - f.fractionBits - f.leastPlace + 2 ≤ e) (he2 : 2 ≤ e) : fieldW f (f.nearest neg mag place) ≤ e := by
  unfold Format.nearest
  split
  · rw [field_word _ _ _ (Nat.two_pow_pos _), Nat.zero_div]
    exact Nat.zero_le _
  · rename_i h0
    dsimp only
    have hl : mag.log2 < k := (Nat.log2_lt h0).2 hm
    have hl2 : mag < 2 ^ (mag.log2 + 1) := Nat.lt_log2_self
    generalize hlast : max (place + mag.log2 - f.fractionBits) f.leastPlace = last
    have hk : Toward.even.cut neg (mag <<< (place - last).toNat) (last - place).toNat ≤ 2 ^ (f.fractionBits + 1) := by
      apply cut_le
      rw [Nat.shiftLeft_eq]
      have h1 : mag * 2 ^ (place - last).toNat < 2 ^ (mag.log2 + 1 + (place - last).toNat) := by
        rw [Nat.pow_add 2 (mag.log2 + 1)]
        exact Nat.mul_lt_mul_of_pos_right hl2 (Nat.two_pow_pos _)
      exact Nat.lt_of_lt_of_le h1 (Nat.pow_le_pow_right (by decide) (by omega))
    generalize Toward.even.cut neg (mag <<< (place - last).toNat) (last - place).toNat = kept at *
    have hw : min ((last - f.leastPlace).toNat * f.binade + kept) f.infRung < f.signWeight := Nat.lt_of_le_of_lt (Nat.min_le_right ..) f.infRung_lt
    rw [field_word _ _ _ hw]
    refine Nat.le_trans (Nat.div_le_div_right (Nat.min_le_left ..)) ?_
    have hb : 0 < f.binade := Nat.two_pow_pos _
    rw [Nat.mul_comm, Nat.mul_add_div hb]
    have hk2 : kept / f.binade ≤ 2 := by
      have : 2 ^ (f.fractionBits + 1) = 2 * f.binade := by rw [Nat.pow_succ, Nat.mul_comm]; rfl
      rw [this] at hk
      exact Nat.div_le_of_le_mul (by rw [Nat.mul_comm]; exact hk)
    omega

/-- What a finite word stands for. -/
theorem read_fin (x e : Nat) (h : fieldW single x ≤ e) (he : e ≤ 254) : ∃ (s : Bool) (m : Nat) (p : Int), single.read x = .number s m p ∧ m < 2 ^ 24 ∧ p + 150 ≤ max e 1 ∧ -149 ≤ p := by
  have hb : single.binade = 8388608 := by decide
  have hi : single.infRung = 2139095040 := by decide
  have hl : single.leastPlace = -149 := by decide
  unfold fieldW at h
  unfold Format.read
  dsimp only
  rw [hb] at h ⊢
  rw [hi, hl]
  generalize x % single.signWeight = r at *
  generalize (x / single.signWeight % 2 == 1) = s
  have e24 : 2 ^ 24 = 16777216 := by decide
  by_cases h1 : r < 8388608
  · rw [if_pos h1]
    exact ⟨_, _, _, rfl, by omega, by omega, by omega⟩
  · rw [if_neg h1, if_pos (by omega)]
    exact ⟨_, _, _, rfl, by omega, by omega, by omega⟩

theorem near32 (neg : Bool) (mag k e : Nat) (place : Int) (hm : mag < 2 ^ k) (he : place + k + 127 ≤ e) (he2 : 2 ≤ e) : fieldW single (single.nearest neg mag place) ≤ e :=
  near_field single neg mag k e place hm (by
    have hl : single.leastPlace = -149 := by decide
    have hf : (single.fractionBits : Int) = 23 := rfl
    rw [hl, hf]; omega) he2

theorem shift_lt (m a K : Nat) (h : m < 2 ^ K) : m <<< a < 2 ^ (K + a) := by
  rw [Nat.shiftLeft_eq, Nat.pow_add]
  exact Nat.mul_lt_mul_of_pos_right h (Nat.two_pow_pos _)

theorem signed_le (s : Bool) (m a : Nat) : (signed s m a).natAbs = m <<< a := by
  unfold signed
  generalize m <<< a = k
  split <;> omega

theorem cmp_self (a : Int) : compare a a = Ordering.eq := by
  show compareOfLessAndEq a a = _
  simp [compareOfLessAndEq]

theorem cmp_eq {a b : Int} (h : compare a b = Ordering.eq) : a = b := by
  have h : compareOfLessAndEq a b = Ordering.eq := h
  unfold compareOfLessAndEq at h
  split at h
  · cases h
  · split at h
    · assumption
    · cases h

theorem sum_fin (x y e : Nat) (hx : fieldW single x ≤ e) (hy : fieldW single y ≤ e) (h1 : 1 ≤ e) (he : e ≤ 254) : ∃ r, single.add x y = some r ∧ fieldW single r ≤ e + 2 := by
  obtain ⟨s, m, i, hr, hm, hi, hi2⟩ := read_fin x e hx he
  obtain ⟨t, n, j, hr', hn, hj, hj2⟩ := read_fin y e hy he
  refine ⟨_, by unfold Format.add; rw [hr, hr']; rfl, ?_⟩
  show fieldW single (single.nearest _ _ _) ≤ _
  have ha := signed_le s m (i - min i j).toNat
  have hb := signed_le t n (j - min i j).toNat
  have hc := shift_lt m (i - min i j).toNat 24 hm
  have hd := shift_lt n (j - min i j).toNat 24 hn
  have hP : 24 + (i - min i j).toNat ≤ 24 + (max i j - min i j).toNat := by omega
  have hQ : 24 + (j - min i j).toNat ≤ 24 + (max i j - min i j).toNat := by omega
  have hc2 := Nat.lt_of_lt_of_le hc (Nat.pow_le_pow_right (by decide) hP)
  have hd2 := Nat.lt_of_lt_of_le hd (Nat.pow_le_pow_right (by decide) hQ)
  refine near32 _ _ (25 + (max i j - min i j).toNat) _ _ ?_ ?_ (by omega)
  · have : 2 ^ (25 + (max i j - min i j).toNat) = 2 * 2 ^ (24 + (max i j - min i j).toNat) := by rw [show 25 + (max i j - min i j).toNat = (24 + (max i j - min i j).toNat) + 1 from by omega, Nat.pow_succ, Nat.mul_comm]
    rw [this]
    have := Int.natAbs_add_le (signed s m (i - min i j).toNat) (signed t n (j - min i j).toNat)
    omega
  · omega

theorem mul_fin (x y e f g : Nat) (hx : fieldW single x ≤ e) (hy : fieldW single y ≤ f) (he : e ≤ 254) (hf : f ≤ 254) (h1 : 1 ≤ e) (h2 : 1 ≤ f) (hg : e + f ≤ g + 125) (hg2 : 2 ≤ g) : ∃ r, single.mul x y = some r ∧ fieldW single r ≤ g := by
  obtain ⟨s, m, i, hr, hm, hi, hi2⟩ := read_fin x e hx he
  obtain ⟨t, n, j, hr', hn, hj, hj2⟩ := read_fin y f hy hf
  refine ⟨_, by unfold Format.mul; rw [hr, hr']; rfl, ?_⟩
  show fieldW single (single.nearest _ _ _) ≤ _
  refine near32 _ _ 48 _ _ ?_ ?_ hg2
  · have : (2 : Nat) ^ 48 = 2 ^ 24 * 2 ^ 24 := by decide
    rw [this]
    exact Nat.mul_lt_mul'' hm hn
  · omega

theorem int_fin (n : Int) (k e : Nat) (h : n.natAbs < 2 ^ k) (he : k + 127 ≤ e) : fieldW single (floatOfInt .f32 n) ≤ e := by
  show fieldW single (single.nearest _ _ _) ≤ _
  exact near32 _ _ k _ _ h (by omega) (by omega)

theorem div_fin (x u e : Nat) (n : Nat) (j : Int) (hx : fieldW single x ≤ e) (he : e ≤ 254) (h1 : 1 ≤ e) (hu : single.read u = .number false n j) (hn : 0 < n) (hj : 0 ≤ j + n.log2) : ∃ r, single.div x u = some r ∧ fieldW single r ≤ e + 1 := by
  obtain ⟨s, m, i, hr, hm, hi, hi2⟩ := read_fin x e hx he
  refine ⟨_, by unfold Format.div; rw [hr, hu]; simp only [Datum.quotient]; rw [if_neg (by omega)]; rfl, ?_⟩
  show fieldW single (single.nearest _ _ _) ≤ _
  have hf : single.fractionBits + 2 = 25 := rfl
  rw [hf]
  have hmore : m.log2 ≤ 23 := by
    by_cases h0 : m = 0
    · subst h0; decide
    · have := (Nat.log2_lt h0).2 hm; omega
  have hd := shift_lt m (25 + n.log2 - m.log2) (m.log2 + 1) Nat.lt_log2_self
  have hle : 2 ^ n.log2 ≤ n := Nat.log2_self_le (by omega)
  have hq : m <<< (25 + n.log2 - m.log2) / n < 2 ^ 26 := by
    refine (Nat.div_lt_iff_lt_mul hn).2 (Nat.lt_of_lt_of_le hd ?_)
    rw [show m.log2 + 1 + (25 + n.log2 - m.log2) = 26 + n.log2 from by omega, Nat.pow_add]
    exact Nat.mul_le_mul_left _ hle
  have hb : ∀ b : Bool, b.toNat ≤ 1 := fun b => by cases b <;> decide
  refine near32 _ _ 27 _ _ ?_ ?_ (by omega)
  · have e27 : (2 : Nat) ^ 27 = 2 * 2 ^ 26 := by decide
    have := hb (m <<< (25 + n.log2 - m.log2) % n != 0)
    omega
  · omega

/-- The word of a whole power of two. -/
theorem unit_read (g : Nat) (hg : g ≤ 8) : single.read (floatOfInt .f32 (2 ^ g : Nat)) = .number false 8388608 ((g : Int) - 23) := by
  have : ∀ g : Fin 9, single.read (floatOfInt .f32 ((2 ^ g.1 : Nat) : Int)) = .number false 8388608 ((g.1 : Int) - 23) := by decide +kernel
  exact this ⟨g, by omega⟩

/-- A single word as a double word. -/
theorem conv_fin (x e : Nat) (hx : fieldW single x ≤ e) (he : e ≤ 254) : ∃ r s m p, floatToFloatBits .f32 x .f64 = some r ∧ double.read r = .number s m p := by
  obtain ⟨s, m, i, hr, hm, hi, hi2⟩ := read_fin x e hx he
  have hn : fieldW double (double.nearest s m i) ≤ 1200 := near_field double s m 24 1200 i hm (by
    have hl : double.leastPlace = -1074 := by decide
    have hf : (double.fractionBits : Int) = 52 := rfl
    rw [hl, hf]; omega) (by decide)
  have hd : ∃ s' m' p', double.read (double.nearest s m i) = .number s' m' p' := by
    have hb : double.binade = 4503599627370496 := by decide
    have hi : double.infRung = 9218868437227405312 := by decide
    unfold fieldW at hn
    unfold Format.read
    dsimp only
    rw [hb] at hn ⊢
    rw [hi]
    generalize (double.nearest s m i) % double.signWeight = r at *
    by_cases h1 : r < 4503599627370496
    · rw [if_pos h1]; exact ⟨_, _, _, rfl⟩
    · rw [if_neg h1, if_pos (by omega)]; exact ⟨_, _, _, rfl⟩
  obtain ⟨s', m', p', hd⟩ := hd
  refine ⟨double.nearest s m i, s', m', p', ?_, hd⟩
  unfold floatToFloatBits
  rw [if_neg (by decide)]
  show (match single.read x with
    | .nan _ _ => none
    | .infinity s => some _
    | .number s m e => if (double.read (double.nearest s m e)).isInfinity then none else some (double.nearest s m e)) = _
  rw [hr]
  dsimp only
  rw [hd]
  rfl

theorem order_self (f : Format) (x : Nat) (s : Bool) (m : Nat) (p : Int) (h : f.read x = .number s m p) : f.order x x = some .eq := by
  unfold Format.order
  rw [h]
  simp only [Datum.order]
  rw [cmp_self]

theorem order_self32 (x e : Nat) (hx : fieldW single x ≤ e) (he : e ≤ 254) : single.order x x = some .eq := by
  obtain ⟨s, m, i, hr, _⟩ := read_fin x e hx he
  exact order_self _ _ _ _ _ hr

/-- One over a zero. -/
theorem inv_zero (x : Nat) (s : Bool) (m : Nat) (p : Int) (h : double.read x = .number s m p) (h0 : double.order x 0 = some .eq) : ∃ r, double.div 4607182418800017408 x = some r := by
  unfold Format.order at h0
  rw [h, show double.read 0 = .number false 0 (-1074) from by decide] at h0
  simp only [Datum.order, Option.some.injEq] at h0
  have h1 := cmp_eq h0
  have h2 := signed_le s m (p - min p (-1074)).toNat
  have h3 := signed_le false 0 (-1074 - min p (-1074)).toNat
  rw [h1, h3] at h2
  have h4 : m = 0 := by
    rw [Nat.zero_shiftLeft, Nat.shiftLeft_eq] at h2
    rcases Nat.mul_eq_zero.1 h2.symm with h | h
    · exact h
    · exact absurd h (Nat.ne_of_gt (Nat.two_pow_pos _))
  subst h4
  unfold Format.div
  rw [h, show double.read 4607182418800017408 = .number false 4503599627370496 (-52) from by decide]
  exact ⟨_, rfl⟩

end Go.Proofs.Ytnlmiemnblppbaa
