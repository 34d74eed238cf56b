/-
  Every part of a path has units: the program's floor and the reference's agree.
-/
import Derived.Test.YtnlmiemnblppbaaUt
import Derived.Test.YtnlmiemnblppbaaFv
namespace Go.Proofs.Ytnlmiemnblppbaa
open Ieee

theorem s_binade : single.binade = 8388608 := by decide
theorem s_least : single.leastPlace = -149 := by decide
theorem s_inf : single.infRung = 2139095040 := by decide
theorem s_frac : single.fractionBits = 23 := rfl
theorem d_binade : double.binade = 4503599627370496 := by decide
theorem d_least : double.leastPlace = -1074 := by decide
theorem d_inf : double.infRung = 9218868437227405312 := by decide

/-- A part of a path: a finite word whose rung is at most that of 4096. -/
theorem part_rung (x : Nat) (h : partB x = true) : Fin0 single x ∧ rungW single x ≤ 1166016512 := by
  have hf : FloatKind.f32.format = single := rfl
  unfold partB geB leB at h
  rw [hf] at h
  simp only [Bool.and_eq_true, Bool.or_eq_true, beq_iff_eq] at h
  obtain ⟨h1, h2⟩ := h
  have hfin : Fin0 single x := by
    by_cases hfin : rungW single x < single.infRung
    · exact hfin
    · exfalso
      have e1 : single.read 3313500160 = .number true 8388608 (-11) := by decide
      have e2 : single.read 1166016512 = .number false 8388608 (-11) := by decide
      unfold Format.order at h1 h2
      rw [e1] at h1
      rw [e2] at h2
      have hr : single.read x = if rungW single x = single.infRung then .infinity (sgnW single x) else .nan (sgnW single x) (rungW single x - single.infRung) := by
        unfold Format.read
        dsimp only
        unfold rungW at hfin ⊢
        rw [if_neg (by rw [s_inf] at hfin; rw [s_binade]; omega), if_neg hfin]
        rfl
      rw [hr] at h1 h2
      by_cases hi : rungW single x = single.infRung
      · rw [if_pos hi] at h1 h2
        cases hs : sgnW single x <;> rw [hs] at h1 h2 <;> simp [Datum.order] at h1 h2
      · rw [if_neg hi] at h1
        simp [Datum.order] at h1
  refine ⟨hfin, ?_⟩
  have f1 : Fin0 single 3313500160 := by unfold Fin0 rungW; rw [s_inf]; decide
  have f2 : Fin0 single 1166016512 := by unfold Fin0 rungW; rw [s_inf]; decide
  rw [order_key single x _ hfin f1] at h1
  rw [order_key single x _ hfin f2] at h2
  have k1 : keyW single 3313500160 = -1166016512 := by decide
  have k2 : keyW single 1166016512 = 1166016512 := by decide
  rw [k1] at h1
  rw [k2] at h2
  have a1 : -1166016512 ≤ keyW single x := by
    rcases h1 with h1 | h1
    · have := (cmp_gt _ _).1 (Option.some.inj h1); omega
    · have := cmp_eq (Option.some.inj h1); omega
  have a2 : keyW single x ≤ 1166016512 := by
    rcases h2 with h2 | h2
    · have := (cmp_lt _ _).1 (Option.some.inj h2); omega
    · have := cmp_eq (Option.some.inj h2); omega
  unfold keyW at a1 a2
  by_cases hs : sgnW single x = true
  · rw [if_pos hs] at a1 a2; omega
  · rw [if_neg hs] at a1 a2; omega

theorem rungV_le {f : Format} {r s : Nat} (h : r ≤ s) : rungV f r ≤ rungV f s := by
  by_cases h1 : r = s
  · subst h1; exact Nat.le_refl _
  · exact Nat.le_of_lt (rungV_lt (by omega))

theorem log_le {m : Nat} {K : Nat} {p : Int} (hm : m ≠ 0) (hp : 0 ≤ p) (h : m * 2 ^ p.toNat ≤ 2 ^ K) : p + m.log2 ≤ K := by
  have h1 : 2 ^ m.log2 ≤ m := Nat.log2_self_le hm
  have h2 : 2 ^ (m.log2 + p.toNat) ≤ 2 ^ K := by
    rw [Nat.pow_add]
    exact Nat.le_trans (Nat.mul_le_mul_right _ h1) h
  have := (Nat.pow_le_pow_iff_right (by decide : 1 < 2)).1 h2
  omega

theorem log_lt {m : Nat} {K : Nat} {p : Int} (hm : m ≠ 0) (hp : 0 ≤ p) (h : m * 2 ^ p.toNat < 2 ^ (K + 1)) : p + m.log2 ≤ K := by
  have h1 : 2 ^ m.log2 ≤ m := Nat.log2_self_le hm
  have h2 : 2 ^ (m.log2 + p.toNat) < 2 ^ (K + 1) := by
    rw [Nat.pow_add]
    exact Nat.lt_of_le_of_lt (Nat.mul_le_mul_right _ h1) h
  have := (Nat.pow_lt_pow_iff_right (by decide : 1 < 2)).1 h2
  omega

theorem word_fin (f : Format) (neg : Bool) (r : Nat) (h : r < f.infRung) : Fin0 f (f.word neg r) := by
  unfold Fin0
  rw [rungW_word f neg r (Nat.lt_trans h f.infRung_lt)]
  exact h

/-- The scaled part. -/
theorem mul_unit (x G : Nat) (h : partB x = true) (hG : G ≤ 8) : ∃ r, Ieee.single.mul x (unitU G) = some (single.word (sgnW single x) r) ∧ r ≤ 148 * 8388608 := by
  obtain ⟨hf, hr⟩ := part_rung x h
  obtain ⟨m, p, hx, hp, hm, hm2, _⟩ := read_any single x hf
  have hu := unit_read G hG
  have hV : rungV single (rungW single x) ≤ 2 ^ 161 := Nat.le_trans (rungV_le hr) (by decide +kernel)
  rw [s_least] at hp hm
  have hun : unitU G = floatOfInt .f32 ((2 ^ G : Nat) : Int) := by
    unfold unitU
    rw [show ((2 ^ G : Nat) : Int) = (2 : Int) ^ G from by simp]
  refine ⟨nearR single (m * 8388608) (p + ((G : Int) - 23)), ?_, ?_⟩
  · unfold Format.mul
    rw [hun, hu, hx]
    show some (single.nearest _ _ _) = _
    rw [near_eq]
    cases sgnW single x <;> rfl
  · refine Nat.le_trans (nearR_bound single _ _ 146 ?_) (by rw [s_binade]; decide)
    intro h0
    have hm0 : m ≠ 0 := fun e => h0 (by rw [e, Nat.zero_mul])
    have h1 := log_le hm0 (by omega) (Nat.le_trans (Nat.le_of_eq hm) hV)
    have h2 : (m * 8388608).log2 = m.log2 + 23 := by
      have e : m * 8388608 = m * 2 ^ 23 := rfl
      rw [e]
      have b1 : 2 ^ m.log2 ≤ m := Nat.log2_self_le hm0
      have b2 : m < 2 ^ (m.log2 + 1) := Nat.lt_log2_self
      refine (Nat.log2_eq_iff (by omega)).2 ⟨?_, ?_⟩
      · rw [Nat.pow_add]; exact Nat.mul_le_mul_right _ b1
      · rw [show m.log2 + 23 + 1 = (m.log2 + 1) + 23 from by omega, Nat.pow_add]; exact Nat.mul_lt_mul_of_pos_right b2 (Nat.two_pow_pos _)
    rw [h2, s_frac, s_least]
    omega

theorem half_read : single.read 1056964608 = .number false 8388608 (-24) := by decide

theorem add_half (sg : Bool) (r : Nat) (h : r ≤ 148 * 8388608) : ∃ t q, Ieee.single.add (single.word sg r) 1056964608 = some (single.word t q) ∧ q ≤ 149 * 8388608 := by
  have hi : r < single.infRung := by rw [s_inf]; omega
  obtain ⟨m, p, hx, hp, hm, hm2, _⟩ := read_word single sg r hi
  have hV : rungV single r ≤ 2 ^ 170 := Nat.le_trans (rungV_le h) (by decide +kernel)
  rw [s_least] at hp hm
  have hr : single.add (single.word sg r) 1056964608 = some (single.nearest (if signed sg m (p - min p (-24)).toNat + signed false 8388608 (-24 - min p (-24)).toNat = 0 then sg && false else signed sg m (p - min p (-24)).toNat + signed false 8388608 (-24 - min p (-24)).toNat < 0) (signed sg m (p - min p (-24)).toNat + signed false 8388608 (-24 - min p (-24)).toNat).natAbs (min p (-24))) := by
    unfold Format.add
    rw [hx, half_read]
    rfl
  refine ⟨_, _, hr.trans (congrArg some (near_eq ..)), ?_⟩
  refine Nat.le_trans (nearR_bound single _ _ 147 ?_) (by rw [s_binade]; decide)
  intro h0
  have e1 := signed_val sg m p (-149) (min p (-24)) (by omega) (by omega)
  have e2 := signed_val false 8388608 (-24) (-149) (min p (-24)) (by omega) (by omega)
  have a1 := signed_le sg m (p - -149).toNat
  rw [Nat.shiftLeft_eq, hm] at a1
  have a2 : signed false 8388608 (-24 - -149 : Int).toNat = 2 ^ 148 := by decide +kernel
  rw [a2] at e2
  generalize signed sg m (p - min p (-24)).toNat = A at *
  generalize signed false 8388608 (-24 - min p (-24)).toNat = C at *
  have h1 := log_lt (m := (A + C).natAbs) (K := 170) (p := min p (-24) - -149) h0 (by omega) (by
    have e3 : (A + C).natAbs * 2 ^ (min p (-24) - -149).toNat = ((A + C) * ((2 ^ (min p (-24) - -149).toNat : Nat) : Int)).natAbs := by rw [Int.natAbs_mul, Int.natAbs_natCast]
    rw [e3, Int.add_mul, e1, e2]
    have e4 : (2 : Nat) ^ (170 + 1) = 2 * 2 ^ 170 := by decide +kernel
    have e5 : (2 : Nat) ^ 148 < 2 ^ 170 := by decide +kernel
    have e6 : ((2 : Int) ^ 148) = ((2 ^ 148 : Nat) : Int) := by decide +kernel
    rw [e6, e4]
    generalize (2 : Nat) ^ 170 = X at *
    generalize (2 : Nat) ^ 148 = Y at *
    generalize rungV single r = Z at *
    omega)
  rw [s_frac, s_least]
  omega

theorem conv_exact (t : Bool) (q E : Nat) (hE : E = 925) (h : q ≤ 149 * 8388608) : ∃ r, floatToFloatBits .f32 (single.word t q) .f64 = some (double.word t r) ∧ r < double.infRung ∧ rungV double r = rungV single q * 2 ^ E := by
  have hi : q < single.infRung := by rw [s_inf]; omega
  obtain ⟨m, p, hx, hp, hm, hm2, hp2⟩ := read_word single t q hi
  rw [s_least] at hp hm hp2
  rw [s_binade] at hm2 hp2
  have hq : q / 8388608 ≤ 149 := by omega
  have he := near_exact double m p (by rw [d_binade]; omega) (by rw [d_least]; omega) (by
    rw [d_least]
    have : double.exponentBits = 11 := rfl
    rw [this]
    omega)
  have hlt : nearR double m p < double.infRung := by
    refine Nat.lt_of_le_of_lt (nearR_bound double m p 1050 ?_) (by rw [d_binade, d_inf]; decide)
    intro h0
    have := (Nat.log2_lt h0 (k := 24)).2 (by omega)
    rw [d_least, show (double.fractionBits : Int) = 52 from rfl]
    omega
  refine ⟨nearR double m p, ?_, hlt, ?_⟩
  · unfold floatToFloatBits
    rw [if_neg (by decide)]
    show (match single.read (single.word t q) with
      | .nan _ _ => none
      | .infinity s => some _
      | .number s m e => if (double.read (double.nearest s m e)).isInfinity then none else some (double.nearest s m e)) = _
    rw [hx]
    dsimp only
    obtain ⟨m', p', hx', _⟩ := read_word double t _ hlt
    rw [near_eq, hx']
    rfl
  · rw [he, d_least, ← hm, Nat.mul_assoc, ← Nat.pow_add, show (p - -149).toNat + E = (p - -1074).toNat from by omega]

/-- The number whose word is t, r: cut down and to nought. -/
theorem cuts (f : Format) (t : Bool) (r K : Nat) (h : r < f.infRung) (hK : f.leastPlace = -(K : Int)) :
    (f.read (f.word t r)).integral .down = .number t (rungV f r / 2 ^ K + (t && rungV f r % 2 ^ K != 0).toNat) 0 ∧ (f.read (f.word t r)).toInt .zero = some (signed t (rungV f r / 2 ^ K) 0) := by
  obtain ⟨m, p, hx, hp, hm, _, _⟩ := read_word f t r h
  rw [hK] at hp hm
  rw [show p - -(K : Int) = p + K from by omega] at hm
  obtain ⟨s1, s2⟩ := scaled m p K hp
  rw [hm] at s1 s2
  rw [hx]
  refine ⟨?_, ?_⟩
  · unfold Datum.integral
    dsimp only
    rw [cut_down, s1]
    have : ((m <<< p.toNat) % 2 ^ (-p).toNat != 0) = (rungV f r % 2 ^ K != 0) := by
      by_cases h0 : rungV f r % 2 ^ K = 0
      · rw [h0, s2.2 h0]
      · rw [bne_iff_ne.2 h0, bne_iff_ne.2 (fun h => h0 (s2.1 h))]
    rw [this]
  · unfold Datum.toInt Datum.integral
    dsimp only
    rw [cut_to0, s1]

/-- A whole number as a word. -/
theorem whole (f : Format) (N K : Nat) (hK : f.leastPlace = -(K : Int)) (h : N < 2 * f.binade) (ho : K + 2 < 2 ^ f.exponentBits - 1) : nearR f N 0 < f.infRung ∧ rungV f (nearR f N 0) = N * 2 ^ K := by
  have he := near_exact f N 0 h (by omega) (by omega)
  refine ⟨?_, by rw [he, show (0 - f.leastPlace).toNat = K from by omega]⟩
  have hb := binade_pos f
  have hbd := nearR_bound f N 0 K (fun h0 => by
    have e : 2 * f.binade = 2 ^ (f.fractionBits + 1) := by rw [Nat.pow_succ, Nat.mul_comm]; rfl
    have := (Nat.log2_lt h0 (k := f.fractionBits + 1)).2 (by rw [← e]; exact h)
    omega)
  refine Nat.lt_of_le_of_lt hbd ?_
  rw [← Nat.add_mul, inf_eq]
  exact Nat.mul_lt_mul_of_pos_right ho hb

theorem div_scale (V A B : Nat) (hB : 0 < B) : V * B / (A * B) = V / A ∧ (V * B % (A * B) = 0 ↔ V % A = 0) := by
  rw [Nat.mul_div_mul_right _ _ hB, Nat.mul_mod_mul_right]
  exact ⟨rfl, fun h => by rcases Nat.mul_eq_zero.1 h with h | h <;> omega, fun h => by rw [h, Nat.zero_mul]⟩

theorem pow_split (a b c : Nat) (h : a + b = c) : 2 ^ c = 2 ^ a * 2 ^ b := by rw [← h, Nat.pow_add]

theorem small_int (t : Bool) (N : Nat) (h : N ≤ 4194305) : (if IntKind.i64.min ≤ signed t N 0 ∧ signed t N 0 ≤ IntKind.i64.max then some (signed t N 0) else none) = some (signed t N 0) := by
  have h1 : IntKind.i64.min = -9223372036854775808 := by decide
  have h2 : IntKind.i64.max = 9223372036854775807 := by decide
  have h3 : signed t N 0 = N ∨ signed t N 0 = -(N : Int) := by
    unfold signed
    rw [Nat.shiftLeft_zero]
    cases t
    · exact .inl rfl
    · exact .inr rfl
  rw [if_pos (by rw [h1, h2]; omega)]

theorem signed0 (t : Bool) (N : Nat) : signed t N 0 = if t then -(N : Int) else N := by
  unfold signed
  rw [Nat.shiftLeft_zero]

theorem part_unit (x G : Nat) (h : partB x = true) (hG : G ≤ 8) : ∃ n, UnitOk x G n ∧ -4194305 ≤ n ∧ n ≤ 4194305 := by
  obtain ⟨r, hm, hr⟩ := mul_unit x G h hG
  obtain ⟨t, q, ha, hq⟩ := add_half (sgnW single x) r hr
  obtain ⟨s, hc, hs, hv⟩ := conv_exact t q 925 rfl hq
  have hS : uS x G = single.word (sgnW single x) r := by unfold uS; rw [hm]; rfl
  have hY : uY x G = single.word t q := by unfold uY; rw [hS, ha]; rfl
  have hR : uR x G = double.word t s := by unfold uR; rw [hY, hc]; rfl
  have hV : rungV single q ≤ 2 ^ 171 := Nat.le_trans (rungV_le hq) (by decide +kernel)
  have hqi : q < single.infRung := by rw [s_inf]; omega
  have hW : rungV single q / 2 ^ 149 ≤ 4194304 := by
    have : (2 : Nat) ^ 171 = 2 ^ 149 * 4194304 := by decide +kernel
    rw [this] at hV
    exact Nat.div_le_of_le_mul hV
  obtain ⟨K, hK⟩ : ∃ K : Nat, K = 1074 := ⟨_, rfl⟩
  have hKl : double.leastPlace = -(K : Int) := by rw [hK]; exact d_least
  obtain ⟨c1, _⟩ := cuts double t s K hs hKl
  obtain ⟨_, c2⟩ := cuts single t q 149 hqi s_least
  have e := pow_split 149 925 K (by omega)
  obtain ⟨d1, d2⟩ := div_scale (rungV single q) (2 ^ 149) (2 ^ 925) (Nat.two_pow_pos _)
  rw [hv, e] at c1
  rw [d1] at c1
  have d3 : (rungV single q * 2 ^ 925 % (2 ^ 149 * 2 ^ 925) != 0) = (rungV single q % 2 ^ 149 != 0) := by
    by_cases h0 : rungV single q % 2 ^ 149 = 0
    · rw [h0, d2.2 h0]
    · rw [bne_iff_ne.2 h0, bne_iff_ne.2 (fun h => h0 (d2.1 h))]
  rw [d3] at c1
  obtain ⟨N, hN⟩ : ∃ N, rungV single q / 2 ^ 149 + (t && rungV single q % 2 ^ 149 != 0).toNat = N := ⟨_, rfl⟩
  rw [hN] at c1
  have hNs : N ≤ 4194305 := by
    rw [← hN]
    have : ∀ b : Bool, b.toNat ≤ 1 := fun b => by cases b <;> decide
    have := this (t && rungV single q % 2 ^ 149 != 0)
    omega
  obtain ⟨w1, w2⟩ := whole double N K hKl (by rw [d_binade]; omega) (by rw [hK]; decide)
  obtain ⟨_, c3⟩ := cuts double t (nearR double N 0) K w1 hKl
  rw [w2, Nat.mul_div_cancel _ (Nat.two_pow_pos _)] at c3
  have hF : uF x G = double.word t (nearR double N 0) := by
    unfold uF
    rw [hR, c1]
    exact near_eq ..
  obtain ⟨M, hM⟩ : ∃ M, rungV single q / 2 ^ 149 = M := ⟨_, rfl⟩
  rw [hM] at hW c2
  obtain ⟨v1, v2⟩ := whole single M 149 s_least (by rw [s_binade]; omega) (by decide)
  have hint : floatToIntVal .f32 (uY x G) .i64 = some (signed t M 0) := by
    unfold floatToIntVal
    show (match (single.read (uY x G)).toInt .zero with | some n => _ | none => none) = _
    rw [hY, c2]
    exact small_int t M (by omega)
  have hU : uN x G = signed t M 0 := by unfold uN; rw [hint]; rfl
  refine ⟨signed t N 0, ⟨by rw [hS]; exact hm, by rw [hS, hY]; exact ha, by rw [hY, hR]; exact hc, ?_, ?_, by rw [hU]; exact hint, ?_, ?_⟩, ?_⟩
  · obtain ⟨m, p, hx, _⟩ := read_word double t s hs
    rw [hR, hx]
    rfl
  · unfold floatToIntVal
    show (match (double.read (uF x G)).toInt .zero with | some n => _ | none => none) = _
    rw [hF, c3]
    exact small_int t N hNs
  · rw [hU, hY]
    have hwd : floatOfInt .f32 (signed t M 0) = single.word (decide (signed t M 0 < 0)) (nearR single (signed t M 0).natAbs 0) := near_eq ..
    have hab : (signed t M 0).natAbs = M := by rw [signed_le, Nat.shiftLeft_zero]
    rw [hab] at hwd
    have f1 : Fin0 single (single.word (decide (signed t M 0 < 0)) (nearR single M 0)) := word_fin _ _ _ v1
    have f2 : Fin0 single (single.word t q) := word_fin _ _ _ hqi
    have hil := single.infRung_lt
    rw [hwd, order_val _ _ _ f1 f2]
    have k1 : valW single (single.word (decide (signed t M 0 < 0)) (nearR single M 0)) = signed t M 0 * ((2 ^ 149 : Nat) : Int) := by
      unfold valW
      rw [sgnW_word _ _ _ (Nat.lt_trans v1 hil), rungW_word _ _ _ (Nat.lt_trans v1 hil), v2]
      generalize (2 : Nat) ^ 149 = X
      rw [signed0]
      cases t
      · rw [decide_eq_false (by simp)]
        simp
      · rw [if_pos rfl]
        by_cases h0 : M = 0
        · subst h0; simp
        · rw [decide_eq_true (by omega), if_pos rfl, Int.natCast_mul, Int.neg_mul]
    have k2 : valW single (single.word t q) = if t then -(rungV single q : Int) else rungV single q := by
      unfold valW
      rw [sgnW_word _ _ _ (Nat.lt_trans hqi hil), rungW_word _ _ _ (Nat.lt_trans hqi hil)]
    rw [k1, k2]
    have h3 := Nat.div_add_mod (rungV single q) (2 ^ 149)
    have h4 := Nat.mod_lt (rungV single q) (Nat.two_pow_pos 149)
    rw [hM] at h3 hN
    generalize rungV single q % 2 ^ 149 = R at *
    generalize rungV single q = V at *
    have hX : (0 : Nat) < 2 ^ 149 := Nat.two_pow_pos _
    rw [signed0, signed0]
    have key : ∀ X : Nat, X * M + R = V → R < X → (if some (compare ((if t then -(M : Int) else M) * (X : Int)) (if t then -(V : Int) else V)) = some .gt then (if t then -(M : Int) else (M : Int)) - 1 else if t then -(M : Int) else M) = if t then -(N : Int) else N := by
      intro X h3 h4
      have e3 : (X : Int) * M + R = V := by exact_mod_cast h3
      cases t
      · have : N = M := by rw [← hN]; simp
        subst this
        simp only [Bool.false_eq_true, if_false]
        rw [if_neg]
        intro hgt
        have := (cmp_gt _ _).1 (Option.some.inj hgt)
        rw [Int.mul_comm] at this
        omega
      · rw [if_pos rfl, if_pos rfl, if_pos rfl]
        have hiff : compare (-(M : Int) * (X : Int)) (-(V : Int)) = Ordering.gt ↔ R ≠ 0 := by
          rw [cmp_gt, Int.neg_mul, Int.mul_comm]
          omega
        by_cases h0 : R = 0
        · rw [if_neg (fun h => (hiff.1 (Option.some.inj h)) h0)]
          have : N = M := by rw [← hN, h0]; simp
          rw [this]
        · rw [if_pos (by rw [hiff.2 h0])]
          have : N = M + 1 := by rw [← hN]; simp [h0]
          rw [this]
          omega
    exact key _ h3 h4
  · rw [signed0]
    cases t <;> simp <;> omega
  · rw [signed0]
    cases t <;> simp <;> omega

/-- The units of a part. -/
def unitN (x G : Nat) : Int := if Ieee.single.order (floatOfInt .f32 (uN x G)) (uY x G) = some .gt then uN x G - 1 else uN x G

theorem part_unitN (x G : Nat) (h : partB x = true) (hG : G ≤ 8) : UnitOk x G (unitN x G) ∧ -4194305 ≤ unitN x G ∧ unitN x G ≤ 4194305 := by
  obtain ⟨n, hn, hb⟩ := part_unit x G h hG
  have : unitN x G = n := hn.low
  rw [this]
  exact ⟨hn, hb⟩

/-- The grid points along a path, 0 ahead of them. -/
def pathP (zs : List (Nat × Nat)) (G : Nat) : Nat → Int × Int
  | 0 => (0, 0)
  | i + 1 => if h : i < zs.length then (unitN (zs[i]).1 G, unitN (zs[i]).2 G) else (0, 0)

theorem pathP_at {zs : List (Nat × Nat)} {i : Nat} (G : Nat) (h : i < zs.length) : pathP zs G (i + 1) = (unitN (zs[i]).1 G, unitN (zs[i]).2 G) := by
  show (if h : i < zs.length then _ else _) = _
  rw [dif_pos h]

theorem path_pt {zs : List (Nat × Nat)} (hp : pathOk zs = true) {z : Nat × Nat} (hz : z ∈ zs) : ptB z = true := by
  simp only [pathOk, Bool.and_eq_true, List.all_eq_true] at hp
  exact hp.2 z hz

theorem grid_pt {z : Nat × Nat} (hz : ptB z = true) {G : Nat} (hG : G ≤ 8) : GridOk z G (unitN z.1 G, unitN z.2 G) ∧ (-4194305 ≤ unitN z.1 G ∧ unitN z.1 G ≤ 4194305) ∧ -4194305 ≤ unitN z.2 G ∧ unitN z.2 G ≤ 4194305 := by
  simp only [ptB, Bool.and_eq_true] at hz
  obtain ⟨h1, h2⟩ := part_unitN z.1 G hz.1 hG
  obtain ⟨h3, h4⟩ := part_unitN z.2 G hz.2 hG
  exact ⟨⟨h1, h3⟩, h2, h4⟩

theorem pathP_bd {zs : List (Nat × Nat)} (hp : pathOk zs = true) {G : Nat} (hG : G ≤ 8) (i : Nat) : (-4194305 ≤ (pathP zs G i).1 ∧ (pathP zs G i).1 ≤ 4194305) ∧ -4194305 ≤ (pathP zs G i).2 ∧ (pathP zs G i).2 ≤ 4194305 := by
  cases i with
  | zero =>
    rw [show pathP zs G 0 = (0, 0) from rfl]
    exact ⟨⟨by decide, by decide⟩, by decide, by decide⟩
  | succ i =>
    by_cases h : i < zs.length
    · rw [pathP_at G h]
      exact (grid_pt (path_pt hp (List.getElem_mem h)) hG).2
    · have : pathP zs G (i + 1) = (0, 0) := by
        show (if h : i < zs.length then _ else _) = _
        rw [dif_neg h]
      rw [this]
      exact ⟨⟨by decide, by decide⟩, by decide, by decide⟩

theorem pathP_grid {zs : List (Nat × Nat)} (hp : pathOk zs = true) {G : Nat} (hG : G ≤ 8) (i : Nat) (h : i < zs.length) : GridOk zs[i] G (pathP zs G (i + 1)) := by
  rw [pathP_at G h]
  exact (grid_pt (path_pt hp (List.getElem_mem h)) hG).1

theorem pathP_take {zs : List (Nat × Nat)} {K : Nat} (G : Nat) (hK : K ≤ zs.length) (i : Nat) (hi : i ≤ K) : pathP (zs.take K) G i = pathP zs G i := by
  cases i with
  | zero => rfl
  | succ i =>
    have h1 : i < (zs.take K).length := by simp; omega
    rw [pathP_at G h1, pathP_at G (show i < zs.length by omega), List.getElem_take]

end Go.Proofs.Ytnlmiemnblppbaa
