/-
  Distances of parts, in plain Lean: differences both ways, the greatest of words, 0 less a word.
-/
import Derived.Test.YtnlmiemnblppbaaFu
namespace Go.Proofs.Ytnlmiemnblppbaa
open Ieee

theorem signed_not (s : Bool) (n a : Nat) : signed (!s) n a = - signed s n a := by
  unfold signed
  cases s <;> simp

theorem sub_form (x y : Nat) (sx : Bool) (m : Nat) (i : Int) (sy : Bool) (n : Nat) (j : Int) (hx : single.read x = .number sx m i) (hy : single.read y = .number sy n j) :
    ∃ s, single.sub x y = some (single.word s (nearR single (signed sx m (i - min i j).toNat - signed sy n (j - min i j).toNat).natAbs (min i j))) := by
  have : ∃ s, single.sub x y = some (single.nearest s (signed sx m (i - min i j).toNat - signed sy n (j - min i j).toNat).natAbs (min i j)) := by
    unfold Format.sub
    rw [hx, hy]
    simp only [Datum.opposite, Datum.sum, Option.map_some]
    rw [signed_not, ← Int.sub_eq_add_neg]
    exact ⟨_, rfl⟩
  obtain ⟨s, h⟩ := this
  exact ⟨s, by rw [h, near_eq]⟩

theorem sub_parts (x y : Nat) (hx : partB x = true) (hy : partB y = true) : ∃ s t r, single.sub x y = some (single.word s r) ∧ single.sub y x = some (single.word t r) ∧ r < single.infRung ∧ (r = 0 ↔ valW single x = valW single y) := by
  obtain ⟨fx, rx⟩ := part_rung x hx
  obtain ⟨fy, ry⟩ := part_rung y hy
  obtain ⟨m, i, hr, hi, hm, _⟩ := read_any single x fx
  obtain ⟨n, j, hr', hj, hn, _⟩ := read_any single y fy
  obtain ⟨s, h1⟩ := sub_form x y _ m i _ n j hr hr'
  obtain ⟨t, h2⟩ := sub_form y x _ n j _ m i hr' hr
  have e1 := signed_val (sgnW single x) m i single.leastPlace (min i j) (by omega) (by omega)
  have e2 := signed_val (sgnW single y) n j single.leastPlace (min i j) (by omega) (by omega)
  rw [signed_rung single x m i hm] at e1
  rw [signed_rung single y n j hn] at e2
  rw [Int.min_comm j i] at h2
  have b1 : rungV single (rungW single x) ≤ 2 ^ 161 := Nat.le_trans (rungV_le rx) (by decide +kernel)
  have b2 : rungV single (rungW single y) ≤ 2 ^ 161 := Nat.le_trans (rungV_le ry) (by decide +kernel)
  have v1 : (valW single x).natAbs ≤ 2 ^ 161 := by
    unfold valW
    split <;> omega
  have v2 : (valW single y).natAbs ≤ 2 ^ 161 := by
    unfold valW
    split <;> omega
  rw [s_least] at hi hj e1 e2
  generalize signed (sgnW single x) m (i - min i j).toNat = A at *
  generalize signed (sgnW single y) n (j - min i j).toNat = C at *
  have hsym : (C - A).natAbs = (A - C).natAbs := by omega
  rw [hsym] at h2
  have hp : (0 : Int) < ((2 ^ (min i j - -149).toNat : Nat) : Int) := by exact_mod_cast Nat.two_pow_pos _
  refine ⟨s, t, _, h1, h2, ?_, ?_⟩
  · refine Nat.lt_of_le_of_lt (nearR_bound single _ _ 148 ?_) (by rw [s_binade, s_inf]; decide)
    intro h0
    have h3 := log_lt (m := (A - C).natAbs) (K := 162) (p := min i j - -149) h0 (by omega) (by
      have e3 : (A - C).natAbs * 2 ^ (min i j - -149).toNat = ((A - C) * ((2 ^ (min i j - -149).toNat : Nat) : Int)).natAbs := by rw [Int.natAbs_mul, Int.natAbs_natCast]
      rw [e3, Int.sub_mul, e1, e2]
      have e4 : (2 : Nat) ^ (162 + 1) = 4 * 2 ^ 161 := by decide +kernel
      have e5 : 0 < (2 : Nat) ^ 161 := by decide +kernel
      rw [e4]
      generalize (2 : Nat) ^ 161 = X at *
      omega)
    rw [s_frac, s_least]
    omega
  · constructor
    · intro h0
      by_cases hz : (A - C).natAbs = 0
      · have : A = C := by omega
        rw [← e1, ← e2, this]
      · have := nearR_pos single (A - C).natAbs (min i j) hz (by rw [s_least]; omega) (by rw [s_inf]; decide)
        omega
    · intro hv
      rw [← e1, ← e2] at hv
      have : A = C := Int.eq_of_mul_eq_mul_right (Int.ne_of_gt hp) hv
      have hz : (A - C).natAbs = 0 := by omega
      unfold nearR
      rw [if_pos hz]

/-- How far two parts are apart. -/
def disW (x y : Nat) : Nat := rungW single ((single.sub x y).getD 0)

theorem dis_ok (x y : Nat) (hx : partB x = true) (hy : partB y = true) : (∃ s, single.sub x y = some (single.word s (disW x y))) ∧ disW y x = disW x y ∧ disW x y < single.infRung ∧ (disW x y = 0 ↔ single.order x y = some .eq) := by
  obtain ⟨s, t, r, h1, h2, h3, h4⟩ := sub_parts x y hx hy
  have hs := Nat.lt_trans h3 single.infRung_lt
  have e1 : disW x y = r := by unfold disW; rw [h1]; exact rungW_word single s r hs
  have e2 : disW y x = r := by unfold disW; rw [h2]; exact rungW_word single t r hs
  rw [e1, e2]
  refine ⟨⟨s, h1⟩, rfl, h3, h4.trans ?_⟩
  rw [order_val single x y (part_rung x hx).1 (part_rung y hy).1]
  constructor
  · intro h; rw [h, cmp_self]
  · intro h; exact cmp_eq (Option.some.inj h)

theorem word_f (r : Nat) : single.word false r = r := rfl

theorem keyW_word (s : Bool) (r : Nat) (h : r < single.infRung) : keyW single (single.word s r) = if s then -(r : Int) else r := by
  have hs := Nat.lt_trans h single.infRung_lt
  unfold keyW
  rw [sgnW_word _ _ _ hs, rungW_word _ _ _ hs]

theorem cut_exact (q d : Nat) (hq : q ≠ 0) : Toward.even.cut false (q * 2 ^ d) d = q := by
  have hp := Nat.two_pow_pos d
  have hl : d ≤ (q * 2 ^ d).log2 + 2 := by
    have h1 : 2 ^ d ≤ q * 2 ^ d := Nat.le_mul_of_pos_left _ (Nat.pos_of_ne_zero hq)
    have h2 := (Nat.le_log2 (n := q * 2 ^ d) (k := d) (by have := Nat.mul_ne_zero hq (Nat.ne_of_gt hp); exact this)).2 h1
    omega
  unfold Toward.cut
  dsimp only
  rw [Nat.min_eq_left hl, Nat.one_shiftLeft, Nat.mul_div_cancel _ hp, Nat.mul_mod_left]
  have : (decide (2 ^ d < 2 * 0) || 2 ^ d == 2 * 0 && q % 2 == 1) = false := by
    simp
  rw [this]
  rfl

theorem log_scale (m k : Nat) (h : m ≠ 0) : (m * 2 ^ k).log2 = m.log2 + k := by
  have b1 : 2 ^ m.log2 ≤ m := Nat.log2_self_le h
  have b2 : m < 2 ^ (m.log2 + 1) := Nat.lt_log2_self
  have hp := Nat.two_pow_pos k
  refine (Nat.log2_eq_iff (Nat.mul_ne_zero h (Nat.ne_of_gt hp))).2 ⟨?_, ?_⟩
  · rw [Nat.pow_add]; exact Nat.mul_le_mul_right _ b1
  · rw [show m.log2 + k + 1 = (m.log2 + 1) + k from by omega, Nat.pow_add]; exact Nat.mul_lt_mul_of_pos_right b2 hp

theorem near_scale (f : Format) (m k : Nat) (place : Int) (hm : m < 2 * f.binade) (hp : f.leastPlace ≤ place + k) : nearR f (m * 2 ^ k) place = nearR f m (place + k) := by
  by_cases h0 : m = 0
  · subst h0
    rw [Nat.zero_mul]
    rfl
  · have hk0 : m * 2 ^ k ≠ 0 := Nat.mul_ne_zero h0 (Nat.ne_of_gt (Nat.two_pow_pos k))
    unfold nearR
    rw [if_neg h0, if_neg hk0, log_scale m k h0]
    dsimp only
    have e : 2 * f.binade = 2 ^ (f.fractionBits + 1) := by rw [Nat.pow_succ, Nat.mul_comm]; rfl
    have hl : m.log2 < f.fractionBits + 1 := (Nat.log2_lt h0).2 (by rw [← e]; exact hm)
    rw [show place + ((m.log2 + k : Nat) : Int) - (f.fractionBits : Int) = place + k + m.log2 - f.fractionBits from by omega]
    have hle : max (place + k + m.log2 - f.fractionBits) f.leastPlace ≤ place + k := by omega
    generalize max (place + k + m.log2 - f.fractionBits) f.leastPlace = last at *
    rw [show (last - (place + k)).toNat = 0 from by omega, cut_zero_drop, Nat.shiftLeft_eq, Nat.shiftLeft_eq]
    by_cases hlp : last ≤ place
    · rw [show (last - place).toNat = 0 from by omega, cut_zero_drop, Nat.mul_assoc, ← Nat.pow_add, show k + (place - last).toNat = (place + k - last).toNat from by omega]
    · rw [show (place - last).toNat = 0 from by omega, Nat.pow_zero, Nat.mul_one]
      have e2 : m * 2 ^ k = m * 2 ^ (place + k - last).toNat * 2 ^ (last - place).toNat := by rw [Nat.mul_assoc, ← Nat.pow_add, show (place + k - last).toNat + (last - place).toNat = k from by omega]
      rw [e2, cut_exact _ _ (Nat.mul_ne_zero h0 (Nat.ne_of_gt (Nat.two_pow_pos _)))]

/-- 0 less a word. -/
theorem zero_sub (s : Bool) (r : Nat) (h : r < single.infRung) : ∃ t, single.sub 0 (single.word s r) = some (single.word t r) ∧ (r ≠ 0 → t = !s) := by
  obtain ⟨m, p, hx, hp, hm, hm2, hp2⟩ := read_word single s r h
  rw [s_least] at hp hm hp2
  have h0 : single.read 0 = .number false 0 (-149) := by decide
  have hform : single.sub 0 (single.word s r) = some (single.nearest (if signed false 0 (-149 - min (-149) p).toNat + signed (!s) m (p - min (-149) p).toNat = 0 then false && !s else decide (signed false 0 (-149 - min (-149) p).toNat + signed (!s) m (p - min (-149) p).toNat < 0)) (signed false 0 (-149 - min (-149) p).toNat + signed (!s) m (p - min (-149) p).toNat).natAbs (min (-149) p)) := by
    unfold Format.sub
    rw [h0, hx]
    rfl
  have e1 : min (-149) p = -149 := by omega
  have e2 : signed false 0 (-149 - min (-149) p).toNat = 0 := by unfold signed; simp
  rw [e1] at e2 hform
  rw [e2, Int.zero_add, near_eq] at hform
  have hk : (signed (!s) m (p - -149).toNat).natAbs = m * 2 ^ (p - -149).toNat := by rw [signed_le, Nat.shiftLeft_eq]
  rw [hk, near_scale single m _ _ hm2 (by rw [s_least]; omega), show (-149 : Int) + ((p - -149).toNat : Nat) = p from by omega] at hform
  have hb : r / single.binade < 255 := by
    have h1 : r < 255 * single.binade := by rw [s_inf] at h; rw [s_binade]; omega
    exact (Nat.div_lt_iff_lt_mul (binade_pos single)).2 h1
  have he := near_exact single m p hm2 (by rw [s_least]; omega) (by
    rw [s_least]
    have : single.exponentBits = 8 := rfl
    rw [this]
    have : (2 : Nat) ^ 8 - 1 = 255 := by decide
    rw [this]
    omega)
  rw [s_least, hm] at he
  rw [rungV_inj he] at hform
  refine ⟨_, hform, fun hr => ?_⟩
  have hm0 : m ≠ 0 := by
    rintro rfl
    rw [Nat.zero_mul] at hm
    exact hr (rungV_inj (f := single) (by rw [rungV_zero]; exact hm.symm))
  have hpos : 0 < m <<< (p - -149).toNat := by rw [Nat.shiftLeft_eq]; exact Nat.mul_pos (Nat.pos_of_ne_zero hm0) (Nat.two_pow_pos _)
  unfold signed
  generalize m <<< (p - -149).toNat = k at *
  cases s
  · simp only [Bool.not_false, if_true]
    rw [if_neg (by omega)]
    exact decide_eq_true (by omega)
  · simp only [Bool.not_true, Bool.false_eq_true, if_false]
    rw [if_neg (by omega)]
    exact decide_eq_false (by omega)

/-- The first word unless the second one is greater. -/
def mw (a b : Nat) : Nat := if keyW single a < keyW single b then b else a

theorem mw_key (a b : Nat) : keyW single (mw a b) = max (keyW single a) (keyW single b) := by
  unfold mw
  split <;> omega

/-- A word that is its rung where its number is above 0. -/
def PosW (x : Nat) : Prop := 0 < keyW single x → (x : Int) = keyW single x

theorem mw_pos {a b : Nat} (ha : PosW a) (hb : PosW b) : PosW (mw a b) := by
  unfold mw
  split
  · exact hb
  · exact ha

theorem pos_word (s : Bool) (r : Nat) (h : r < single.infRung) : PosW (single.word s r) := by
  unfold PosW
  rw [keyW_word s r h]
  cases s
  · intro _; rfl
  · intro h2; simp only [if_true] at h2; omega

theorem fin_word (s : Bool) (r : Nat) (h : r < single.infRung) : Fin0 single (single.word s r) := word_fin single s r h

theorem mw_fin {a b : Nat} (ha : Fin0 single a) (hb : Fin0 single b) : Fin0 single (mw a b) := by
  unfold mw
  split
  · exact hb
  · exact ha

theorem key_nat (M : Nat) (h : M < single.infRung) : keyW single M = M := keyW_word false M h

/-- One step of the reference. -/
theorem far_spec (M r1 r2 : Nat) (s1 s2 t1 t2 : Bool) (hM : M < single.infRung) (h1 : r1 < single.infRung) (h2 : r2 < single.infRung) (e1 : r1 ≠ 0 → t1 = !s1) (e2 : r2 ≠ 0 → t2 = !s2) :
    mw (mw M (single.word s1 r1)) (mw (single.word s2 r2) (mw (single.word t1 r1) (single.word t2 r2))) = max (max M r1) r2 := by
  have k1 := keyW_word s1 r1 h1
  have k2 := keyW_word s2 r2 h2
  have k3 := keyW_word t1 r1 h1
  have k4 := keyW_word t2 r2 h2
  have kM := key_nat M hM
  have hall : keyW single (mw (mw M (single.word s1 r1)) (mw (single.word s2 r2) (mw (single.word t1 r1) (single.word t2 r2)))) = max (max M r1) r2 := by
    rw [mw_key, mw_key, mw_key, mw_key, k1, k2, k3, k4, kM]
    have q1 : M ≤ max (max M r1) r2 := by omega
    have q2 : r1 ≤ max (max M r1) r2 := by omega
    have q3 : r2 ≤ max (max M r1) r2 := by omega
    have q4 : max (max M r1) r2 = M ∨ max (max M r1) r2 = r1 ∨ max (max M r1) r2 = r2 := by omega
    generalize max (max M r1) r2 = Z at *
    clear k1 k2 k3 k4 kM
    have f1 : r1 = 0 ∨ t1 = !s1 := by
      by_cases h : r1 = 0
      · exact .inl h
      · exact .inr (e1 h)
    have f2 : r2 = 0 ∨ t2 = !s2 := by
      by_cases h : r2 = 0
      · exact .inl h
      · exact .inr (e2 h)
    have g1 : ((if s1 = true then -(r1 : Int) else r1) = r1 ∧ (if t1 = true then -(r1 : Int) else r1) = -(r1 : Int)) ∨ ((if s1 = true then -(r1 : Int) else r1) = -(r1 : Int) ∧ (if t1 = true then -(r1 : Int) else r1) = r1) := by
      rcases f1 with rfl | rfl
      · left; constructor <;> split <;> simp
      · cases s1 <;> simp
    have g2 : ((if s2 = true then -(r2 : Int) else r2) = r2 ∧ (if t2 = true then -(r2 : Int) else r2) = -(r2 : Int)) ∨ ((if s2 = true then -(r2 : Int) else r2) = -(r2 : Int) ∧ (if t2 = true then -(r2 : Int) else r2) = r2) := by
      rcases f2 with rfl | rfl
      · left; constructor <;> split <;> simp
      · cases s2 <;> simp
    generalize (if s1 = true then -(r1 : Int) else r1) = x1 at *
    generalize (if t1 = true then -(r1 : Int) else r1) = y1 at *
    generalize (if s2 = true then -(r2 : Int) else r2) = x2 at *
    generalize (if t2 = true then -(r2 : Int) else r2) = y2 at *
    clear e1 e2 f1 f2
    omega
  by_cases h0 : 0 < max (max M r1) r2
  · have hp : PosW (mw (mw M (single.word s1 r1)) (mw (single.word s2 r2) (mw (single.word t1 r1) (single.word t2 r2)))) := mw_pos (mw_pos (pos_word false M hM) (pos_word s1 r1 h1)) (mw_pos (pos_word s2 r2 h2) (mw_pos (pos_word t1 r1 h1) (pos_word t2 r2 h2)))
    have := hp (by rw [hall]; omega)
    omega
  · have z1 : M = 0 := by omega
    have z2 : r1 = 0 := by omega
    have z3 : r2 = 0 := by omega
    subst z1 z2 z3
    cases s1 <;> cases s2 <;> cases t1 <;> cases t2 <;> decide

end Go.Proofs.Ytnlmiemnblppbaa
