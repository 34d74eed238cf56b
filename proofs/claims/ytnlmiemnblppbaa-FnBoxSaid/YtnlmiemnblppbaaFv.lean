/-
  Finite words as whole numbers: what a rung stands for; rounding; orders. No seat's function in it.
-/
import Derived.Test.YtnlmiemnblppbaaFt
namespace Go.Proofs.Ytnlmiemnblppbaa
open Ieee

theorem binade_pos (f : Format) : 0 < f.binade := Nat.two_pow_pos _

/-- What a rung stands for, in units of the least place. -/
def rungV (f : Format) (r : Nat) : Nat := if r < f.binade then r else (f.binade + r % f.binade) * 2 ^ (r / f.binade - 1)

theorem rungV_at (f : Format) (a k : Nat) (h1 : k ≤ 2 * f.binade) (h2 : a = 0 ∨ f.binade ≤ k) : rungV f (a * f.binade + k) = k * 2 ^ a := by
  have hb := binade_pos f
  unfold rungV
  generalize f.binade = B at *
  by_cases hk : k < B
  · have ha : a = 0 := by omega
    subst ha
    rw [Nat.zero_mul, Nat.zero_add, if_pos hk, Nat.pow_zero, Nat.mul_one]
  · have hn : ¬ a * B + k < B := by
      have := Nat.zero_le (a * B)
      omega
    rw [if_neg hn]
    by_cases hk2 : k < 2 * B
    · have e : a * B + k = (k - B) + B * (a + 1) := by rw [Nat.mul_add, Nat.mul_comm B a]; omega
      have hd : (a * B + k) / B = a + 1 := by rw [e, Nat.add_mul_div_left _ _ hb, Nat.div_eq_of_lt (by omega), Nat.zero_add]
      have hm : (a * B + k) % B = k - B := by rw [e, Nat.add_mul_mod_self_left, Nat.mod_eq_of_lt (by omega)]
      rw [hd, hm, Nat.add_sub_cancel, show B + (k - B) = k from by omega]
    · have e : a * B + k = 0 + B * (a + 2) := by rw [Nat.mul_add, Nat.mul_comm B a]; omega
      have hd : (a * B + k) / B = a + 2 := by rw [e, Nat.add_mul_div_left _ _ hb, Nat.zero_div, Nat.zero_add]
      have hm : (a * B + k) % B = 0 := by rw [e, Nat.add_mul_mod_self_left, Nat.zero_mod]
      rw [hd, hm, Nat.add_zero, show a + 2 - 1 = a + 1 from rfl, Nat.pow_succ, show k = 2 * B from by omega, Nat.mul_comm (2 ^ a) 2, ← Nat.mul_assoc, Nat.mul_comm B 2]

theorem rung_parts (f : Format) (r : Nat) : ∃ a k, r = a * f.binade + k ∧ k < 2 * f.binade ∧ (a = 0 ∨ f.binade ≤ k) := by
  have hb := binade_pos f
  generalize f.binade = B at *
  by_cases h : r < B
  · exact ⟨0, r, by simp, by omega, .inl rfl⟩
  · have h1 : 1 ≤ r / B := (Nat.one_le_div_iff hb).2 (by omega)
    have h2 := Nat.mod_lt r hb
    refine ⟨r / B - 1, B + r % B, ?_, by omega, .inr (by omega)⟩
    have h3 := Nat.div_add_mod r B
    obtain ⟨q, hq⟩ : ∃ q, r / B = q + 1 := ⟨r / B - 1, by omega⟩
    rw [hq] at h3 ⊢
    rw [Nat.mul_add, Nat.mul_comm B q] at h3
    simp only [Nat.add_sub_cancel]
    omega

theorem rungV_succ (f : Format) (r : Nat) : rungV f r < rungV f (r + 1) := by
  obtain ⟨a, k, rfl, h1, h2⟩ := rung_parts f r
  rw [rungV_at f a k (by omega) h2, Nat.add_assoc, rungV_at f a (k + 1) (by omega) (by omega), Nat.add_mul]
  have := Nat.two_pow_pos a
  omega

theorem rungV_lt {f : Format} {r s : Nat} (h : r < s) : rungV f r < rungV f s := by
  induction s with
  | zero => omega
  | succ s ih =>
    by_cases hs : r = s
    · subst hs; exact rungV_succ f r
    · exact Nat.lt_trans (ih (by omega)) (rungV_succ f s)

theorem rungV_zero (f : Format) : rungV f 0 = 0 := by
  unfold rungV
  rw [if_pos (binade_pos f)]

theorem rungV_iff {f : Format} {r s : Nat} : rungV f r < rungV f s ↔ r < s := by
  refine ⟨fun h => ?_, rungV_lt⟩
  by_cases h1 : s < r
  · have := rungV_lt (f := f) h1; omega
  · by_cases h2 : r = s
    · subst h2; omega
    · omega

theorem rungV_inj {f : Format} {r s : Nat} (h : rungV f r = rungV f s) : r = s := by
  by_cases h1 : s < r
  · have := rungV_lt (f := f) h1; omega
  · by_cases h2 : r < s
    · have := rungV_lt (f := f) h2; omega
    · omega

def sgnW (f : Format) (x : Nat) : Bool := x / f.signWeight % 2 == 1
def rungW (f : Format) (x : Nat) : Nat := x % f.signWeight

theorem rung_lt (f : Format) (x : Nat) : rungW f x < f.signWeight := Nat.mod_lt _ (Nat.two_pow_pos _)

theorem rungW_word (f : Format) (neg : Bool) (r : Nat) (h : r < f.signWeight) : rungW f (f.word neg r) = r := by
  unfold rungW Format.word
  split
  · rw [Nat.add_mod_left, Nat.mod_eq_of_lt h]
  · rw [Nat.mod_eq_of_lt h]

theorem sgnW_word (f : Format) (neg : Bool) (r : Nat) (h : r < f.signWeight) : sgnW f (f.word neg r) = neg := by
  unfold sgnW Format.word
  cases neg
  · rw [if_neg (by decide), Nat.div_eq_of_lt h]; rfl
  · rw [if_pos rfl, Nat.add_div_left r (show 0 < f.signWeight from Nat.two_pow_pos _), Nat.div_eq_of_lt h]; rfl

theorem read_any (f : Format) (x : Nat) (h : rungW f x < f.infRung) : ∃ m p, f.read x = .number (sgnW f x) m p ∧ f.leastPlace ≤ p ∧ m * 2 ^ (p - f.leastPlace).toNat = rungV f (rungW f x) ∧ m < 2 * f.binade ∧ (p - f.leastPlace).toNat ≤ rungW f x / f.binade - 1 := by
  have hb := binade_pos f
  unfold Format.read rungV
  unfold rungW at *
  dsimp only
  by_cases h1 : x % f.signWeight < f.binade
  · rw [if_pos h1, if_pos h1]
    exact ⟨_, _, rfl, Int.le_refl _, by simp, by omega, by simp⟩
  · rw [if_neg h1, if_pos h, if_neg h1]
    have hm := Nat.mod_lt (x % f.signWeight) hb
    exact ⟨_, _, rfl, by omega, by rw [show (f.leastPlace + ((x % f.signWeight / f.binade - 1 : Nat) : Int) - f.leastPlace).toNat = x % f.signWeight / f.binade - 1 from by omega], by omega, by omega⟩

theorem read_word (f : Format) (neg : Bool) (r : Nat) (h : r < f.infRung) : ∃ m p, f.read (f.word neg r) = .number neg m p ∧ f.leastPlace ≤ p ∧ m * 2 ^ (p - f.leastPlace).toNat = rungV f r ∧ m < 2 * f.binade ∧ (p - f.leastPlace).toNat ≤ r / f.binade - 1 := by
  have hs : r < f.signWeight := Nat.lt_trans h f.infRung_lt
  have := read_any f (f.word neg r) (by rw [rungW_word f neg r hs]; exact h)
  rwa [rungW_word f neg r hs, sgnW_word f neg r hs] at this

/-- Words of finite numbers. -/
def Fin0 (f : Format) (x : Nat) : Prop := rungW f x < f.infRung

def valW (f : Format) (x : Nat) : Int := if sgnW f x then -(rungV f (rungW f x) : Int) else rungV f (rungW f x)
def keyW (f : Format) (x : Nat) : Int := if sgnW f x then -(rungW f x : Int) else rungW f x

theorem cmp_congr {a b c d : Int} (h1 : a < b ↔ c < d) (h2 : a = b ↔ c = d) : compare a b = compare c d := by
  show compareOfLessAndEq a b = compareOfLessAndEq c d
  unfold compareOfLessAndEq
  simp only [h1, h2]

theorem signed_val (neg : Bool) (m : Nat) (i least base : Int) (h : least ≤ base) (hb : base ≤ i) : signed neg m (i - base).toNat * ((2 ^ (base - least).toNat : Nat) : Int) = signed neg m (i - least).toNat := by
  unfold signed
  rw [Nat.shiftLeft_eq, Nat.shiftLeft_eq, show (i - least).toNat = (i - base).toNat + (base - least).toNat from by omega, Nat.pow_add, ← Nat.mul_assoc]
  cases neg
  · simp only [Bool.false_eq_true, if_false]
    exact (Int.natCast_mul _ _).symm
  · simp only [if_true]
    rw [Int.neg_mul, ← Int.natCast_mul]

theorem signed_rung (f : Format) (x m : Nat) (p : Int) (h : m * 2 ^ (p - f.leastPlace).toNat = rungV f (rungW f x)) : signed (sgnW f x) m (p - f.leastPlace).toNat = valW f x := by
  unfold signed valW
  rw [Nat.shiftLeft_eq, h]

theorem val_key (f : Format) (x y : Nat) : (valW f x < valW f y ↔ keyW f x < keyW f y) ∧ (valW f x = valW f y ↔ keyW f x = keyW f y) := by
  unfold valW keyW
  have h1 := rungV_iff (f := f) (r := rungW f x) (s := rungW f y)
  have h2 := rungV_iff (f := f) (r := rungW f y) (s := rungW f x)
  have z1 := rungV_iff (f := f) (r := 0) (s := rungW f x)
  have z2 := rungV_iff (f := f) (r := 0) (s := rungW f y)
  rw [rungV_zero] at z1 z2
  cases sgnW f x <;> cases sgnW f y <;> simp only [Bool.false_eq_true, if_false, if_true] <;> constructor <;> omega

theorem order_val (f : Format) (x y : Nat) (hx : Fin0 f x) (hy : Fin0 f y) : f.order x y = some (compare (valW f x) (valW f y)) := by
  obtain ⟨m, i, hr, hi, hm, _⟩ := read_any f x hx
  obtain ⟨n, j, hr', hj, hn, _⟩ := read_any f y hy
  unfold Format.order
  rw [hr, hr']
  simp only [Datum.order]
  congr 1
  have e1 := signed_val (sgnW f x) m i f.leastPlace (min i j) (by omega) (by omega)
  have e2 := signed_val (sgnW f y) n j f.leastPlace (min i j) (by omega) (by omega)
  rw [signed_rung f x m i hm] at e1
  rw [signed_rung f y n j hn] at e2
  have hp : (0 : Int) < ((2 ^ (min i j - f.leastPlace).toNat : Nat) : Int) := by exact_mod_cast Nat.two_pow_pos _
  generalize ((2 ^ (min i j - f.leastPlace).toNat : Nat) : Int) = c at *
  rw [← e1, ← e2]
  exact cmp_congr ⟨fun h => Int.mul_lt_mul_of_pos_right h hp, fun h => Int.lt_of_mul_lt_mul_right h (Int.le_of_lt hp)⟩ ⟨fun h => by rw [h], fun h => Int.eq_of_mul_eq_mul_right (Int.ne_of_gt hp) h⟩

theorem order_key (f : Format) (x y : Nat) (hx : Fin0 f x) (hy : Fin0 f y) : f.order x y = some (compare (keyW f x) (keyW f y)) := by
  rw [order_val f x y hx hy]
  have h := val_key f x y
  exact congrArg some (cmp_congr h.1 h.2)

theorem cmp_lt (a b : Int) : compare a b = Ordering.lt ↔ a < b := by
  show compareOfLessAndEq a b = _ ↔ _
  unfold compareOfLessAndEq
  split
  · simp [*]
  · split <;> simp [*]

theorem cmp_gt (a b : Int) : compare a b = Ordering.gt ↔ b < a := by
  show compareOfLessAndEq a b = _ ↔ _
  unfold compareOfLessAndEq
  split
  · rename_i h; simp; omega
  · split
    · rename_i h; simp; omega
    · simp; omega

theorem ord_lt (f : Format) (x y : Nat) (hx : Fin0 f x) (hy : Fin0 f y) : (f.order x y == some Ordering.lt) = decide (keyW f x < keyW f y) := by
  rw [order_key f x y hx hy]
  have := cmp_lt (keyW f x) (keyW f y)
  cases h : compare (keyW f x) (keyW f y) <;> rw [h] at this <;> simp at this ⊢ <;> omega

theorem ord_gt (f : Format) (x y : Nat) (hx : Fin0 f x) (hy : Fin0 f y) : (f.order x y == some Ordering.gt) = decide (keyW f y < keyW f x) := by
  rw [order_key f x y hx hy]
  have := cmp_gt (keyW f x) (keyW f y)
  cases h : compare (keyW f x) (keyW f y) <;> rw [h] at this <;> simp at this ⊢ <;> omega

/-- The rung of a rounding. -/
def nearR (f : Format) (mag : Nat) (place : Int) : Nat :=
  if mag = 0 then 0 else
  let last := max (place + mag.log2 - f.fractionBits) f.leastPlace
  min ((last - f.leastPlace).toNat * f.binade + Toward.even.cut false (mag <<< (place - last).toNat) (last - place).toNat) f.infRung

theorem near_eq (f : Format) (neg : Bool) (mag : Nat) (place : Int) : f.nearest neg mag place = f.word neg (nearR f mag place) := by
  unfold Format.nearest nearR
  split
  · rfl
  · rfl

theorem nearR_le (f : Format) (mag : Nat) (place : Int) : nearR f mag place ≤ f.infRung := by
  unfold nearR
  split
  · exact Nat.zero_le _
  · exact Nat.min_le_right ..

theorem cut_zero_drop (neg : Bool) (n : Nat) : Toward.even.cut neg n 0 = n := by
  unfold Toward.cut
  dsimp only
  rw [Nat.zero_min, Nat.one_shiftLeft, Nat.pow_zero, Nat.mod_one, Nat.div_one]
  simp

theorem nearR_pos (f : Format) (mag : Nat) (place : Int) (hm : mag ≠ 0) (hp : f.leastPlace ≤ place) (hi : 0 < f.infRung) : 0 < nearR f mag place := by
  have hb := binade_pos f
  unfold nearR
  rw [if_neg hm]
  dsimp only
  have hlast : f.leastPlace ≤ max (place + mag.log2 - f.fractionBits) f.leastPlace := Int.le_max_right ..
  generalize hl : max (place + mag.log2 - f.fractionBits) f.leastPlace = last at *
  refine Nat.lt_min.2 ⟨?_, hi⟩
  by_cases hd : last ≤ place
  · rw [show (last - place).toNat = 0 from by omega, cut_zero_drop, Nat.shiftLeft_eq]
    have := Nat.mul_pos (Nat.pos_of_ne_zero hm) (Nat.two_pow_pos (place - last).toNat)
    omega
  · have : 0 < (last - f.leastPlace).toNat := by omega
    have := Nat.mul_pos this hb
    omega

theorem inf_eq (f : Format) : f.infRung = (2 ^ f.exponentBits - 1) * f.binade := rfl

theorem nearR_bound (f : Format) (mag : Nat) (place : Int) (a : Nat) (h : mag ≠ 0 → place + mag.log2 - f.fractionBits ≤ f.leastPlace + a) : nearR f mag place ≤ a * f.binade + 2 * f.binade := by
  unfold nearR
  split
  · exact Nat.zero_le _
  · rename_i hm
    have h := h hm
    dsimp only
    have hlast : max (place + mag.log2 - f.fractionBits) f.leastPlace ≤ f.leastPlace + a := by omega
    have hge : f.leastPlace ≤ max (place + mag.log2 - f.fractionBits) f.leastPlace := Int.le_max_right ..
    have hge2 : place + mag.log2 - f.fractionBits ≤ max (place + mag.log2 - f.fractionBits) f.leastPlace := Int.le_max_left ..
    generalize max (place + mag.log2 - f.fractionBits) f.leastPlace = last at *
    refine Nat.le_trans (Nat.min_le_left ..) (Nat.add_le_add (Nat.mul_le_mul_right _ (by omega)) ?_)
    have e : 2 * f.binade = 2 ^ (f.fractionBits + 1) := by rw [Nat.pow_succ, Nat.mul_comm]; rfl
    rw [e]
    apply cut_le
    rw [Nat.shiftLeft_eq]
    have hl2 : mag < 2 ^ (mag.log2 + 1) := Nat.lt_log2_self
    have h1 : mag * 2 ^ (place - last).toNat < 2 ^ (mag.log2 + 1 + (place - last).toNat) := by
      rw [Nat.pow_add 2 (mag.log2 + 1)]
      exact Nat.mul_lt_mul_of_pos_right hl2 (Nat.two_pow_pos _)
    exact Nat.lt_of_lt_of_le h1 (Nat.pow_le_pow_right (by decide) (by omega))

theorem near_exact (f : Format) (mag : Nat) (place : Int) (hm : mag < 2 * f.binade) (hp : f.leastPlace ≤ place) (ho : (place - f.leastPlace).toNat + 2 ≤ 2 ^ f.exponentBits - 1) : rungV f (nearR f mag place) = mag * 2 ^ (place - f.leastPlace).toNat := by
  by_cases h0 : mag = 0
  · subst h0
    unfold nearR
    rw [if_pos rfl, rungV_zero, Nat.zero_mul]
  · unfold nearR
    rw [if_neg h0]
    dsimp only
    have e : 2 * f.binade = 2 ^ (f.fractionBits + 1) := by rw [Nat.pow_succ, Nat.mul_comm]; rfl
    have hl : mag.log2 < f.fractionBits + 1 := (Nat.log2_lt h0).2 (by rw [← e]; exact hm)
    have hge : f.leastPlace ≤ max (place + mag.log2 - f.fractionBits) f.leastPlace := Int.le_max_right ..
    have hle : max (place + mag.log2 - f.fractionBits) f.leastPlace ≤ place := by omega
    have hge2 : place + mag.log2 - f.fractionBits ≤ max (place + mag.log2 - f.fractionBits) f.leastPlace := Int.le_max_left ..
    have hor : max (place + mag.log2 - f.fractionBits) f.leastPlace = f.leastPlace ∨ max (place + mag.log2 - f.fractionBits) f.leastPlace = place + mag.log2 - f.fractionBits := by omega
    generalize max (place + mag.log2 - f.fractionBits) f.leastPlace = last at *
    rw [show (last - place).toNat = 0 from by omega, cut_zero_drop, Nat.shiftLeft_eq]
    have hlo : 2 ^ mag.log2 ≤ mag := Nat.log2_self_le h0
    have hhi : mag < 2 ^ (mag.log2 + 1) := Nat.lt_log2_self
    have k1 : mag * 2 ^ (place - last).toNat < 2 ^ (f.fractionBits + 1) := by
      have h1 : mag * 2 ^ (place - last).toNat < 2 ^ (mag.log2 + 1 + (place - last).toNat) := by
        rw [Nat.pow_add 2 (mag.log2 + 1)]
        exact Nat.mul_lt_mul_of_pos_right hhi (Nat.two_pow_pos _)
      exact Nat.lt_of_lt_of_le h1 (Nat.pow_le_pow_right (by decide) (by omega))
    have k2 : (last - f.leastPlace).toNat = 0 ∨ f.binade ≤ mag * 2 ^ (place - last).toNat := by
      by_cases hL : last = f.leastPlace
      · left; omega
      · right
        have hL2 : last = place + mag.log2 - f.fractionBits := by omega
        have h1 : 2 ^ (mag.log2 + (place - last).toNat) ≤ mag * 2 ^ (place - last).toNat := by
          rw [Nat.pow_add]
          exact Nat.mul_le_mul_right _ hlo
        refine Nat.le_trans ?_ h1
        exact Nat.pow_le_pow_right (by decide) (by omega)
    rw [← e] at k1
    have hmin : (last - f.leastPlace).toNat * f.binade + mag * 2 ^ (place - last).toNat ≤ f.infRung := by
      rw [inf_eq]
      have h1 : ((last - f.leastPlace).toNat + 2) * f.binade ≤ (2 ^ f.exponentBits - 1) * f.binade := Nat.mul_le_mul_right _ (by omega)
      rw [Nat.add_mul] at h1
      omega
    rw [Nat.min_eq_left hmin, rungV_at f _ _ (Nat.le_of_lt k1) k2, Nat.mul_assoc, ← Nat.pow_add, show (place - last).toNat + (last - f.leastPlace).toNat = (place - f.leastPlace).toNat from by omega]

/-- The wholes and what is left over. -/
theorem cut_down (neg : Bool) (n drop : Nat) : Toward.down.cut neg n drop = n / 2 ^ drop + (neg && n % 2 ^ drop != 0).toNat := by
  unfold Toward.cut
  dsimp only
  rw [Nat.one_shiftLeft]
  by_cases hd : drop ≤ n.log2 + 2
  · rw [Nat.min_eq_left hd]
  · rw [Nat.min_eq_right (by omega)]
    have hl : n < 2 ^ (n.log2 + 2) := Nat.lt_of_lt_of_le Nat.lt_log2_self (Nat.pow_le_pow_right (by decide) (by omega))
    have hl2 : n < 2 ^ drop := Nat.lt_of_lt_of_le hl (Nat.pow_le_pow_right (by decide) (by omega))
    rw [Nat.div_eq_of_lt hl, Nat.div_eq_of_lt hl2, Nat.mod_eq_of_lt hl, Nat.mod_eq_of_lt hl2]

theorem cut_to0 (neg : Bool) (n drop : Nat) : Toward.zero.cut neg n drop = n / 2 ^ drop := by
  unfold Toward.cut
  dsimp only
  rw [Nat.one_shiftLeft]
  by_cases hd : drop ≤ n.log2 + 2
  · rw [Nat.min_eq_left hd]; rfl
  · rw [Nat.min_eq_right (by omega)]
    have hl : n < 2 ^ (n.log2 + 2) := Nat.lt_of_lt_of_le Nat.lt_log2_self (Nat.pow_le_pow_right (by decide) (by omega))
    have hl2 : n < 2 ^ drop := Nat.lt_of_lt_of_le hl (Nat.pow_le_pow_right (by decide) (by omega))
    rw [Nat.div_eq_of_lt hl, Nat.div_eq_of_lt hl2]; rfl

theorem scaled (m : Nat) (p : Int) (K : Nat) (h : -(K : Int) ≤ p) : (m <<< p.toNat) / 2 ^ (-p).toNat = m * 2 ^ (p + K).toNat / 2 ^ K ∧ ((m <<< p.toNat) % 2 ^ (-p).toNat = 0 ↔ m * 2 ^ (p + K).toNat % 2 ^ K = 0) := by
  rw [Nat.shiftLeft_eq]
  by_cases h0 : 0 ≤ p
  · rw [show (-p).toNat = 0 from by omega, show (p + K).toNat = p.toNat + K from by omega, Nat.pow_add, ← Nat.mul_assoc, Nat.mul_div_cancel _ (Nat.two_pow_pos _), Nat.mul_mod_left, Nat.pow_zero, Nat.div_one, Nat.mod_one]
    exact ⟨rfl, Iff.rfl⟩
  · have e : 2 ^ K = 2 ^ (-p).toNat * 2 ^ (p + K).toNat := by rw [← Nat.pow_add, show (-p).toNat + (p + K).toNat = K from by omega]
    have hp := Nat.two_pow_pos (p + K).toNat
    rw [e, show p.toNat = 0 from by omega, Nat.pow_zero, Nat.mul_one, Nat.mul_div_mul_right _ _ hp, Nat.mul_mod_mul_right]
    exact ⟨rfl, fun h => by rw [h, Nat.zero_mul], fun h => by
      rcases Nat.mul_eq_zero.1 h with h | h
      · exact h
      · omega⟩

end Go.Proofs.Ytnlmiemnblppbaa
