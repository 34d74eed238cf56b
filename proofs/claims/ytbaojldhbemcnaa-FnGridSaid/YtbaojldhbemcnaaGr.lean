/-
  Grid points: what is drawn, both sides.
-/
import Derived.Test.YtbaojldhbemcnaaPy
import Derived.Test.YtbaojldhbemcnaaUt
import Derived.Test.YtbaojldhbemcnaaRd
import Derived.Test.YtbaojldhbemcnaaOpenB
namespace Go.Proofs.Ytbaojldhbemcnaa
open Go.RowKit

def nU (y G : Nat) : Int := (floatToIntVal .f64 (uF y G) .i64).getD 0
def lX (y : Nat) : Nat := (floatToFloatBits .f32 y .f64).getD 0
def lM (y G : Nat) : Nat := (Ieee.double.mul (lX y) (floatOfInt .f64 ((2 : Int) ^ G))).getD 0
def lD (y G : Nat) : Nat := (Ieee.double.sub (lM y G) (floatOfInt .f64 (nU y G))).getD 0
def lP (y G : Nat) : Nat := (Ieee.double.sub (lD y G) 0).getD 0
def lQ (y G : Nat) : Nat := (Ieee.double.sub 0 (lD y G)).getD 0
def lI (y : Nat) : Int := (floatToIntVal .f32 y .i64).getD 0
/-- What the law asks of one part. -/
structure LawOk (y G : Nat) : Prop where
  unit : UnitOk y G (nU y G)
  conv : floatToFloatBits .f32 y .f64 = some (lX y)
  mul : Ieee.double.mul (lX y) (floatOfInt .f64 ((2 : Int) ^ G)) = some (lM y G)
  sub : Ieee.double.sub (lM y G) (floatOfInt .f64 (nU y G)) = some (lD y G)
  w1 : Ieee.double.sub (lD y G) 0 = some (lP y G)
  o1 : Ieee.double.order (lP y G) 4604480259023595110 = some .lt
  w2 : Ieee.double.sub 0 (lD y G) = some (lQ y G)
  o2 : Ieee.double.order (lQ y G) 4604480259023595110 = some .lt
  int : floatToIntVal .f32 y .i64 = some (lI y)
  alt : Ieee.double.order (lD y G) 0 = some .eq ∨ Ieee.double.order (lX y) (floatOfInt .f64 (lI y)) ≠ some .eq

instance (y G : Nat) : Decidable (LawOk y G) :=
  if h : UnitOk y G (nU y G) ∧ floatToFloatBits .f32 y .f64 = some (lX y) ∧ Ieee.double.mul (lX y) (floatOfInt .f64 ((2 : Int) ^ G)) = some (lM y G) ∧ Ieee.double.sub (lM y G) (floatOfInt .f64 (nU y G)) = some (lD y G) ∧ Ieee.double.sub (lD y G) 0 = some (lP y G) ∧
      Ieee.double.order (lP y G) 4604480259023595110 = some .lt ∧ Ieee.double.sub 0 (lD y G) = some (lQ y G) ∧ Ieee.double.order (lQ y G) 4604480259023595110 = some .lt ∧ floatToIntVal .f32 y .i64 = some (lI y) ∧ (Ieee.double.order (lD y G) 0 = some .eq ∨ Ieee.double.order (lX y) (floatOfInt .f64 (lI y)) ≠ some .eq)
  then .isTrue ⟨h.1, h.2.1, h.2.2.1, h.2.2.2.1, h.2.2.2.2.1, h.2.2.2.2.2.1, h.2.2.2.2.2.2.1, h.2.2.2.2.2.2.2.1, h.2.2.2.2.2.2.2.2.1, h.2.2.2.2.2.2.2.2.2⟩
  else .isFalse fun k => h ⟨k.unit, k.conv, k.mul, k.sub, k.w1, k.o1, k.w2, k.o2, k.int, k.alt⟩

def intS (k : Nat) : Nat := (floatToFloatBits .f64 (floatOfInt .f64 ((k : Int) - 20)) .f32).getD 0
def tenS (a : Nat) : Nat := (Ieee.single.div (floatOfInt .f32 ((a : Int) - 100)) 1098907648).getD 0
/-- The words that are drawn and lie in a grid. -/
def gridS : List Nat := (List.range 41).map intS ++ ([1056964608, 2147483648, 1036831949] ++ (List.range 200).map tenS)

theorem grid_int : ∀ (k : Fin 41) (G : Fin 9), LawOk (intS k.1) G.1 := by decide +kernel
theorem grid_odd : ∀ (G : Fin 9), LawOk 1056964608 G.1 ∧ LawOk 2147483648 G.1 ∧ LawOk 1036831949 G.1 := by decide +kernel
theorem grid_ten0 : ∀ (a : Fin 25) (G : Fin 9), LawOk (tenS (a.1 + 0)) G.1 := by decide +kernel
theorem grid_ten1 : ∀ (a : Fin 25) (G : Fin 9), LawOk (tenS (a.1 + 25)) G.1 := by decide +kernel
theorem grid_ten2 : ∀ (a : Fin 25) (G : Fin 9), LawOk (tenS (a.1 + 50)) G.1 := by decide +kernel
theorem grid_ten3 : ∀ (a : Fin 25) (G : Fin 9), LawOk (tenS (a.1 + 75)) G.1 := by decide +kernel
theorem grid_ten4 : ∀ (a : Fin 25) (G : Fin 9), LawOk (tenS (a.1 + 100)) G.1 := by decide +kernel
theorem grid_ten5 : ∀ (a : Fin 25) (G : Fin 9), LawOk (tenS (a.1 + 125)) G.1 := by decide +kernel
theorem grid_ten6 : ∀ (a : Fin 25) (G : Fin 9), LawOk (tenS (a.1 + 150)) G.1 := by decide +kernel
theorem grid_ten7 : ∀ (a : Fin 25) (G : Fin 9), LawOk (tenS (a.1 + 175)) G.1 := by decide +kernel
theorem grid_law {y G : Nat} (h : y ∈ gridS) (hG : G ≤ 8) : LawOk y G := by
  rcases List.mem_append.1 h with h | h
  · obtain ⟨k, hk, rfl⟩ := List.mem_map.1 h
    exact grid_int ⟨k, List.mem_range.1 hk⟩ ⟨G, by omega⟩
  · rcases List.mem_append.1 h with h | h
    · obtain ⟨h1, h2, h3⟩ := grid_odd ⟨G, by omega⟩
      simp only [List.mem_cons, List.not_mem_nil, or_false] at h
      rcases h with rfl | rfl | rfl
      · exact h1
      · exact h2
      · exact h3
    · obtain ⟨a, ha, rfl⟩ := List.mem_map.1 h
      have ha := List.mem_range.1 ha
      by_cases h0 : a < 25
      · have := grid_ten0 ⟨a - 0, by omega⟩ ⟨G, by omega⟩
        rw [show (⟨a - 0, by omega⟩ : Fin 25).1 + 0 = a from (show a - 0 + 0 = a by omega)] at this
        exact this
      by_cases h1 : a < 50
      · have := grid_ten1 ⟨a - 25, by omega⟩ ⟨G, by omega⟩
        rw [show (⟨a - 25, by omega⟩ : Fin 25).1 + 25 = a from (show a - 25 + 25 = a by omega)] at this
        exact this
      by_cases h2 : a < 75
      · have := grid_ten2 ⟨a - 50, by omega⟩ ⟨G, by omega⟩
        rw [show (⟨a - 50, by omega⟩ : Fin 25).1 + 50 = a from (show a - 50 + 50 = a by omega)] at this
        exact this
      by_cases h3 : a < 100
      · have := grid_ten3 ⟨a - 75, by omega⟩ ⟨G, by omega⟩
        rw [show (⟨a - 75, by omega⟩ : Fin 25).1 + 75 = a from (show a - 75 + 75 = a by omega)] at this
        exact this
      by_cases h4 : a < 125
      · have := grid_ten4 ⟨a - 100, by omega⟩ ⟨G, by omega⟩
        rw [show (⟨a - 100, by omega⟩ : Fin 25).1 + 100 = a from (show a - 100 + 100 = a by omega)] at this
        exact this
      by_cases h5 : a < 150
      · have := grid_ten5 ⟨a - 125, by omega⟩ ⟨G, by omega⟩
        rw [show (⟨a - 125, by omega⟩ : Fin 25).1 + 125 = a from (show a - 125 + 125 = a by omega)] at this
        exact this
      by_cases h6 : a < 175
      · have := grid_ten6 ⟨a - 150, by omega⟩ ⟨G, by omega⟩
        rw [show (⟨a - 150, by omega⟩ : Fin 25).1 + 150 = a from (show a - 150 + 150 = a by omega)] at this
        exact this
      by_cases h7 : a < 200
      · have := grid_ten7 ⟨a - 175, by omega⟩ ⟨G, by omega⟩
        rw [show (⟨a - 175, by omega⟩ : Fin 25).1 + 175 = a from (show a - 175 + 175 = a by omega)] at this
        exact this
      omega

/-- A drawn part. -/
def DZ (y : Nat) : Prop := partB y = false ∨ y ∈ gridS

theorem int_conv (k : Nat) (h : k < 41) : floatToFloatBits .f64 (floatOfInt .f64 ((k : Int) - 20)) .f32 = some (intS k) := by
  have : ∀ k : Fin 41, floatToFloatBits .f64 (floatOfInt .f64 ((k.1 : Int) - 20)) .f32 = some (intS k.1) := by decide +kernel
  exact this ⟨k, h⟩
theorem int_mem (k : Nat) (h : k < 41) : intS k ∈ gridS := List.mem_append.2 (.inl (List.mem_map.2 ⟨k, List.mem_range.2 h, rfl⟩))
theorem ten_div (a : Nat) (h : a < 200) : Ieee.single.div (floatOfInt .f32 ((a : Int) - 100)) 1098907648 = some (tenS a) := by
  have : ∀ a : Fin 200, Ieee.single.div (floatOfInt .f32 ((a.1 : Int) - 100)) 1098907648 = some (tenS a.1) := by decide +kernel
  exact this ⟨a, h⟩
theorem ten_mem (a : Nat) (h : a < 200) : tenS a ∈ gridS := List.mem_append.2 (.inr (List.mem_append.2 (.inr (List.mem_map.2 ⟨a, List.mem_range.2 h, rfl⟩))))
theorem odd_mem : (1056964608 ∈ gridS ∧ 2147483648 ∈ gridS) ∧ 1036831949 ∈ gridS := ⟨⟨List.mem_append.2 (.inr (List.mem_append.2 (.inl (by decide)))), List.mem_append.2 (.inr (List.mem_append.2 (.inl (by decide))))⟩, List.mem_append.2 (.inr (List.mem_append.2 (.inl (by decide))))⟩

/-- The words of a NaN. -/
theorem nan_cut (t : Nat) : (Ieee.double.read ((t % 2) * 2 ^ 63 + 0x7ff0000000000000 + 1 + (t / 2) % (2 ^ 52 - 1))).isNaN = true := by
  have hs : Ieee.double.signWeight = 9223372036854775808 := by decide
  have hb : Ieee.double.binade = 4503599627370496 := by decide
  have hi : Ieee.double.infRung = 9218868437227405312 := by decide
  have h1 : ((t % 2) * 2 ^ 63 + 0x7ff0000000000000 + 1 + (t / 2) % (2 ^ 52 - 1)) % 9223372036854775808 = 0x7ff0000000000000 + 1 + (t / 2) % (2 ^ 52 - 1) := by omega
  unfold Ieee.Format.read
  dsimp only
  rw [hs, hb, hi, h1, if_neg (by omega), if_neg (by omega), if_neg (by omega)]
  rfl

theorem nan_cut32 (t : Nat) : (Ieee.single.read ((t % 2) * 2 ^ 31 + 0x7f800000 + 1 + (t / 2) % (2 ^ 23 - 1))).isNaN = true := by
  have hs : Ieee.single.signWeight = 2147483648 := by decide
  have hb : Ieee.single.binade = 8388608 := by decide
  have hi : Ieee.single.infRung = 2139095040 := by decide
  have h1 : ((t % 2) * 2 ^ 31 + 0x7f800000 + 1 + (t / 2) % (2 ^ 23 - 1)) % 2147483648 = 0x7f800000 + 1 + (t / 2) % (2 ^ 23 - 1) := by omega
  unfold Ieee.Format.read
  dsimp only
  rw [hs, hb, hi, h1, if_neg (by omega), if_neg (by omega), if_neg (by omega)]
  rfl

theorem nan_part (y : Nat) (h : (Ieee.single.read y).isNaN = true) : partB y = false := by
  cases hd : Ieee.single.read y with
  | nan s t =>
    unfold partB geB
    show (((Ieee.single.read y).order (Ieee.single.read 3313500160) == some .gt || (Ieee.single.read y).order (Ieee.single.read 3313500160) == some .eq) && _) = false
    rw [hd]
    rfl
  | infinity s => rw [hd] at h; cases h
  | number s m p => rw [hd] at h; cases h

theorem nan_quo (W : World) : ∃ x, (binOp .quo 40 (.float .f64 0) (.float .f64 0)).run Try.prog W = .ok (.float .f64 x) W.drew ∧ (Ieee.double.read x).isNaN = true := by
  refine ⟨_, ?_, nan_cut (W.tape W.drawn (.nanBits .f64 0 0))⟩
  have hd : FloatKind.f64.format.div 0 0 = none := by decide
  simp [binOp, Op.floatArith, hd, Question.forced, Question.cut, Result.andThen]

theorem nan_conv (x : Nat) (h : (Ieee.double.read x).isNaN = true) (W : World) : ∃ y, (convert 59 35 (.complex .f64 x 4607182418800017408)).run Try.prog W = .ok (.complex .f32 y 1065353216) W.drew ∧ (Ieee.single.read y).isNaN = true := by
  refine ⟨_, ?_, nan_cut32 (W.tape W.drawn (.nanConv .f32 x))⟩
  cases hd : Ieee.double.read x with
  | nan s t =>
    have hd' : FloatKind.f64.decode x = .nan s t := hd
    have h1 : FloatKind.f64.decode 4607182418800017408 = .number false 4503599627370496 (-52) := by decide
    have h2 : FloatKind.f32.encode (.number false 4503599627370496 (-52)) = 1065353216 := by decide
    have h3 : (FloatKind.f32.decode 1065353216).isInfinity = false := by decide
    simp [convert, run_underlying Try.underlying59, run_underlying Try.underlying35, Conv.complexToComplex, Conv.floatToFloat, hd', h1, h2, h3, Question.forced, Question.cut, Result.andThen]
  | infinity s => rw [hd] at h; cases h
  | number s m p => rw [hd] at h; cases h

end Go.Proofs.Ytbaojldhbemcnaa
