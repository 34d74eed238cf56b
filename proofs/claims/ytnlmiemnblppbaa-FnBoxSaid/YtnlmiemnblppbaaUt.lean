/-
  Units of a part: the program's floor and the reference's.
-/
import Derived.Test.YtnlmiemnblppbaaPx
import Derived.Laws.Externs
namespace Go.Proofs.Ytnlmiemnblppbaa
open Go.RowKit

def unitU (G : Nat) : Nat := floatOfInt .f32 ((2 : Int) ^ G)
def uS (x G : Nat) : Nat := (Ieee.single.mul x (unitU G)).getD 0
def uY (x G : Nat) : Nat := (Ieee.single.add (uS x G) 1056964608).getD 0
def uR (x G : Nat) : Nat := (floatToFloatBits .f32 (uY x G) .f64).getD 0
def uF (x G : Nat) : Nat := Ieee.double.write ((Ieee.double.read (uR x G)).integral .down)
def uN (x G : Nat) : Int := (floatToIntVal .f32 (uY x G) .i64).getD 0
/-- The unit n of the word x is reached by both ways. -/
structure UnitOk (x G : Nat) (n : Int) : Prop where
  mul : Ieee.single.mul x (unitU G) = some (uS x G)
  add : Ieee.single.add (uS x G) 1056964608 = some (uY x G)
  conv : floatToFloatBits .f32 (uY x G) .f64 = some (uR x G)
  nan : (Ieee.double.read (uR x G)).isNaN = false
  floor : floatToIntVal .f64 (uF x G) .i64 = some n
  int : floatToIntVal .f32 (uY x G) .i64 = some (uN x G)
  low : (if Ieee.single.order (floatOfInt .f32 (uN x G)) (uY x G) = some .gt then uN x G - 1 else uN x G) = n
  small : -10000000 ≤ n ∧ n ≤ 10000000

instance (x G : Nat) (n : Int) : Decidable (UnitOk x G n) :=
  if h : Ieee.single.mul x (unitU G) = some (uS x G) ∧ Ieee.single.add (uS x G) 1056964608 = some (uY x G) ∧ floatToFloatBits .f32 (uY x G) .f64 = some (uR x G) ∧ (Ieee.double.read (uR x G)).isNaN = false ∧ floatToIntVal .f64 (uF x G) .i64 = some n ∧ floatToIntVal .f32 (uY x G) .i64 = some (uN x G) ∧
      (if Ieee.single.order (floatOfInt .f32 (uN x G)) (uY x G) = some .gt then uN x G - 1 else uN x G) = n ∧ -10000000 ≤ n ∧ n ≤ 10000000
  then .isTrue ⟨h.1, h.2.1, h.2.2.1, h.2.2.2.1, h.2.2.2.2.1, h.2.2.2.2.2.1, h.2.2.2.2.2.2.1, h.2.2.2.2.2.2.2⟩
  else .isFalse fun k => h ⟨k.mul, k.add, k.conv, k.nan, k.floor, k.int, k.low, k.small⟩

theorem wrap_unit (G : Nat) (h : G ≤ 8) : IntKind.i64.wrap ((2 : Int) ^ G) = (2 : Int) ^ G := by
  have : ∀ G : Fin 9, IntKind.i64.wrap ((2 : Int) ^ G.1) = (2 : Int) ^ G.1 := by decide
  exact this ⟨G, by omega⟩

theorem floor_call (r : Nat) (h : (Ieee.double.read r).isNaN = false) (W : World) : (callFunc 105 #[.float .f64 r]).run Try.prog W = .ok (.value (.float .f64 (Ieee.double.write ((Ieee.double.read r).integral .down)))) W := by
  rw [run_callFunc_extern Try.func105 (by kernel_rfl) (by kernel_rfl) (by kernel_rfl) (e := Extern.MathFloor.toIntegral "math.archFloor" .down) rfl]
  obtain ⟨d, hd⟩ : ∃ d, FloatKind.f64.decode r = d := ⟨_, rfl⟩
  have hd2 : Ieee.double.read r = d := hd
  rw [hd2] at h ⊢
  have he : Extern.MathFloor.toIntegral "math.archFloor" .down #[.float .f64 r] = pure (.float .f64 (FloatKind.f64.encode (d.integral .down))) := by
    delta Extern.MathFloor.toIntegral
    clear hd2
    generalize FloatKind.decode FloatKind.f64 = dec at hd ⊢
    conv => lhs; whnf
    rw [hd]
    cases d with
    | nan s t => cases h
    | infinity s => rfl
    | number s m p => rfl
  rw [he]
  rfl

theorem floor_ok (r : Nat) (h : (Ieee.double.read r).isNaN = false) (w : World) : Calls Try.prog 98 #[.float .f64 r] w fun e w' => e = .returned (.float .f64 (Ieee.double.write ((Ieee.double.read r).integral .down))) ∧ w = w' := by
  have hc := fun W => floor_call r h W
  clear h
  generalize Ieee.double.write ((Ieee.double.read r).integral .down) = r2 at *
  go_enter Try.func98, Try.ntmps98
  go_wp2_with fail
  go_ret
  exact ⟨rfl, rfl⟩

set_option maxHeartbeats 800000 in
theorem specUnits_ok (x G : Nat) (n : Int) (w : World) (hG : G ≤ 8) (h : UnitOk x G n) : Calls Try.prog 96 #[.float .f32 x, .int .i64 G] w fun e w' => e = .returned (.int .i64 n) ∧ w = w' := by
  have hw2 := wrap_unit G hG
  have d1 : ∀ W, (binOp .mul 55 (.float .f32 x) (.float .f32 (floatOfInt .f32 ((2 : Int) ^ G)))).run Try.prog W = .ok (.float .f32 (uS x G)) W := fun W => run_float_arith W .mul _ .f32 _ _ _ h.mul
  have d2 : ∀ W, (binOp .add 55 (.float .f32 (uS x G)) (.float .f32 1056964608)).run Try.prog W = .ok (.float .f32 (uY x G)) W := fun W => run_float_arith W .add _ .f32 _ _ _ h.add
  have d3 : ∀ W, (convert 55 3 (.float .f32 (uY x G))).run Try.prog W = .ok (.int .i64 (uN x G)) W := fun W => run_convert_float_int W _ _ .f32 .i64 _ _ (by rw [Try.underlying55]; rfl) Try.underlying3 h.int
  have hl := h.low
  have hs := h.small
  clear h
  generalize uS x G = s at *
  generalize uN x G = n0 at *
  generalize uY x G = y at *
  by_cases hb : Ieee.single.order (floatOfInt .f32 n0) y = some .gt
  · rw [if_pos hb] at hl
    subst hl
    have hb1 : (FloatKind.f32.format.order (floatOfInt .f32 n0) y == some Ordering.gt) = true := by rw [show FloatKind.f32.format = Ieee.single from rfl, hb]; rfl
    clear hb
    have q1 : -10000001 ≤ n0 := by omega
    have q2 : n0 ≤ 10000001 := by omega
    go_enter Try.func96, Try.ntmps96
    go_wp2_with fail
    go_ret
    exact ⟨rfl, rfl⟩
  · rw [if_neg hb] at hl
    subst hl
    have hb1 : (FloatKind.f32.format.order (floatOfInt .f32 n0) y == some Ordering.gt) = false := beq_eq_false_iff_ne.2 hb
    clear hb
    go_enter Try.func96, Try.ntmps96
    go_wp2_with fail
    go_ret
    exact ⟨rfl, rfl⟩

set_option maxHeartbeats 800000 in
theorem implUnits_ok (x G : Nat) (n : Int) (w : World) (hG : G ≤ 8) (h : UnitOk x G n) : Calls Try.prog 76 #[.float .f32 x, .int .i64 G] w fun e w' => e = .returned (.int .i64 n) ∧ w = w' := by
  have hw2 := wrap_unit G hG
  have d1 : ∀ W, (binOp .mul 55 (.float .f32 x) (.float .f32 (floatOfInt .f32 ((2 : Int) ^ G)))).run Try.prog W = .ok (.float .f32 (uS x G)) W := fun W => run_float_arith W .mul _ .f32 _ _ _ h.mul
  have d2 : ∀ W, (binOp .add 55 (.float .f32 (uS x G)) (.float .f32 1056964608)).run Try.prog W = .ok (.float .f32 (uY x G)) W := fun W => run_float_arith W .add _ .f32 _ _ _ h.add
  have d3 : ∀ W, (convert 55 61 (.float .f32 (uY x G))).run Try.prog W = .ok (.float .f64 (uR x G)) W := fun W => run_convert_float_float W _ _ .f32 .f64 _ _ (by rw [Try.underlying55]; rfl) Try.underlying61 h.conv
  have hf := fun w => floor_ok (uR x G) h.nan w
  have d4 : ∀ W, (convert 61 3 (.float .f64 (uF x G))).run Try.prog W = .ok (.int .i64 n) W := fun W => run_convert_float_int W _ _ .f64 .i64 _ _ (by rw [Try.underlying61]; rfl) Try.underlying3 h.floor
  have hfe : Ieee.double.write ((Ieee.double.read (uR x G)).integral .down) = uF x G := rfl
  rw [hfe] at hf
  have Hf := hide hf
  clear h hfe hf
  generalize uF x G = f at *
  generalize uR x G = r at *
  generalize uS x G = s at *
  generalize uY x G = y at *
  go_enter Try.func76, Try.ntmps76
  go_wp2_with fail
  refine (Hf.out _).mono ?_
  rintro e w1 ⟨rfl, rfl⟩
  go_wp2_with fail
  go_ret
  exact ⟨rfl, rfl⟩

/-- The grid point of a pair of words. -/
structure GridOk (z : Nat × Nat) (G : Nat) (p : Int × Int) : Prop where
  x : UnitOk z.1 G p.1
  y : UnitOk z.2 G p.2

set_option maxHeartbeats 800000 in
theorem specGrid_ok (z : Nat × Nat) (G : Nat) (p : Int × Int) (w : World) (hG : G ≤ 8) (h : GridOk z G p) : Calls Try.prog 72 #[.complex .f32 z.1 z.2, .int .i64 G] w fun e w' => e = .returned (.agg #[.int .i64 p.1, .int .i64 p.2]) ∧ Below w.heap.size w w' := by
  have H1 := hide (fun w => specUnits_ok z.1 G p.1 w hG h.x)
  have H2 := hide (fun w => specUnits_ok z.2 G p.2 w hG h.y)
  clear h
  obtain ⟨p1, p2⟩ := p
  obtain ⟨z1, z2⟩ := z
  dsimp only at H1 H2 ⊢
  go_enter Try.func72, Try.ntmps72
  go_wp2_with fail
  refine (H1.out _).mono ?_
  rintro e w1 ⟨rfl, rfl⟩
  go_wp2_with fail
  refine (H2.out _).mono ?_
  rintro e w1 ⟨rfl, rfl⟩
  go_wp2_with fail
  refine bodyPost_ret (v := .agg #[.int .i64 p1, .int .i64 p2]) (by simp [results, Try.results72, go_sem]) rfl ⟨rfl, ?_⟩
  exact kept_new _ _

set_option maxHeartbeats 800000 in
theorem implGrid_ok (z : Nat × Nat) (G : Nat) (p : Int × Int) (w : World) (hG : G ≤ 8) (h : GridOk z G p) : Calls Try.prog 50 #[.complex .f32 z.1 z.2, .int .i64 G] w fun e w' => e = .returned (.agg #[.int .i64 p.1, .int .i64 p.2]) ∧ Below w.heap.size w w' := by
  have H1 := hide (fun w => implUnits_ok z.1 G p.1 w hG h.x)
  have H2 := hide (fun w => implUnits_ok z.2 G p.2 w hG h.y)
  clear h
  obtain ⟨p1, p2⟩ := p
  obtain ⟨z1, z2⟩ := z
  dsimp only at H1 H2 ⊢
  go_enter Try.func50, Try.ntmps50
  go_wp2_with fail
  refine (H1.out _).mono ?_
  rintro e w1 ⟨rfl, rfl⟩
  go_wp2_with fail
  refine (H2.out _).mono ?_
  rintro e w1 ⟨rfl, rfl⟩
  go_wp2_with fail
  refine bodyPost_ret (v := .agg #[.int .i64 p1, .int .i64 p2]) (by simp [results, Try.results50, go_sem]) rfl ⟨rfl, ?_⟩
  exact kept_new _ _

end Go.Proofs.Ytnlmiemnblppbaa
