/-
  Points and moves compared as the drawn laws do it.
-/
import Derived.Test.YtnlmiemnblppbaaPa
import Derived.Test.YtnlmiemnblppbaaMv2
namespace Go.Proofs.Ytnlmiemnblppbaa
open Go.RowKit

theorem near_word (f : Ieee.Format) (neg : Bool) (mag : Nat) (place : Int) : ∃ r, f.nearest neg mag place = f.word neg r ∧ r ≤ f.infRung := by
  unfold Ieee.Format.nearest
  split
  · exact ⟨0, rfl, Nat.zero_le _⟩
  · exact ⟨_, rfl, Nat.min_le_right ..⟩

theorem word_nan (neg : Bool) (r : Nat) (h : r ≤ Ieee.double.infRung) : (Ieee.double.read (Ieee.double.word neg r)).isNaN = false := by
  have hs : Ieee.double.word neg r % Ieee.double.signWeight = r := by
    have hl := Nat.lt_of_le_of_lt h Ieee.double.infRung_lt
    unfold Ieee.Format.word
    split
    · rw [Nat.add_mod_left, Nat.mod_eq_of_lt hl]
    · rw [Nat.mod_eq_of_lt hl]
  unfold Ieee.Format.read
  dsimp only
  rw [hs]
  split
  · rfl
  · split
    · rfl
    · split
      · rfl
      · omega

theorem order_ok (f : Ieee.Format) (x : Nat) (h : (f.read x).isNaN = false) : f.order x x = some .eq := by
  unfold Ieee.Format.order
  cases hd : f.read x with
  | nan s t => rw [hd] at h; cases h
  | infinity s => cases s <;> rfl
  | number s m p =>
    simp only [Ieee.Datum.order]
    rw [cmp_self]

theorem inv_any (x : Nat) (s : Bool) (m : Nat) (p : Int) (h : Ieee.double.read x = .number s m p) : ∃ r, Ieee.double.div 4607182418800017408 x = some r ∧ Ieee.double.order r r = some .eq := by
  unfold Ieee.Format.div
  rw [h, show Ieee.double.read 4607182418800017408 = .number false 4503599627370496 (-52) from by decide]
  simp only [Ieee.Datum.quotient]
  by_cases hm : m = 0
  · rw [if_pos hm, if_neg (by decide)]
    exact ⟨_, rfl, order_ok _ _ (word_nan _ _ (Nat.le_refl _))⟩
  · rw [if_neg hm]
    refine ⟨_, rfl, order_ok _ _ ?_⟩
    obtain ⟨r, hr, hle⟩ := near_word Ieee.double (false ^^ s) (2 * (4503599627370496 <<< (Ieee.double.fractionBits + 2 + m.log2 - Nat.log2 4503599627370496) / m) + (4503599627370496 <<< (Ieee.double.fractionBits + 2 + m.log2 - Nat.log2 4503599627370496) % m != 0).toNat) (-52 - p - ((Ieee.double.fractionBits + 2 + m.log2 - Nat.log2 4503599627370496 : Nat) : Int) - 1)
    show (Ieee.double.read (Ieee.double.nearest _ _ _)).isNaN = false
    rw [hr]
    exact word_nan _ _ hle

theorem zeroAlike_ok (a : Nat) (s : Bool) (m : Nat) (p : Int) (w : World) (h : Ieee.double.read a = .number s m p) : Calls Try.prog 34 #[.float .f64 a, .float .f64 a] w fun e w' => e = .returned (.bool true) ∧ w = w' := by
  have ho : FloatKind.f64.format.order a a = some .eq := order_self _ _ _ _ _ h
  have h1 : (FloatKind.f64.format.order a a != some Ordering.eq) = false := by rw [ho]; rfl
  have h2 : (FloatKind.f64.format.order a a == some Ordering.eq) = true := by rw [ho]; rfl
  obtain ⟨r, hr, hro⟩ := inv_any a s m p h
  have h3 : (FloatKind.f64.format.order r r == some Ordering.eq) = true := by rw [show FloatKind.f64.format = Ieee.double from rfl, hro]; rfl
  have hd : ∀ W, (binOp .quo 61 (.float .f64 4607182418800017408) (.float .f64 a)).run Try.prog W = .ok (.float .f64 r) W := fun W => run_float_arith W .quo _ .f64 _ _ _ hr
  clear ho h hr hro
  go_enter Try.func34, Try.ntmps34
  go_wp2_with fail
  go_ret
  exact ⟨by simp [*], rfl⟩

theorem wideAlike_ok (a b : Nat) (s t : Bool) (m n : Nat) (p q : Int) (w : World) (h : Ieee.double.read a = .number s m p) (h' : Ieee.double.read b = .number t n q) : Calls Try.prog 60 #[.complex .f64 a b, .complex .f64 a b] w fun e w' => e = .returned (.bool true) ∧ w = w' := by
  have H := hide h
  have H' := hide h'
  clear h h'
  go_enter Try.func60, Try.ntmps60
  go_wp2_with fail
  refine (zeroAlike_ok a s m p _ H.out).mono ?_
  rintro e w1 ⟨rfl, rfl⟩
  go_wp2_with fail
  refine (zeroAlike_ok b t n q _ H'.out).mono ?_
  rintro e w1 ⟨rfl, rfl⟩
  go_wp2_with fail
  go_ret
  exact ⟨by simp, rfl⟩

/-- Both words are finite. -/
def FinP (z : Nat × Nat) : Prop := fieldW Ieee.single z.1 ≤ 250 ∧ fieldW Ieee.single z.2 ≤ 250

theorem conv_upP (z : Nat × Nat) (h : FinP z) : ∃ a b s t m n p q, (∀ W, (convert 46 83 (.complex .f32 z.1 z.2)).run Try.prog W = .ok (.complex .f64 a b) W) ∧ Ieee.double.read a = .number s m p ∧ Ieee.double.read b = .number t n q := by
  obtain ⟨a, s, m, p, h1, h2⟩ := conv_fin z.1 250 h.1 (by decide)
  obtain ⟨b, t, n, q, h3, h4⟩ := conv_fin z.2 250 h.2 (by decide)
  refine ⟨a, b, s, t, m, n, p, q, fun W => run_convert_complex W _ _ .f32 .f64 _ _ _ _ (by rw [Try.underlying46]; rfl) Try.underlying83 (by simp [cConvBits, h1, h3]), h2, h4⟩

theorem singleAlike_ok (z : Nat × Nat) (w : World) (h : FinP z) : Calls Try.prog 27 #[.complex .f32 z.1 z.2, .complex .f32 z.1 z.2] w fun e w' => e = .returned (.bool true) ∧ w = w' := by
  obtain ⟨a, d, s, k, m1, n1, p, q, hcv, ha, hd⟩ := conv_upP z h
  have Hs := hide (fun W => wideAlike_ok a d s k m1 n1 p q W ha hd)
  clear ha hd h
  obtain ⟨x, y⟩ := z
  dsimp only at hcv
  go_enter Try.func27, Try.ntmps27
  go_wp2_with fail
  refine (Hs.out _).mono ?_
  rintro e w1 ⟨rfl, rfl⟩
  go_wp2_with fail
  go_ret
  exact ⟨rfl, rfl⟩

theorem quietP {P : Program} {f : FuncId} {args : Array Value} {w : World} {m n : Nat} {v : Value}
    (h : Calls P f args (w.drewN (m + n)) fun e w' => e = .returned v ∧ w.drewN (m + n) = w') : Calls P f args (w.drewN (m + n)) fun e w'' => e = .returned v ∧ ∃ k, w'' = w.drewN (m + k) :=
  h.mono fun _ _ ⟨he, hm⟩ => ⟨he, n, hm.symm⟩

set_option maxRecDepth 100000 in
set_option maxHeartbeats 1000000 in
theorem samePoints_ok (v v' : Value) (zs : List (Nat × Nat)) (w : World) (hr : Reads w 1 v zs.length (cCells zs)) (hr' : Reads w 1 v' zs.length (cCells zs)) (hf : ∀ z ∈ zs, FinP z) :
    Calls Try.prog 13 #[v, v'] w fun e w' => e = .returned (.bool true) ∧ Below w.heap.size w w' := by
  have Hf := hide hf
  clear hf
  obtain ⟨_, hm, A, c, rfl, hc⟩ := hr
  obtain ⟨_, _, A', c', rfl, hc'⟩ := hr'
  go_enter Try.func13, Try.ntmps13
  go_wp2_with fail
  go_loopw [5] (fun i wr => ∃ t m : Nat, t ≤ zs.length ∧ i = .int .i64 t ∧ wr = w.drewN m) (fun i _ => zs.length - (intOf i).toNat)
  case atStart => exact ⟨0, 0, by omega, rfl, rfl⟩
  case round =>
    obtain ⟨t, m, ht, rfl, rfl⟩ := hrel
    by_cases hlt : t < zs.length
    · obtain ⟨b, o, rfl, hbl, hcell⟩ := hc (by omega) (by omega)
      obtain ⟨b', o', rfl, hbl', hcell'⟩ := hc' (by omega) (by omega)
      have h1 := (hcell t (by omega)).trans (cCells_get zs t hlt)
      have h1' := (hcell' t (by omega)).trans (cCells_get zs t hlt)
      have hz := Hf.out _ (List.getElem_mem hlt)
      clear hcell hc hcell' hc'
      generalize zs[t] = z at h1 h1' hz
      have Hsc := hide (fun W => singleAlike_ok z W hz)
      clear hz
      obtain ⟨x, y⟩ := z
      dsimp only at h1 h1'
      have q3 : (0 : Int) ≤ (t : Int) := by omega
      have q4 : (t : Int) < (zs.length : Int) := by omega
      go_wp2_with fail
      go_quiet ((go_at_call 27; exact quietP (Hsc.out _)))
      go_wp2_with fail
      go_roundw
      case rel => exact ⟨t + 1, _, by omega, by go_num, rfl⟩
      case measure => simp [intOf]; omega
    · go_wp2_with fail
      go_ret
      exact ⟨rfl, kept_drewN _ _⟩

set_option maxRecDepth 100000 in
set_option maxHeartbeats 400000 in
theorem sameMovesP_ok (v v' : Value) (ms : List (Int × Int)) (w : World) (hr : Reads w 2 v ms.length (mvCells ms)) (hr' : Reads w 2 v' ms.length (mvCells ms)) :
    Calls Try.prog 15 #[v, v'] w fun e w' => e = .returned (.bool true) ∧ Below w.heap.size w w' := by
  obtain ⟨_, hm, A, c, rfl, hc⟩ := hr
  obtain ⟨_, _, A', c', rfl, hc'⟩ := hr'
  go_enter Try.func15, Try.ntmps15
  go_wp2_with fail
  go_loopw [5] (fun i wr => ∃ t m : Nat, t ≤ ms.length ∧ i = .int .i64 t ∧ wr = w.drewN m) (fun i _ => ms.length - (intOf i).toNat)
  case atStart => exact ⟨0, 0, by omega, rfl, rfl⟩
  case round =>
    obtain ⟨t, m, ht, rfl, rfl⟩ := hrel
    by_cases hlt : t < ms.length
    · obtain ⟨b, o, rfl, hbl, hcell⟩ := hc (by omega) (by omega)
      obtain ⟨b', o', rfl, hbl', hcell'⟩ := hc' (by omega) (by omega)
      have h1 := (hcell (t * 2) (by omega)).trans (mvCells_x ms t hlt)
      have h2 : w.cell? ⟨b, o + t * 2 + 1, none⟩ = _ := (hcell (t * 2 + 1) (by omega)).trans (mvCells_y ms t hlt)
      have h1' := (hcell' (t * 2) (by omega)).trans (mvCells_x ms t hlt)
      have h2' : w.cell? ⟨b', o' + t * 2 + 1, none⟩ = _ := (hcell' (t * 2 + 1) (by omega)).trans (mvCells_y ms t hlt)
      clear hcell hc hcell' hc'
      generalize ms[t] = p at h1 h2 h1' h2'
      obtain ⟨x, y⟩ := p
      dsimp only at h1 h2 h1' h2'
      have q3 : (0 : Int) ≤ (t : Int) := by omega
      have q4 : (t : Int) < (ms.length : Int) := by omega
      go_wp2_with fail
      go_quiet (fail)
      go_wp2_with fail
      go_roundw
      case rel => exact ⟨t + 1, _, by omega, by go_num, rfl⟩
      case measure => simp [intOf]; omega
    · go_wp2_with fail
      go_ret
      exact ⟨rfl, kept_drewN _ _⟩

end Go.Proofs.Ytnlmiemnblppbaa
