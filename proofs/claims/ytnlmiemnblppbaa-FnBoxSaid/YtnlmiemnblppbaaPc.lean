/-
  Lists of complex numbers compared, marked and held, as the exact laws do it.
-/
import Derived.Test.YtnlmiemnblppbaaPa
import Derived.Deep.RegionHeld3
import Derived.BigRegion
namespace Go.Proofs.Ytnlmiemnblppbaa
open Go.RowKit

theorem quietC {P : Program} {f : FuncId} {args : Array Value} {w : World} {m n : Nat} {v : Value}
    (h : Calls P f args (w.drewN (m + n)) fun e w' => e = .returned v ∧ w.drewN (m + n) = w') : Calls P f args (w.drewN (m + n)) fun e w'' => e = .returned v ∧ ∃ k, w'' = w.drewN (m + k) :=
  h.mono fun _ _ ⟨he, hm⟩ => ⟨he, n, hm.symm⟩

/-- Both words are finite. -/
def FinZ (z : Nat × Nat) : Prop := fieldW Ieee.single z.1 ≤ 250 ∧ fieldW Ieee.single z.2 ≤ 250

theorem sameFloat_ok (a : Nat) (s : Bool) (m : Nat) (p : Int) (w : World) (h : Ieee.double.read a = .number s m p) : Calls Try.prog 87 #[.float .f64 a, .float .f64 a] w fun e w' => e = .returned (.bool true) ∧ w = w' := by
  have ho : FloatKind.f64.format.order a a = some .eq := order_self _ _ _ _ _ h
  have h1 : (FloatKind.f64.format.order a a != some Ordering.eq) = false := by rw [ho]; rfl
  have h2 : (FloatKind.f64.format.order a a == some Ordering.eq) = true := by rw [ho]; rfl
  by_cases h0 : FloatKind.f64.format.order a 0 = some .eq
  · have h3 : (FloatKind.f64.format.order a 0 == some Ordering.eq) = true := by rw [h0]; rfl
    obtain ⟨r, hr⟩ := inv_zero a s m p h h0
    have hd : ∀ W, (binOp .quo 61 (.float .f64 4607182418800017408) (.float .f64 a)).run Try.prog W = .ok (.float .f64 r) W := fun W => run_float_arith W .quo _ .f64 _ _ _ hr
    clear ho h0 h hr
    go_enter Try.func87, Try.ntmps87
    go_wp2_with fail
    go_ret
    exact ⟨by simp, rfl⟩
  · have h3 : (FloatKind.f64.format.order a 0 == some Ordering.eq) = false := beq_eq_false_iff_ne.2 h0
    clear ho h0 h
    go_enter Try.func87, Try.ntmps87
    go_wp2_with fail
    go_ret
    exact ⟨by simp [*], rfl⟩

theorem sameComplex_ok (a b : Nat) (s t : Bool) (m n : Nat) (p q : Int) (w : World) (h : Ieee.double.read a = .number s m p) (h' : Ieee.double.read b = .number t n q) : Calls Try.prog 56 #[.complex .f64 a b, .complex .f64 a b] w fun e w' => e = .returned (.bool true) ∧ w = w' := by
  have H := hide h
  have H' := hide h'
  clear h h'
  go_enter Try.func56, Try.ntmps56
  go_wp2_with fail
  refine (sameFloat_ok a s m p _ H.out).mono ?_
  rintro e w1 ⟨rfl, rfl⟩
  go_wp2_with fail
  refine (sameFloat_ok b t n q _ H'.out).mono ?_
  rintro e w1 ⟨rfl, rfl⟩
  go_wp2_with fail
  go_ret
  exact ⟨by simp, rfl⟩

theorem conv_up (z : Nat × Nat) (h : FinZ z) : ∃ a b s t m n p q, (∀ W, (convert 46 83 (.complex .f32 z.1 z.2)).run Try.prog W = .ok (.complex .f64 a b) W) ∧ Ieee.double.read a = .number s m p ∧ Ieee.double.read b = .number t n q := by
  obtain ⟨a, s, m, p, h1, h2⟩ := conv_fin z.1 250 h.1 (by decide)
  obtain ⟨b, t, n, q, h3, h4⟩ := conv_fin z.2 250 h.2 (by decide)
  refine ⟨a, b, s, t, m, n, p, q, fun W => run_convert_complex W _ _ .f32 .f64 _ _ _ _ (by rw [Try.underlying46]; rfl) Try.underlying83 (by simp [cConvBits, h1, h3]), h2, h4⟩

set_option maxRecDepth 100000 in
set_option maxHeartbeats 1000000 in
theorem eqC_ok (v v' : Value) (zs : List (Nat × Nat)) (w : World) (hr : Reads w 1 v zs.length (cCells zs)) (hr' : Reads w 1 v' zs.length (cCells zs)) (hf : ∀ z ∈ zs, FinZ z) :
    Calls Try.prog 20 #[v, v'] w fun e w' => e = .returned (.bool true) ∧ Below w.heap.size w w' := by
  have Hf := hide hf
  clear hf
  obtain ⟨_, hm, A, c, rfl, hc⟩ := hr
  obtain ⟨_, _, A', c', rfl, hc'⟩ := hr'
  go_enter Try.func20, Try.ntmps20
  go_wp2_with fail
  go_loopw [5] (fun i wr => ∃ t m : Nat, t ≤ zs.length ∧ i = .int .i64 t ∧ wr = w.drewN m) (fun i _ => zs.length - (intOf i).toNat)
  case atStart => exact ⟨0, 0, by omega, rfl, rfl⟩
  case round =>
    obtain ⟨t, m, ht, rfl, rfl⟩ := hrel
    by_cases hlt : t < zs.length
    · obtain ⟨b, o, rfl, hbl, hcell⟩ := hc (by omega) (by omega)
      obtain ⟨b', o', rfl, hbl', hcell'⟩ := hc' (by omega) (by omega)
      have h1 := (hcell t (by omega)).trans (cCells_get zs t hlt)
      have h1' := (hcell' t (by omega)).trans (cCells_get zs t hlt)
      have hz := Hf.out _ (List.getElem_mem hlt)
      clear hcell hc hcell' hc'
      generalize zs[t] = z at h1 h1' hz
      obtain ⟨a, d, s, k, m1, n1, p, q, hcv, ha, hd⟩ := conv_up z hz
      have hsc := fun W => sameComplex_ok a d s k m1 n1 p q W ha hd
      clear ha hd hz
      have Hsc := hide hsc
      clear hsc
      obtain ⟨x, y⟩ := z
      dsimp only at h1 h1' hcv
      have q3 : (0 : Int) ≤ (t : Int) := by omega
      have q4 : (t : Int) < (zs.length : Int) := by omega
      go_wp2_with fail
      go_quiet ((go_at_call 56; exact quietC (Hsc.out _)))
      go_wp2_with fail
      go_roundw
      case rel => exact ⟨t + 1, _, by omega, by go_num, rfl⟩
      case measure => simp [intOf]; omega
    · go_wp2_with fail
      go_ret
      exact ⟨rfl, kept_drewN _ _⟩

/-- The mark of a number. -/
def markW (k : Nat) : Nat := (floatToFloatBits .f64 (floatOfInt .f64 (k : Int)) .f32).getD 0
def cMarks (k n : Nat) : List Value := (List.range n).map fun i => .complex .f32 (markW (k + i)) 1065353216

theorem markW_ok (k : Nat) (h : k ≤ 200) : cConvBits .f64 (floatOfInt .f64 (k : Int)) 4607182418800017408 .f32 = some (markW k, 1065353216) ∧ FloatKind.f32.format.order (markW k) (markW k) = some .eq ∧ FloatKind.f32.format.order 1065353216 1065353216 = some .eq := by
  have : ∀ k : Fin 201, cConvBits .f64 (floatOfInt .f64 (k.1 : Int)) 4607182418800017408 .f32 = some (markW k.1, 1065353216) ∧ FloatKind.f32.format.order (markW k.1) (markW k.1) = some .eq ∧ FloatKind.f32.format.order 1065353216 1065353216 = some .eq := by decide +kernel
  exact this ⟨k, by omega⟩

theorem conv_mark (k : Nat) (h : k ≤ 200) (W : World) : (convert 83 46 (.complex .f64 (floatOfInt .f64 (k : Int)) 4607182418800017408)).run Try.prog W = .ok (.complex .f32 (markW k) 1065353216) W :=
  run_convert_complex W _ _ .f64 .f32 _ _ _ _ (by rw [Try.underlying83]; rfl) Try.underlying46 (markW_ok k h).1

theorem cMarks_get (k n i : Nat) (h : i < n) : (cMarks k n)[i]? = some (.complex .f32 (markW (k + i)) 1065353216) := by simp [cMarks, h]

theorem cMarks_set (k t : Nat) (xs : List Value) (h : t < xs.length) : (cMarks k t ++ xs.drop t).set t (.complex .f32 (markW (k + t)) 1065353216) = cMarks k (t + 1) ++ xs.drop (t + 1) := by
  have hl : (cMarks k t).length = t := by simp [cMarks]
  rw [List.set_append_right _ _ (by omega), hl, Nat.sub_self]
  obtain ⟨x, ys, hx⟩ : ∃ x ys, xs.drop t = x :: ys := ⟨_, _, List.drop_eq_getElem_cons h⟩
  have hd : xs.drop (t + 1) = ys := by
    have := List.drop_eq_getElem_cons h
    rw [hx] at this
    exact (List.cons.inj this).2.symm
  rw [hx, List.set_cons_zero, hd]
  simp [cMarks, List.range_succ]

set_option maxHeartbeats 1000000 in
theorem heldC_ok (v : Value) (n k : Nat) (w : World) (hr : Reads w 1 v n (cMarks k n)) (hk2 : k + n ≤ 200) :
    Calls Try.prog 24 #[v, .int .i64 k] w fun e w' => e = .returned (.int .i64 (k + n : Nat)) ∧ w = w' := by
  obtain ⟨_, hm, A, c, rfl, hc⟩ := hr
  go_enter Try.func24, Try.ntmps24
  go_wp2_with fail
  go_loop [1, 5] (fun q i => ∃ t : Nat, t ≤ n ∧ i = .int .i64 t ∧ q = .int .i64 (k + t : Nat)) (fun _ i => n - (intOf i).toNat)
  case atStart => exact ⟨0, by omega, rfl, by simp⟩
  case round =>
    obtain ⟨t, ht, rfl, rfl⟩ := hrel
    by_cases hlt : t < n
    · obtain ⟨b, o, rfl, hbl, hcell⟩ := hc (by omega) (by omega)
      have h1 := (hcell t (by omega)).trans (cMarks_get k n t hlt)
      have hcv := fun W => conv_mark (k + t) (by omega) W
      obtain ⟨_, o1, o2⟩ := markW_ok (k + t) (by omega)
      have h2 : (FloatKind.f32.format.order (markW (k + t)) (markW (k + t)) == some Ordering.eq) = true := by rw [o1]; rfl
      have h3 : (FloatKind.f32.format.order 1065353216 1065353216 == some Ordering.eq) = true := by rw [o2]; rfl
      obtain ⟨j, hj⟩ : ∃ j, k + t = j := ⟨_, rfl⟩
      rw [hj] at h1 h2 hcv ⊢
      clear hcell hc o1 o2
      have hj0 : (0 : Int) ≤ (j : Int) := by omega
      have hj1 : (j : Int) ≤ 200 := by omega
      generalize markW j = mw at *
      go_wp2_with fail
      go_round
      case rel => exact ⟨t + 1, by omega, by go_num, by subst hj; go_num⟩
      case measure => simp [intOf]; omega
    · obtain rfl : t = n := by omega
      go_wp2_with fail
      go_ret
      exact ⟨rfl, rfl⟩

set_option maxHeartbeats 1000000 in
theorem markC_ok (B n : Nat) (v : Value) (xs : List Value) (k : Nat) (w : World) (hw : Has w B 1 v n xs) (hk2 : k + n ≤ 200) :
    Calls Try.prog 23 #[v, .int .i64 k] w fun e w' => e = .returned (.int .i64 (k + n : Nat)) ∧ Has w' B 1 v n (cMarks k n) ∧ w.grownBy w' v.ownBlock := by
  rcases has_cases hw with ⟨rfl, rfl⟩ | ⟨g, cap, rfl, hB, hg, hm, _, _⟩
  · go_enter Try.func23, Try.ntmps23
    go_wp2_with fail
    refine wp_loop_rounds 1 ?_; rw [rounds_succ]
    go_wp2
    go_ret
    exact ⟨by simp, ⟨by simp [cMarks], by omega, .inl ⟨rfl, rfl⟩⟩, World.grownBy.refl _ _⟩
  · have hlen := hw.1
    go_enter Try.func23, Try.ntmps23
    go_wp2_with fail
    go_loopw [1, 5] (fun q i wr => ∃ t : Nat, t ≤ n ∧ i = .int .i64 t ∧ q = .int .i64 (k + t : Nat) ∧ Has wr B 1 (.slice (some ⟨g, 0, none⟩) n cap) n (cMarks k t ++ xs.drop t) ∧ w.grownBy wr (some g)) (fun _ i _ => n - (intOf i).toNat)
    case atStart => exact ⟨0, by omega, rfl, by simp, by simpa [cMarks] using hw, World.grownBy.refl _ _⟩
    case round =>
      obtain ⟨t, ht, rfl, rfl, how, hgr⟩ := hrel
      by_cases hlt : t < n
      · obtain ⟨hcl, hfr⟩ : (∀ j, j < n * 1 → wr.cell? ⟨g, j, none⟩ = (cMarks k t ++ xs.drop t)[j]?) ∧ (∀ j, wr.frozen? ⟨g, j, none⟩ = false) := by
          rcases has_cases how with ⟨h', _⟩ | ⟨g', cap', h', _, _, _, h1, h2⟩
          · simp at h'
          · simp only [Value.slice.injEq, Option.some.injEq, Addr.mk.injEq, and_true, true_and] at h'
            obtain ⟨rfl, rfl⟩ := h'
            exact ⟨h1, h2⟩
        have hsz : (cMarks k t ++ xs.drop t).length = xs.length := by simp [cMarks]; omega
        obtain ⟨u0, k0⟩ : ∃ u, wr.cell? ⟨g, t, none⟩ = some u := by
          rw [hcl _ (by omega)]
          exact ⟨_, List.getElem?_eq_getElem (by omega)⟩
        have f0 := hfr t
        obtain ⟨s1, g1⟩ := has_stored how t (.complex .f32 (markW (k + t)) 1065353216)
        rw [cMarks_set k t xs (by omega)] at s1
        have gg := grown_trans' hgr g1
        have hcv := fun W => conv_mark (k + t) (by omega) W
        obtain ⟨j, hj⟩ : ∃ j, k + t = j := ⟨_, rfl⟩
        rw [hj] at s1 gg hcv ⊢
        have hj0 : (0 : Int) ≤ (j : Int) := by omega
        have hj1 : (j : Int) ≤ 200 := by omega
        clear how hgr g1 hw hsz hcl hfr
        generalize markW j = mw at *
        have hst : ∀ (a : Addr) (x y : Nat) (m : Mode) (W : World), (store a (.complex .f32 x y) m).run Try.prog W = stored Try.prog W a (.complex .f32 x y) m := fun a x y m W => run_store Try.prog W a _ m rfl
        go_wp2_with fail
        go_roundw
        case rel => exact ⟨t + 1, by omega, by go_num, by subst hj; go_num, s1, gg⟩
        case measure => simp [intOf]; omega
      · obtain rfl : t = n := by omega
        go_wp2_with fail
        go_ret
        exact ⟨rfl, by simpa [List.drop_of_length_le, hlen] using how, hgr⟩

end Go.Proofs.Ytnlmiemnblppbaa
