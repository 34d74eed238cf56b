/-
  MovesPath, both sides.
-/
import Derived.Test.YtnlmiemnblppbaaPa
import Derived.Test.YtnlmiemnblppbaaMv2
namespace Go.Proofs.Ytnlmiemnblppbaa
open Go.RowKit

def px (ms : List (Int × Int)) (t : Nat) : Int := ((ms.take t).map Prod.fst).sum
def py (ms : List (Int × Int)) (t : Nat) : Int := ((ms.take t).map Prod.snd).sum
theorem px_succ (ms : List (Int × Int)) (t : Nat) (h : t < ms.length) : px ms (t + 1) = px ms t + (ms[t]).1 := by
  rw [px, px, List.take_succ_eq_append_getElem h, List.map_append, List.sum_append]
  simp only [List.map_cons, List.map_nil, List.sum_cons, List.sum_nil, Int.add_zero]
theorem py_succ (ms : List (Int × Int)) (t : Nat) (h : t < ms.length) : py ms (t + 1) = py ms t + (ms[t]).2 := by
  rw [py, py, List.take_succ_eq_append_getElem h, List.map_append, List.sum_append]
  simp only [List.map_cons, List.map_nil, List.sum_cons, List.sum_nil, Int.add_zero]
theorem p_bd (ms : List (Int × Int)) (h : mvsUpto ms ms.length) (t : Nat) (ht : t ≤ ms.length) : (-(10000000 * t : Int) ≤ px ms t ∧ px ms t ≤ 10000000 * t) ∧ -(10000000 * t : Int) ≤ py ms t ∧ py ms t ≤ 10000000 * t := by
  induction t with
  | zero => simp [px, py]
  | succ t ih =>
    have := ih (by omega)
    rw [px_succ ms t (by omega), py_succ ms t (by omega)]
    have hv := h t (by omega) (by omega)
    obtain ⟨v1, v2, v3, v4⟩ := hv
    exact ⟨⟨by omega, by omega⟩, by omega, by omega⟩

/-- The word of x over the unit. -/
def qW (x : Int) (G : Nat) : Nat := (Ieee.single.div (floatOfInt .f32 x) (floatOfInt .f32 ((2 : Int) ^ G))).getD 0

theorem q_ok (x : Int) (G : Nat) (h1 : -1000000000 ≤ x) (h2 : x ≤ 1000000000) (hG : G ≤ 8) : Ieee.single.div (floatOfInt .f32 x) (floatOfInt .f32 ((2 : Int) ^ G)) = some (qW x G) ∧ fieldW Ieee.single (qW x G) ≤ 160 := by
  have hx := int_fin x 30 157 (by omega) (by decide)
  have hu := unit_read G hG
  rw [Int.natCast_pow] at hu
  obtain ⟨r, hr, hf⟩ := div_fin _ _ 157 _ _ hx (by decide) (by decide) hu (by decide) (by rw [show Nat.log2 8388608 = 23 from by decide]; omega)
  have e : qW x G = r := by unfold qW; rw [show ((2 : Int) ^ G) = ((2 : Nat) : Int) ^ G from rfl, hr]; rfl
  rw [e]
  exact ⟨hr, by omega⟩

/-- The first t points of moves. -/
def mPts (ms : List (Int × Int)) (G t : Nat) : List (Nat × Nat) := (List.range t).map fun i => (qW (px ms (i + 1)) G, qW (py ms (i + 1)) G)
theorem mPts_len (ms : List (Int × Int)) (G t : Nat) : (mPts ms G t).length = t := by simp [mPts]
theorem mPts_succ (ms : List (Int × Int)) (G t : Nat) : cCells (mPts ms G (t + 1)) = cCells (mPts ms G t) ++ [.complex .f32 (qW (px ms (t + 1)) G) (qW (py ms (t + 1)) G)] := by
  simp [mPts, cCells, List.range_succ, cpx]

def mpRes (ms : List (Int × Int)) (g : Int) : List (Nat × Nat) × Bool :=
  if mvsIn ms = true ∧ ms ≠ [] ∧ 0 ≤ g ∧ g ≤ 8 then pathRes (mPts ms g.toNat ms.length) else ([], false)

def MpPost (r : List (Nat × Nat) × Bool) (w : World) (e : Ending) (w' : World) : Prop :=
  ∃ v, e = .returned (.tuple #[v, .bool r.2]) ∧ Has w' w.heap.size 1 v r.1.length (cCells r.1) ∧ Below w.heap.size w w'

theorem Try.infoC : (Try.prog.info? 46).map (fun i => (i.zero, i.size, i.bytes)) = some (some (.complex .f32 0 0), 1, 8) := by kernel_rfl

set_option maxRecDepth 100000 in
set_option maxHeartbeats 2000000 in
theorem specMP_ok (v : Value) (ms : List (Int × Int)) (g : Int) (w : World) (hr : Reads w 2 v ms.length (mvCells ms)) :
    Calls Try.prog 12 #[v, .int .i64 g] w (MpPost (mpRes ms g) w) := by
  obtain ⟨i0, hi, hz0, hz1, hz2⟩ := info_parts Try.infoC
  have ho1 := World.ownsRow_lit (base := w.heap.size) (e := 46) (size := 1) w #[] 0 (Nat.le_refl _) (by decide) (by simp)
  have hb1 := kept_new w (.cells #[] 46)
  have Hrk := hide (reads_kept hr hb1)
  have Hr := hide hr
  obtain ⟨_, hm, A, c, rfl, hc⟩ := hr
  cases hin : mvsIn ms with
  | false =>
    have Hfin : Hid (mpRes ms g = ([], false)) := by simp [mpRes, hin, Hid]
    have Hin := hide hin
    have Ho1 := hide (has_owns ho1)
    clear hin ho1
    go_enter Try.func12, Try.ntmps12
    go_wp2_with fail
    refine (l10Moves_ok _ ms _ Hrk.out).mono ?_
    rintro e w1 ⟨rfl, rfl⟩
    rw [Hin.out]
    go_wp2_with fail
    go_ret2
    exact ⟨_, by rw [Hfin.out]; rfl, by rw [Hfin.out]; exact Ho1.out, hb1⟩
  | true =>
    obtain ⟨hl, hup⟩ := mvsIn_parts hin
    have Hup := hide hup
    by_cases h0 : ms.length = 0
    · have hnil : ms = [] := List.eq_nil_of_length_eq_zero h0
      have Hfin : Hid (mpRes ms g = ([], false)) := by simp [mpRes, hnil, Hid]
      have Hin := hide hin
      have Ho1 := hide (has_owns ho1)
      have h0' : (ms.length : Int) = 0 := by omega
      clear hin ho1 hup hnil h0 hc hl hm
      go_enter Try.func12, Try.ntmps12
      go_wp2_with fail
      refine (l10Moves_ok _ ms _ Hrk.out).mono ?_
      rintro e w1 ⟨rfl, rfl⟩
      rw [Hin.out]
      go_wp2_with fail
      go_ret2
      exact ⟨_, by rw [Hfin.out]; rfl, by rw [Hfin.out]; exact Ho1.out, hb1⟩
    · have h0' : ¬ (ms.length : Int) = 0 := by omega
      have h0b : ((ms.length : Int) == 0) = false := beq_eq_false_iff_ne.2 h0'
      by_cases hg : 0 ≤ g ∧ g ≤ 8
      · obtain ⟨G, rfl⟩ : ∃ G : Nat, g = G := ⟨g.toNat, by omega⟩
        have hG8 : G ≤ 8 := by omega
        have Hfin : Hid (mpRes ms G = pathRes (mPts ms G ms.length)) := by
          rw [Hid, mpRes, if_pos ⟨hin, fun e => h0 (by rw [e]; rfl), by omega, by omega⟩]
          rfl
        have Hin := hide hin
        have Hg := hide hg
        have hw2 : IntKind.i64.wrap ((2 : Int) ^ G) = (2 : Int) ^ G := by
          have : ∀ G : Fin 9, IntKind.i64.wrap ((2 : Int) ^ G.1) = (2 : Int) ^ G.1 := by decide
          exact this ⟨G, by omega⟩
        clear hin hup hg
        go_enter Try.func12, Try.ntmps12
        go_wp2_with fail
        refine (l10Moves_ok _ ms _ Hrk.out).mono ?_
        rintro e w1 ⟨rfl, rfl⟩
        rw [Hin.out]
        go_wp2_with fail
        refine (l6In_t _ _ _ _ Hg.out.1 Hg.out.2).mono ?_
        rintro e w1 ⟨rfl, rfl⟩
        go_wp2_with fail
        go_loopw [6, 7, 8, 10] (fun v X Y i wr => ∃ (t g cap : Nat), t ≤ ms.length ∧ i = .int .i64 t ∧ X = .int .i64 (px ms t) ∧ Y = .int .i64 (py ms t) ∧ v = .slice (some ⟨g, 0, none⟩) t cap ∧ wr.ownsRow w.heap.size 46 1 (.slice (some ⟨g, 0, none⟩) t cap) t (cCells (mPts ms G t)) ∧ Below w.heap.size w wr) (fun _ _ _ i _ => ms.length - (intOf i).toNat)
        case atStart => exact ⟨0, _, _, by omega, rfl, rfl, rfl, rfl, ho1, hb1⟩
        case round =>
          obtain ⟨t, g, cap, ht, rfl, rfl, rfl, rfl, ho, hb⟩ := hrel
          clear ho1 hb1
          by_cases hlt : t < ms.length
          · obtain ⟨b, o, rfl, hbl, hcell⟩ := hc (by omega) (by omega)
            have h1 := (hb.cell (p := ⟨b, o + t * 2, none⟩) hbl).trans ((hcell (t * 2) (by omega)).trans (mvCells_x ms t hlt))
            have h2 : wr.cell? ⟨b, o + t * 2 + 1, none⟩ = _ := (hb.cell (p := ⟨b, o + t * 2 + 1, none⟩) hbl).trans ((hcell (t * 2 + 1) (by omega)).trans (mvCells_y ms t hlt))
            have hxs := px_succ ms t hlt
            have hys := py_succ ms t hlt
            have hbd := p_bd ms Hup.out t (by omega)
            have hbd2 := p_bd ms Hup.out (t + 1) (by omega)
            have hms := mPts_succ ms G t
            have hcl : (cCells (mPts ms G t)).length = t := by rw [cCells_len, mPts_len]
            rw [hxs, hys] at hbd2 hms
            clear hcell hc
            generalize ms[t] = p at h1 h2 hxs hys hbd2 hms
            obtain ⟨x, y⟩ := p
            dsimp only at h1 h2 hxs hys hbd2 hms
            have Hxs := hide hxs
            have Hys := hide hys
            have Hms := hide hms
            clear hxs hys hms
            generalize px ms t = X at *
            generalize py ms t = Y at *
            generalize cCells (mPts ms G t) = cs at *
            obtain ⟨⟨a1, a2⟩, a3, a4⟩ := hbd
            obtain ⟨⟨b1, b2⟩, b3, b4⟩ := hbd2
            have e1 := (q_ok (X + x) G (by omega) (by omega) hG8).1
            have e2 := (q_ok (Y + y) G (by omega) (by omega) hG8).1
            have d1 : ∀ W, (binOp .quo 55 (.float .f32 (floatOfInt .f32 (X + x))) (.float .f32 (floatOfInt .f32 ((2 : Int) ^ G)))).run Try.prog W = .ok (.float .f32 (qW (X + x) G)) W := fun W => run_float_arith W .quo _ .f32 _ _ _ e1
            have d2 : ∀ W, (binOp .quo 55 (.float .f32 (floatOfInt .f32 (Y + y))) (.float .f32 (floatOfInt .f32 ((2 : Int) ^ G)))).run Try.prog W = .ok (.float .f32 (qW (Y + y) G)) W := fun W => run_float_arith W .quo _ .f32 _ _ _ e2
            clear e1 e2
            generalize qW (X + x) G = rx at *
            generalize qW (Y + y) G = ry at *
            go_wp2_with (at_builtin; refine wpList_append_one wr rfl _ _ 26 rfl w.heap.size 46 i0 _ 1 8 Try.underlying26 hi hz0 hz1 hz2 rfl (by decide) _ _ _ rfl ho [.complex .f32 rx ry] _ _ rfl rfl (by simp [Value.oneCell']) (by omega) (by decide) hb.size rfl (by simp) ?_)
            intro g' cap' w3 ho3 hg3 hr3
            have hk3 := kept_grown hb hg3 hr3
            clear ho hg3
            go_wp2_with fail
            go_roundw
            case rel => exact ⟨t + 1, g', cap', by omega, by go_num, by rw [Hxs.out], by rw [Hys.out], rfl, by rw [Hms.out]; exact ho3, hk3⟩
            case measure => simp [intOf]; omega
          · obtain rfl : t = ms.length := by omega
            have hpv := fun W => specPath_ok (.slice (some ⟨g, 0, none⟩) ms.length cap) (mPts ms G ms.length) W
            have hlen := mPts_len ms G ms.length
            unfold pathRes at Hfin
            have Hhas := hide (has_owns ho)
            rw [hlen] at hpv
            have hrd := owns_reads ho
            clear ho hc
            cases hok : pathOk (mPts ms G ms.length) with
            | false =>
              rw [hok] at hpv
              have Hpv := hide hpv
              have Hf2 : Hid (mpRes ms G = ([], false)) := by rw [Hid, Hfin.out, hok]; simp
              clear hpv hok
              have ho2 := World.ownsRow_lit (base := w.heap.size) (e := 46) (size := 1) wr #[] 0 hb.size (by decide) (by simp)
              have hb2 := kept_alloc hb (.cells #[] 46)
              go_wp2_with fail
              refine (Hpv.out _ hrd).mono ?_
              rintro e w1 ⟨rfl, rfl⟩
              go_wp2_with fail
              go_ret2
              exact ⟨_, by rw [Hf2.out]; rfl, by rw [Hf2.out]; exact has_owns ho2, hb2⟩
            | true =>
              rw [hok] at hpv
              have Hpv := hide hpv
              have Hf2 : Hid (mpRes ms G = (mPts ms G ms.length, true)) := by rw [Hid, Hfin.out, hok]; simp
              clear hpv hok
              go_wp2_with fail
              refine (Hpv.out _ hrd).mono ?_
              rintro e w1 ⟨rfl, rfl⟩
              go_wp2_with fail
              go_ret2
              exact ⟨_, by rw [Hf2.out]; rfl, by rw [Hf2.out]; dsimp only; rw [hlen]; exact Hhas.out, hb⟩
      · have Hfin : Hid (mpRes ms g = ([], false)) := by
          rw [Hid, mpRes, if_neg (fun h => hg h.2.2)]
        have Hin := hide hin
        have Hg := hide hg
        have Ho1 := hide (has_owns ho1)
        clear hin ho1 hup hg
        go_enter Try.func12, Try.ntmps12
        go_wp2_with fail
        refine (l10Moves_ok _ ms _ Hrk.out).mono ?_
        rintro e w1 ⟨rfl, rfl⟩
        rw [Hin.out]
        go_wp2_with fail
        refine (l6In_f _ _ _ _ Hg.out).mono ?_
        rintro e w1 ⟨rfl, rfl⟩
        go_wp2_with fail
        go_ret2
        exact ⟨_, by rw [Hfin.out]; rfl, by rw [Hfin.out]; exact Ho1.out, hb1⟩

end Go.Proofs.Ytnlmiemnblppbaa
