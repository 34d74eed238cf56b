/-
  Paths: the parts checked, by the program and by the reference; lists of complex numbers compared, marked, held.
-/
import Derived.Test.YtnlmiemnblppbaaMv1
import Derived.Test.YtnlmiemnblppbaaFt
namespace Go.Proofs.Ytnlmiemnblppbaa
open Go.RowKit

def geB (x y : Nat) : Bool := FloatKind.f32.format.order x y == some .gt || FloatKind.f32.format.order x y == some .eq
def leB (x y : Nat) : Bool := FloatKind.f32.format.order x y == some .lt || FloatKind.f32.format.order x y == some .eq
/-- The word lies between -4096 and 4096. -/
def partB (x : Nat) : Bool := geB x 3313500160 && leB x 1166016512
def ptB (z : Nat × Nat) : Bool := partB z.1 && partB z.2
def cpx (z : Nat × Nat) : Value := .complex .f32 z.1 z.2
def cCells (zs : List (Nat × Nat)) : List Value := zs.map cpx
theorem cCells_len (zs : List (Nat × Nat)) : (cCells zs).length = zs.length := by simp [cCells]
theorem cCells_get (zs : List (Nat × Nat)) (t : Nat) (h : t < zs.length) : (cCells zs)[t]? = some (.complex .f32 (zs[t]).1 (zs[t]).2) := by simp [cCells, h, cpx]
theorem cCells_one (zs : List (Nat × Nat)) : ∀ u ∈ cCells zs, u.oneCell' = true := by
  intro u hu
  simp only [cCells, List.mem_map] at hu
  obtain ⟨z, _, rfl⟩ := hu
  rfl
def pathOk (zs : List (Nat × Nat)) : Bool := decide (1 ≤ zs.length ∧ zs.length ≤ 100) && zs.all ptB

theorem all_take_succ {zs : List (Nat × Nat)} {t : Nat} (h : t < zs.length) (ha : (zs.take t).all ptB = true) (hz : ptB zs[t] = true) : (zs.take (t + 1)).all ptB = true := by
  rw [List.take_succ_eq_append_getElem h, List.all_append, ha]
  simp [hz]

theorem allZ_no {zs : List (Nat × Nat)} {t : Nat} (h : t < zs.length) (hz : ptB zs[t] = false) : zs.all ptB = false := by
  rw [List.all_eq_false]
  exact ⟨_, List.getElem_mem h, by simp [hz]⟩

theorem l10Part_ok (x : Nat) (w : World) : Calls Try.prog 66 #[.float .f32 x] w fun e w' => e = .returned (.bool (partB x)) ∧ w = w' := by
  unfold partB
  cases h1 : geB x 3313500160 <;> cases h2 : leB x 1166016512
  all_goals
    unfold geB at h1
    unfold leB at h2
    go_enter Try.func66, Try.ntmps66
    go_wp2_with fail
    go_ret
    exact ⟨rfl, rfl⟩

theorem partValid_ok (x : Nat) (w : World) : Calls Try.prog 95 #[.float .f32 x] w fun e w' => e = .returned (.bool (partB x)) ∧ w = w' := by
  unfold partB
  cases h1 : geB x 3313500160 <;> cases h2 : leB x 1166016512
  all_goals
    unfold geB at h1
    unfold leB at h2
    go_enter Try.func95, Try.ntmps95
    go_wp2_with fail
    go_ret
    exact ⟨rfl, rfl⟩

theorem pointValid_ok (z : Nat × Nat) (w : World) : Calls Try.prog 65 #[.complex .f32 z.1 z.2] w fun e w' => e = .returned (.bool (ptB z)) ∧ w = w' := by
  obtain ⟨x, y⟩ := z
  have hx := fun w => partValid_ok x w
  have hy := fun w => partValid_ok y w
  unfold ptB
  dsimp only
  generalize partB x = a at *
  generalize partB y = b at *
  have Hx := hide hx
  have Hy := hide hy
  clear hx hy
  cases a
  · go_enter Try.func65, Try.ntmps65
    go_wp2_with fail
    refine (Hx.out _).mono ?_
    rintro e w1 ⟨rfl, rfl⟩
    go_wp2_with fail
    go_ret
    exact ⟨rfl, rfl⟩
  · go_enter Try.func65, Try.ntmps65
    go_wp2_with fail
    refine (Hx.out _).mono ?_
    rintro e w1 ⟨rfl, rfl⟩
    go_wp2_with fail
    refine (Hy.out _).mono ?_
    rintro e w1 ⟨rfl, rfl⟩
    go_wp2_with fail
    go_ret
    exact ⟨by simp, rfl⟩

theorem notPoint_ok (z : Nat × Nat) (w : World) : Calls Try.prog 64 #[.complex .f32 z.1 z.2] w fun e w' => e = .returned (.bool (!ptB z)) ∧ w = w' := by
  have hx := fun w => pointValid_ok z w
  generalize ptB z = a at *
  have Hx := hide hx
  clear hx
  go_enter Try.func64, Try.ntmps64
  go_wp2_with fail
  refine (Hx.out _).mono ?_
  rintro e w1 ⟨rfl, rfl⟩
  go_wp2_with fail
  go_ret
  exact ⟨rfl, rfl⟩

set_option maxHeartbeats 800000 in
theorem specPath_ok (v : Value) (zs : List (Nat × Nat)) (w : World) (hr : Reads w 1 v zs.length (cCells zs)) :
    Calls Try.prog 30 #[v] w fun e w' => e = .returned (.bool (pathOk zs)) ∧ w = w' := by
  obtain ⟨_, hm, A, c, rfl, hc⟩ := hr
  go_enter Try.func30, Try.ntmps30
  go_wp2_with fail
  go_loop [3] (fun i => ∃ t : Nat, t ≤ zs.length ∧ i = .int .i64 t ∧ (zs.take t).all ptB = true) (fun i => zs.length - (intOf i).toNat)
  case atStart => exact ⟨0, by omega, rfl, by simp⟩
  case round =>
    obtain ⟨t, ht, rfl, hup⟩ := hrel
    by_cases hlt : t < zs.length
    · obtain ⟨b, o, rfl, _, hcell⟩ := hc (by omega) (by omega)
      have h1 := (hcell t (by omega)).trans (cCells_get zs t hlt)
      have Hno := hide (allZ_no (zs := zs) hlt)
      have Hyes := hide (all_take_succ hlt hup)
      clear hcell hc hup
      generalize zs[t] = z at h1 Hno Hyes
      obtain ⟨x, y⟩ := z
      dsimp only at h1
      have hx := fun w => l10Part_ok x w
      have hy := fun w => l10Part_ok y w
      have hpt : Hid (ptB (x, y) = (partB x && partB y)) := rfl
      generalize partB x = a at *
      generalize partB y = d at *
      have Hx := hide hx
      have Hy := hide hy
      clear hx hy
      cases a
      · have hf : Hid (pathOk zs = false) := by rw [Hid, pathOk, Hno.out (by rw [hpt.out]; rfl)]; simp
        go_wp2_with fail
        refine (Hx.out _).mono ?_
        rintro e w1 ⟨rfl, rfl⟩
        go_wp2_with fail
        go_ret
        exact ⟨by rw [hf.out]; rfl, rfl⟩
      · cases d
        · have hf : Hid (pathOk zs = false) := by rw [Hid, pathOk, Hno.out (by rw [hpt.out]; rfl)]; simp
          go_wp2_with fail
          refine (Hx.out _).mono ?_
          rintro e w1 ⟨rfl, rfl⟩
          go_wp2_with fail
          refine (Hy.out _).mono ?_
          rintro e w1 ⟨rfl, rfl⟩
          go_wp2_with fail
          go_ret
          exact ⟨by rw [hf.out]; rfl, rfl⟩
        · go_wp2_with fail
          refine (Hx.out _).mono ?_
          rintro e w1 ⟨rfl, rfl⟩
          go_wp2_with fail
          refine (Hy.out _).mono ?_
          rintro e w1 ⟨rfl, rfl⟩
          go_wp2_with fail
          go_round
          case rel => exact ⟨t + 1, by omega, by go_num, Hyes.out (by rw [hpt.out]; rfl)⟩
          case measure => simp [intOf]; omega
    · obtain rfl : t = zs.length := by omega
      rw [List.take_length] at hup
      by_cases hn : (1 : Int) ≤ zs.length ∧ (zs.length : Int) ≤ 100
      · have hf : Hid (pathOk zs = true) := by rw [Hid, pathOk, hup, Bool.and_true]; exact decide_eq_true (by omega)
        have Hn := hide hn
        clear hn hup
        go_wp2_with fail
        refine (l6In_t _ _ _ _ Hn.out.1 Hn.out.2).mono ?_
        rintro e w1 ⟨rfl, rfl⟩
        go_wp2_with fail
        go_ret
        exact ⟨by rw [hf.out]; rfl, rfl⟩
      · have hf : Hid (pathOk zs = false) := by rw [Hid, pathOk, hup, Bool.and_true]; exact decide_eq_false (by omega)
        have Hn := hide hn
        clear hn hup
        go_wp2_with fail
        refine (l6In_f _ _ _ _ Hn.out).mono ?_
        rintro e w1 ⟨rfl, rfl⟩
        go_wp2_with fail
        go_ret
        exact ⟨by rw [hf.out]; rfl, rfl⟩

set_option maxHeartbeats 800000 in
theorem idxPath_ok (v : Value) (zs : List (Nat × Nat)) (w : World) (hr : Reads w 1 v zs.length (cCells zs)) :
    Calls Try.prog 94 #[v, .func (.func 64) #[] #[]] w fun e w' => ∃ k : Int, e = .returned (.int .i64 k) ∧ decide (k ≥ 0) = !zs.all ptB ∧ w = w' := by
  obtain ⟨_, hm, A, c, rfl, hc⟩ := hr
  go_enter Try.func94, Try.ntmps94
  go_wp2_with fail
  go_loop [8] (fun i => ∃ t : Nat, t ≤ zs.length ∧ i = .int .i64 t ∧ (zs.take t).all ptB = true) (fun i => zs.length - (intOf i).toNat)
  case atStart => exact ⟨0, by omega, rfl, by simp⟩
  case round =>
    obtain ⟨t, ht, rfl, hup⟩ := hrel
    by_cases hlt : t < zs.length
    · obtain ⟨b, o, rfl, _, hcell⟩ := hc (by omega) (by omega)
      have h1 := (hcell t (by omega)).trans (cCells_get zs t hlt)
      have Hno := hide (allZ_no (zs := zs) hlt)
      have Hyes := hide (all_take_succ hlt hup)
      clear hcell hc hup
      generalize zs[t] = z at h1 Hno Hyes
      have hx := fun w => notPoint_ok z w
      generalize ptB z = a at *
      have Hx := hide hx
      clear hx
      cases a
      · go_wp2_with fail
        refine (Hx.out _).mono ?_
        rintro e w1 ⟨rfl, rfl⟩
        go_wp2_with fail
        go_ret
        exact ⟨t, rfl, by rw [Hno.out (by simp)]; simp, rfl⟩
      · go_wp2_with fail
        refine (Hx.out _).mono ?_
        rintro e w1 ⟨rfl, rfl⟩
        go_wp2_with fail
        go_round
        case rel => exact ⟨t + 1, by omega, by go_num, Hyes.out (by simp)⟩
        case measure => simp [intOf]; omega
    · obtain rfl : t = zs.length := by omega
      rw [List.take_length] at hup
      have Hup := hide hup
      clear hup
      go_wp2_with fail
      go_ret
      exact ⟨-1, rfl, by rw [Hup.out]; rfl, rfl⟩

set_option maxHeartbeats 800000 in
theorem implPath_ok (v : Value) (zs : List (Nat × Nat)) (w : World) (hr : Reads w 1 v zs.length (cCells zs)) :
    Calls Try.prog 29 #[v] w fun e w' => e = .returned (.bool (pathOk zs)) ∧ w = w' := by
  have hix := fun w hr => idxPath_ok v zs w hr
  have Hr := hide hr
  obtain ⟨_, hm, A, c, rfl, _⟩ := hr
  unfold pathOk
  generalize zs.all ptB = a at *
  have Hix := hide hix
  clear hix
  by_cases hn : (1 : Int) ≤ zs.length ∧ (zs.length : Int) ≤ 100
  · have hf : Hid (decide (1 ≤ zs.length ∧ zs.length ≤ 100) = true) := decide_eq_true (by omega)
    have Hn := hide hn
    clear hn
    go_enter Try.func29, Try.ntmps29
    go_wp2_with fail
    refine (within_t _ _ _ _ Hn.out.1 Hn.out.2).mono ?_
    rintro e w1 ⟨rfl, rfl⟩
    go_wp2_with (first | (go_at_call 63; go_in) | fail)
    refine (Hix.out _ Hr.out).mono ?_
    rintro e w1 ⟨k, rfl, hk, rfl⟩
    have Hk := hide hk
    clear hk
    go_wp2_with fail
    go_ret
    exact ⟨by rw [hf.out, Hk.out]; simp, rfl⟩
  · have hf : Hid (decide (1 ≤ zs.length ∧ zs.length ≤ 100) = false) := decide_eq_false (by omega)
    have Hn := hide hn
    clear hn
    go_enter Try.func29, Try.ntmps29
    go_wp2_with fail
    refine (within_f _ _ _ _ Hn.out).mono ?_
    rintro e w1 ⟨rfl, rfl⟩
    go_wp2_with fail
    go_ret
    exact ⟨by rw [hf.out]; rfl, rfl⟩

/-- The path, or nothing, of a list that the function itself made. -/
def pathRes (zs : List (Nat × Nat)) : List (Nat × Nat) × Bool := if pathOk zs = true then (zs, true) else ([], false)

theorem pathMade_ok (B g cap : Nat) (zs : List (Nat × Nat)) (w : World) (h : Has w B 1 (.slice (some ⟨g, 0, none⟩) zs.length cap) zs.length (cCells zs)) (hcap : zs.length ≤ cap) :
    Calls Try.prog 47 #[.slice (some ⟨g, 0, none⟩) zs.length cap] w fun e w' => (∃ v', e = .returned (.tuple #[v', .bool (pathRes zs).2]) ∧ Has w B 1 v' (pathRes zs).1.length (cCells (pathRes zs).1)) ∧ w = w' := by
  have himp := fun w hr => implPath_ok (.slice (some ⟨g, 0, none⟩) zs.length cap) zs w hr
  unfold pathRes
  have Hr := hide (has_reads h)
  have hclip := hide (has_clip h zs.length)
  generalize pathOk zs = a at *
  have Himp := hide himp
  clear himp h
  cases a
  · go_enter Try.func47, Try.ntmps47
    go_wp2_with fail
    refine (Himp.out _ Hr.out).mono ?_
    rintro e w1 ⟨rfl, rfl⟩
    go_wp2_with fail
    go_ret2
    exact ⟨⟨_, rfl, rfl, by decide, .inl ⟨rfl, rfl⟩⟩, rfl⟩
  · go_enter Try.func47, Try.ntmps47
    go_wp2_with fail
    refine (Himp.out _ Hr.out).mono ?_
    rintro e w1 ⟨rfl, rfl⟩
    go_wp2_with fail
    go_ret2
    exact ⟨⟨_, rfl, hclip.out⟩, rfl⟩

end Go.Proofs.Ytnlmiemnblppbaa
