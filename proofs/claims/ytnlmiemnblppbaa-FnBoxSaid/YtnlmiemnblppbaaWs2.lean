/-
  The reference's tidy design: l5Done, l5Tidy, DesignTidy.
-/
import Derived.Test.YtnlmiemnblppbaaWs
namespace Go.Proofs.Ytnlmiemnblppbaa
open Go.RowKit

/-- What a design's function gives: a slice of its own with these wheels, and whether. -/
def WlPost (r : List W9 × Bool) (w : World) (e : Ending) (w' : World) : Prop :=
  ∃ v, e = .returned (.tuple #[v, .bool r.2]) ∧ Has w' w.heap.size 9 v r.1.length (wlCells r.1) ∧ Below w.heap.size w w'

theorem nonzero_succ (ws : List W9) (t : Nat) (h : t < ws.length) : nonzero (ws.take (t + 1)) = if (ws[t]).c.eqB zero8 = true then nonzero (ws.take t) else nonzero (ws.take t) ++ [ws[t]] := by
  rw [List.take_succ_eq_append_getElem h]
  unfold nonzero
  rw [List.filter_append]
  cases hc : (ws[t]).c.eqB zero8 <;> simp [hc]

theorem nonzero_len (ws : List W9) : (nonzero ws).length ≤ ws.length := List.length_filter_le _ _

set_option maxRecDepth 100000 in
set_option maxHeartbeats 2000000 in
theorem l5Done_ok (v : Value) (ws : List W9) (w : World) (hr : Reads w 9 v ws.length (wlCells ws)) (hl : ws.length ≤ 1000) :
    Calls Try.prog 124 #[v, .bool true] w (WlPost (doneW (ws, true)) w) := by
  obtain ⟨i0, hi, hz0, hz1, hz2⟩ := info_parts Try.infoW
  obtain ⟨_, hm, A, c, rfl, hc⟩ := hr
  have ho0 := owns_empty w 124 9 w.heap.size (Nat.le_refl _)
  have hb0 : Below w.heap.size w (w.alloc (.cells #[] 124)) := kept_new _ _
  have Ho0 := hide ho0
  have Hb0 := hide hb0
  clear ho0 hb0
  go_enter Try.func124, Try.ntmps124
  go_wp2_with fail
  go_loopw [6, 7] (fun v i wr => ∃ (t g cap : Nat), t ≤ ws.length ∧ i = .int .i64 t ∧ v = .slice (some ⟨g, 0, none⟩) (nonzero (ws.take t)).length cap ∧ wr.ownsRow w.heap.size 124 9 (.slice (some ⟨g, 0, none⟩) (nonzero (ws.take t)).length cap) (nonzero (ws.take t)).length (wlCells (nonzero (ws.take t))) ∧ Below w.heap.size w wr) (fun _ i _ => ws.length - (intOf i).toNat)
  case atStart => exact ⟨0, w.heap.size, 0, by omega, rfl, rfl, Ho0.out, Hb0.out⟩
  case round =>
    obtain ⟨t, g, cap, ht, rfl, rfl, ho, hb⟩ := hrel
    clear Ho0 Hb0
    by_cases hlt : t < ws.length
    · obtain ⟨b, o, rfl, hbl, hcell⟩ := hc (by omega) (by omega)
      have hA := wl_cells (below_cells hb hbl hcell) t hlt
      have Hs := hide (nonzero_succ ws t hlt)
      have hnl : (nonzero (ws.take t)).length ≤ 1000 := Nat.le_trans (nonzero_len _) (by rw [List.length_take]; omega)
      clear hcell hc
      generalize ws[t] = m at hA Hs
      generalize nonzero (ws.take t) = acc at ho Hs hnl ⊢
      obtain ⟨p0, p1, p2, p3, p4, p5, p6, p7, p8⟩ := hA
      have hneq := fun W => neqCy m.c zero8 W
      simp only [val_spell, zero8] at hneq
      cases hz : m.c.eqB zero8
      · have hz' : m.c.eqB ⟨0, 0, 0, 0, 0, 0, 0, 0⟩ = false := hz
        have HS2 : Hid (nonzero (ws.take (t + 1)) = acc ++ [m]) := by rw [Hs.out, hz]; rfl
        rw [hz'] at hneq
        clear hz hz' Hs
        go_wp2_with (at_builtin; refine wpList_append_one wr rfl _ _ 110 rfl w.heap.size 124 i0 _ 9 72 Try.underlying110 hi hz0 hz1 hz2 rfl (by decide) _ _ _ rfl ho m.cells _ _ rfl rfl (by simp [Value.oneCell', W9.cells]) (by omega) (by decide) hb.size rfl (by simp) ?_)
        intro g' cap' w3 ho4 hg3 hr3
        have hk5 := kept_grown hb hg3 hr3
        clear ho hg3 hneq
        go_wp2_with fail
        go_roundw
        case rel => exact ⟨t + 1, g', cap', by omega, by go_num, by rw [HS2.out]; simp, by rw [HS2.out, wlCells_app, wlCells_one1]; simpa using ho4, hk5⟩
        case measure => simp [intOf]; omega
      · have hz' : m.c.eqB ⟨0, 0, 0, 0, 0, 0, 0, 0⟩ = true := hz
        have HS2 : Hid (nonzero (ws.take (t + 1)) = acc) := by rw [Hs.out, hz]; rfl
        rw [hz'] at hneq
        clear hz hz' Hs
        go_wp2_with fail
        go_roundw
        case rel => exact ⟨t + 1, g, cap, by omega, by go_num, by rw [HS2.out], by rw [HS2.out]; exact ho, hb⟩
        case measure => simp [intOf]; omega
    · obtain rfl : t = ws.length := by omega
      rw [List.take_length] at ho ⊢
      have hnl := nonzero_len ws
      have hrd := owns_reads ho
      cases hd : designB (nonzero ws)
      · have Hfin : Hid (doneW (ws, true) = ([], false)) := by simp [doneW, hd, Hid]
        have Hd := hide hd
        clear hd
        go_wp2_with fail
        refine (designSpec_ok _ _ _ hrd (by omega)).mono ?_
        rintro e w1 ⟨rfl, hb1⟩
        rw [Hd.out]
        have hem := owns_empty w1 124 9 w.heap.size (Nat.le_trans hb.size hb1.size)
        go_wp2_with fail
        go_ret2
        exact ⟨_, by rw [Hfin.out]; rfl, by rw [Hfin.out]; exact has_owns hem, kept_alloc (kept_trans hb hb1) _⟩
      · have Hfin : Hid (doneW (ws, true) = (nonzero ws, true)) := by simp [doneW, hd, Hid]
        have Hd := hide hd
        clear hd
        go_wp2_with fail
        refine (designSpec_ok _ _ _ hrd (by omega)).mono ?_
        rintro e w1 ⟨rfl, hb1⟩
        rw [Hd.out]
        go_wp2_with fail
        go_ret2
        exact ⟨_, by rw [Hfin.out]; rfl, by rw [Hfin.out]; exact has_owns (owns_kept ho hb1), kept_trans hb hb1⟩

theorem addW_len (ws : List W9) (x : W9) : (addW ws x).length ≤ ws.length + 1 := by
  induction ws with
  | nil => simp [addW]
  | cons y ys ih =>
    unfold addW
    split
    · simpa using ih
    · split <;> simp

theorem addW_small {ws : List W9} {x : W9} (hs : ∀ y ∈ ws, y.c.smallB 1000000 = true) (hx : x.c.smallB 1000000 = true) (hr : (radW ws x).smallB 1000000 = true) (ha : Asc ws) : ∀ y ∈ addW ws x, y.c.smallB 1000000 = true := by
  obtain ⟨k, hk, hb, hn⟩ := first_ge ws x.s
  obtain ⟨hA, hB⟩ := addW_at (w := x) hk hb hn ha
  intro y hy
  by_cases hkl : k < ws.length
  · by_cases he : (ws[k]).s = x.s
    · obtain ⟨h1, h2⟩ := hA hkl he
      rw [h1] at hy
      rcases List.mem_or_eq_of_mem_set hy with h | h
      · exact hs y h
      · rw [h, ← h2]; exact hr
    · obtain ⟨h1, _⟩ := hB fun _ => he
      rw [h1] at hy
      rcases List.mem_append.1 hy with h | h
      · exact hs y (List.mem_of_mem_take h)
      · rcases List.mem_cons.1 h with rfl | h
        · exact hx
        · exact hs y (List.mem_of_mem_drop h)
  · obtain ⟨h1, _⟩ := hB fun h => absurd h hkl
    rw [h1] at hy
    rcases List.mem_append.1 hy with h | h
    · exact hs y (List.mem_of_mem_take h)
    · rcases List.mem_cons.1 h with rfl | h
      · exact hx
      · exact hs y (List.mem_of_mem_drop h)

theorem foldW_step (f : List W9 → W9 → List W9) (acc ws : List W9) (t : Nat) (h : t < ws.length) : foldW f acc (ws.drop t) = if (radW acc (ws[t])).smallB 1000000 = true then foldW f (f acc (ws[t])) (ws.drop (t + 1)) else ([], false) := by
  rw [List.drop_eq_getElem_cons h, foldW]

set_option maxRecDepth 100000 in
set_option maxHeartbeats 2000000 in
theorem l5Tidy_ok (v : Value) (ws : List W9) (w : World) (hr : Reads w 9 v ws.length (wlCells ws)) (hl : ws.length ≤ 50) (hsm : ∀ y ∈ ws, y.c.smallB 1000000 = true) :
    Calls Try.prog 114 #[v] w (WlPost (tidyRes ws) w) := by
  obtain ⟨_, hm, A, c, rfl, hc⟩ := hr
  have Ho0 := hide (owns_empty w 124 9 w.heap.size (Nat.le_refl _))
  have Hb0 : Hid (Below w.heap.size w (w.alloc (.cells #[] 124))) := kept_new _ _
  have Hsm := hide hsm
  clear hsm
  go_enter Try.func114, Try.ntmps114
  go_wp2_with fail
  go_loopw [4, 5] (fun v i wr => ∃ (t g cap : Nat) (acc : List W9), t ≤ ws.length ∧ i = .int .i64 t ∧ v = .slice (some ⟨g, 0, none⟩) acc.length cap ∧ wr.ownsRow w.heap.size 124 9 (.slice (some ⟨g, 0, none⟩) acc.length cap) acc.length (wlCells acc) ∧ acc.length ≤ t ∧ Asc acc ∧ (∀ y ∈ acc, y.c.smallB 1000000 = true) ∧ foldW addW [] ws = foldW addW acc (ws.drop t) ∧ Below w.heap.size w wr) (fun _ i _ => ws.length - (intOf i).toNat)
  case atStart => exact ⟨0, w.heap.size, 0, [], by omega, rfl, rfl, Ho0.out, by simp, by simp [Asc], by simp, rfl, Hb0.out⟩
  case round =>
    obtain ⟨t, g, cap, acc, ht, rfl, rfl, ho, hal, hasc, has, hf, hb⟩ := hrel
    clear Ho0 Hb0
    have Hasc := hide hasc
    have Has := hide has
    have Hf := hide hf
    clear hasc has hf
    by_cases hlt : t < ws.length
    · obtain ⟨b, o, rfl, hbl, hcell⟩ := hc (by omega) (by omega)
      have hA := wl_cells (below_cells hb hbl hcell) t hlt
      have hms := Hsm.out _ (List.getElem_mem hlt)
      have Hst := hide (foldW_step addW acc ws t hlt)
      clear hcell hc
      generalize ws[t] = m at hA Hst hms
      have Hms := hide hms
      clear hms
      have hal2 := addW_len acc m
      obtain ⟨p0, p1, p2, p3, p4, p5, p6, p7, p8⟩ := hA
      go_wp2_with fail
      refine (l5Add_ok g cap w.heap.size acc m _ ho Hasc.out (by omega) Has.out Hms.out).mono ?_
      rintro e w1 ⟨g1, cap1, rfl, ho1, hb1⟩
      have hbs := hb.size
      cases hrad : (radW acc m).smallB 1000000
      · have Hfin : Hid (tidyRes ws = ([], false)) := by
          show _ = _
          rw [tidyRes, Hf.out, Hst.out, hrad]
          simp [doneW]
        clear hrad
        have hem := owns_empty w1 124 9 w.heap.size (Nat.le_trans hb.size hb1.size)
        go_wp2_with fail
        go_ret2
        exact ⟨_, by rw [Hfin.out]; rfl, by rw [Hfin.out]; exact has_owns hem, kept_alloc (kept_trans hb hb1) _⟩
      · have Hrad := hide hrad
        clear hrad
        go_wp2_with fail
        go_roundw
        case rel => exact ⟨t + 1, g1, cap1, addW acc m, by omega, by go_num, rfl, owns_base ho1 hbs, by omega, addW_asc Hasc.out m, addW_small Has.out Hms.out Hrad.out Hasc.out, by rw [Hf.out, Hst.out, if_pos Hrad.out], kept_trans hb hb1⟩
        case measure => simp [intOf]; omega
    · obtain rfl : t = ws.length := by omega
      have Hfin : Hid (tidyRes ws = doneW (acc, true)) := by
        show _ = _
        rw [tidyRes, Hf.out, List.drop_length]
        rfl
      have hbs := hb.size
      go_wp2_with fail
      refine (l5Done_ok _ acc _ (owns_reads ho) (by omega)).mono ?_
      rintro e w1 ⟨v1, rfl, hh, hb1⟩
      go_wp2_with fail
      go_ret2
      exact ⟨v1, by rw [Hfin.out]; rfl, by rw [Hfin.out]; exact has_base hh hbs, kept_trans hb hb1⟩

theorem designB_small {ws : List W9} (h : designB ws = true) : ws.length ≤ 12 ∧ ∀ y ∈ ws, y.c.smallB 1000000 = true := by
  simp only [designB, Bool.and_eq_true, decide_eq_true_eq, List.all_eq_true] at h
  exact ⟨h.1, fun y hy => (okB_t (h.2 y hy)).2.2⟩

end Go.Proofs.Ytnlmiemnblppbaa
