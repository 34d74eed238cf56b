/-
  fits, gear, errors.Join, meshes.
-/
import Derived.Test.YtodjmmdfgjkhiaaGreatDoorMesh
namespace Go.Proofs.YtodjmmdfgjkhiaaGreatDoor
open Go.RowKit Go.Extern.Stop Go.Stop Go.Extern

/-- An error that says that teeth do not fit: a misfit, or some joined, a misfit first. -/
def BadErr (w : World) (v : Value) : Prop :=
  (∃ e, v = .iface 58 (.pointer (some e))) ∨
  ∃ j n c A e, v = .iface 77 (.pointer (some ⟨j, 0, none⟩)) ∧ w.cell? ⟨j, 0, none⟩ = some (.slice (some A) n c) ∧ 0 < n ∧ n ≤ 1000 ∧ w.cell? A = some (.iface 58 (.pointer (some e)))

theorem badErr_kept {w w' : World} {v : Value} (h : BadErr w v) (hk : Below w.heap.size w w') : BadErr w' v := by
  rcases h with h | ⟨j, n, c, A, e, h1, h2, h3, h4, h5⟩
  · exact .inl h
  · exact .inr ⟨j, n, c, A, e, h1, kept_cell hk h2, h3, h4, kept_cell hk h5⟩

theorem as_nil (t : Value) (w : World) :
    Calls Tryz.prog 31 #[.nilIface, t] w fun e w' => e = .returned (.bool false) ∧ w = w' := by
  go_enter Tryz.func31, Tryz.ntmps31
  go_wp2
  go_ret
  exact ⟨rfl, rfl⟩

theorem as_hit_b (e t : Addr) (old : Value) (w : World) (hg : Handle w) (ht0 : w.cell? t = some old) (hf0 : w.frozen? t = false) (K : Nat) (hK : K ≤ w.heap.size) (hKt : K ≤ t.block) :
    Calls Tryz.prog 31 #[.iface 58 (.pointer (some e)), .iface 62 (.pointer (some t))] w fun ev w' => ev = .returned (.bool true) ∧ Below K w w' := by
  refine (as_hit e t old w hg ht0 hf0).mono ?_
  rintro ev w' ⟨h1, h2⟩
  refine ⟨h1, ?_⟩
  rw [h2]
  exact ((((((Below.refl K w).alloc hK _).alloc (by simp; omega) _).alloc (by simp; omega) _).alloc (by simp; omega) _).setCell hKt _)

theorem fits_nil (w : World) : Calls Tryz.prog 16 #[.nilIface] w fun e w' => e = .returned (.bool true) ∧ Below w.heap.size w w' := by
  go_enter Tryz.func16, Tryz.ntmps16
  go_wp2_with fail
  refine (as_nil _ _).mono ?_
  rintro ev w1 ⟨rfl, rfl⟩
  go_wp2_with fail
  go_ret
  exact ⟨rfl, kept_new _ _⟩

theorem fits_bad (v : Value) (w : World) (hg : Handle w) (hv : BadErr w v) : Calls Tryz.prog 16 #[v] w fun e w' => e = .returned (.bool false) ∧ Below w.heap.size w w' := by
  have hk := kept_new w (.cells #[.pointer none] 58)
  have hg1 := handle_kept hg hk
  have ht : (w.alloc (.cells #[.pointer none] 58)).cell? ⟨w.heap.size, 0, none⟩ = some (.pointer none) := by simp
  have hf : (w.alloc (.cells #[.pointer none] 58)).frozen? ⟨w.heap.size, 0, none⟩ = false := by simp
  have HG := hide hg1
  rcases hv with ⟨e, rfl⟩ | ⟨j, n, c, A, e, rfl, h2, h3, h4, h5⟩
  · go_enter Tryz.func16, Tryz.ntmps16
    go_wp2_with fail
    refine (as_hit_b e ⟨w.heap.size, 0, none⟩ _ _ HG.out ht hf w.heap.size hk.size (Nat.le_refl _)).mono ?_
    rintro ev w1 ⟨rfl, hb⟩
    go_wp2_with fail
    go_ret
    exact ⟨rfl, hk.trans hb⟩
  · have H2 := hide (kept_cell hk h2)
    have H5 := hide (kept_cell hk h5)
    clear h2 h5
    go_enter Tryz.func16, Tryz.ntmps16
    go_wp2_with fail
    refine (as_join j n c A e ⟨w.heap.size, 0, none⟩ _ _ HG.out ht hf H2.out h3 h4 H5.out w.heap.size hk.size (Nat.le_refl _)).mono ?_
    rintro ev w1 ⟨rfl, hb⟩
    go_wp2_with fail
    go_ret
    exact ⟨rfl, hk.trans hb⟩

theorem gear_t (n : Int) (w : World) (h1 : 6 ≤ n) (h2 : n ≤ 240) : Calls Tryz.prog 29 #[.int .i64 n] w fun e w' => e = .returned .nilIface ∧ w = w' := by
  go_enter Tryz.func29, Tryz.ntmps29
  go_wp2_with fail
  refine (within_t _ _ _ _ h1 h2).mono ?_
  rintro ev w1 ⟨rfl, rfl⟩
  go_wp2_with fail
  go_ret
  exact ⟨rfl, rfl⟩

theorem gear_f (n : Int) (w : World) (h : ¬ (6 ≤ n ∧ n ≤ 240)) : Calls Tryz.prog 29 #[.int .i64 n] w fun e w' => e = .returned (.iface 58 (.pointer (some ⟨w.heap.size, 0, none⟩))) ∧ Below w.heap.size w w' := by
  have Hh := hide h
  clear h
  go_enter Tryz.func29, Tryz.ntmps29
  go_wp2_with fail
  refine (within_f _ _ _ _ Hh.out).mono ?_
  rintro ev w1 ⟨rfl, rfl⟩
  go_wp2_with fail
  go_ret
  exact ⟨rfl, kept_new _ _⟩

/-- What errors.Join makes of two: nil of two nils, else an error that tells of a misfit. -/
def JoinPost (w : World) (b : Bool) (e : Ending) (w' : World) : Prop := ∃ v, e = .returned v ∧ (b = true → v = .nilIface) ∧ (b = false → BadErr w' v) ∧ Below w.heap.size w w'

set_option maxHeartbeats 1000000 in
theorem join_nn (g c : Nat) (w : World) (h0 : w.cell? ⟨g, 0, none⟩ = some .nilIface) (h1 : w.cell? ⟨g, 1, none⟩ = some .nilIface) :
    Calls Tryz.prog 28 #[.slice (some ⟨g, 0, none⟩) 2 c] w fun e w' => e = .returned .nilIface ∧ Below w.heap.size w w' := by
  go_enter Tryz.func28, Tryz.ntmps28
  go_wp2_with fail
  refine wp_loop_rounds 3 ?_
  rw [rounds_succ]
  go_wp2_with fail
  rw [rounds_succ]
  go_wp2_with fail
  rw [rounds_succ]
  go_wp2_with fail
  go_ret
  exact ⟨rfl, Below.refl _ _⟩

theorem mk1 (w : World) : (Instr.makeSlice 76 (.int .i64 0) (.int .i64 1)).run Tryz.prog w = .ok (.slice (some ⟨w.heap.size, 0, none⟩) 0 1) (w.alloc (.cells #[.nilIface] 41)) := by kernel_rfl
theorem mk2 (w : World) : (Instr.makeSlice 76 (.int .i64 0) (.int .i64 2)).run Tryz.prog w = .ok (.slice (some ⟨w.heap.size, 0, none⟩) 0 2) (w.alloc (.cells #[.nilIface, .nilIface] 41)) := by kernel_rfl
theorem Tryz.infoErr : (Tryz.prog.info? 41).map (fun i => (i.zero, i.size, i.bytes)) = some (some .nilIface, 1, 16) := by kernel_rfl

theorem two_cells (w : World) (g o : Nat) (hg : g < w.heap.size) (a b : Obj) : ((w.alloc a).alloc b).cell? ⟨g, o, none⟩ = w.cell? ⟨g, o, none⟩ := by
  rw [World.cell?_alloc_lt _ _ _ (by simp; omega), World.cell?_alloc_lt _ _ _ hg]

/-- Block k is a joined error whose slice is v. -/
def JBlk (w : World) (k : Nat) (v : Value) : Prop := w.heap[k]? = some (.cells #[v] 79 (0, 0))

theorem jblk_cell {w : World} {k : Nat} {v : Value} (h : JBlk w k v) : w.cell? ⟨k, 0, none⟩ = some v ∧ w.frozen? ⟨k, 0, none⟩ = false :=
  ⟨by rw [cell_of_row w k 0 _ _ (0, 0) h]; rfl, frozen_of_row w k 0 _ _ h⟩

theorem jblk_grown {w1 w2 : World} {g k : Nat} {v : Value} (h : JBlk w1 k v) (hg : w1.grownBy w2 (some g)) (hne : k ≠ g) : JBlk w2 k v :=
  (hg.block k (lt_of_block h) (by simp; exact hne)).trans h

theorem jblk_set {w : World} {k : Nat} {v : Value} (h : JBlk w k v) (u : Value) : JBlk (w.setCell ⟨k, 0, none⟩ u) k u := by
  unfold JBlk
  rw [heap_setCell_same w k 0 _ _ u h]; rfl

theorem jblk_new (w : World) (a : Obj) (v : Value) : JBlk ((w.alloc a).alloc (.cells #[v] 79)) (w.heap.size + 1) v := by
  have := heap_alloc_new (w.alloc a) (.cells #[v] 79 (0, 0))
  rwa [show (w.alloc a).heap.size = w.heap.size + 1 from by simp] at this

theorem jblk_ne {w : World} {base k g n cap : Nat} {v : Value} {xs : List Value} (h : JBlk w k v) (ho : w.ownsRow base 41 1 (.slice (some ⟨g, 0, none⟩) n cap) n xs) : g ≠ k := by
  rintro rfl
  rcases ho.2 with ⟨h', _⟩ | ⟨g', cap', cur, h', _, hh, _⟩
  · simp at h'
  · simp only [Value.slice.injEq, Option.some.injEq, Addr.mk.injEq, and_true, true_and] at h'
    obtain ⟨rfl, _⟩ := h'
    unfold JBlk at h
    rw [h] at hh
    simp at hh

theorem join_end {w w3 : World} {g n cap : Nat} {v0 : Value} {xs : List Value} {p : Addr} (hb : Below w.heap.size w w3) (hj : JBlk w3 (w.heap.size + 1) v0) (ho : w3.ownsRow w.heap.size 41 1 (.slice (some ⟨g, 0, none⟩) n cap) n xs)
    (hn : 0 < n) (hn2 : n ≤ 1000) (hx : xs[0]? = some (.iface 58 (.pointer (some p)))) :
    JoinPost w false (.returned (.iface 77 (.pointer (some ⟨w.heap.size + 1, 0, none⟩)))) (w3.setCell ⟨w.heap.size + 1, 0, none⟩ (.slice (some ⟨g, 0, none⟩) n cap)) := by
  have hne := jblk_ne hj ho
  refine ⟨_, rfl, by simp, fun _ => .inr ⟨w.heap.size + 1, n, cap, ⟨g, 0, none⟩, p, rfl, (jblk_cell (jblk_set hj _)).1, hn, hn2, ?_⟩, kept_set hb (by simp) _⟩
  rcases owns_cases ho with ⟨h', _⟩ | ⟨g', cap', h', _, _, _, hc, _⟩
  · simp at h'
  · simp only [Value.slice.injEq, Option.some.injEq, Addr.mk.injEq, and_true, true_and] at h'
    obtain ⟨rfl, rfl⟩ := h'
    rw [World.cell?_setCell_other _ _ _ _ (fun e => hne (by injection e with e1; exact e1.symm)), hc 0 (by omega), hx]

set_option maxRecDepth 100000 in
set_option maxHeartbeats 1000000 in
theorem join_bn (g c : Nat) (p : Addr) (w : World) (h0 : w.cell? ⟨g, 0, none⟩ = some (.iface 58 (.pointer (some p)))) (h1 : w.cell? ⟨g, 1, none⟩ = some .nilIface) :
    Calls Tryz.prog 28 #[.slice (some ⟨g, 0, none⟩) 2 c] w (JoinPost w false) := by
  obtain ⟨i0, hi, hz0, hz1, hz2⟩ := info_parts Tryz.infoErr
  have hgl := World.block_lt_of_cell? _ _ h0
  have k0 := two_cells w g 0 hgl (.cells #[.nilIface] 41) (.cells #[.slice (some ⟨w.heap.size, 0, none⟩) 0 1] 79)
  have k1 := two_cells w g 1 hgl (.cells #[.nilIface] 41) (.cells #[.slice (some ⟨w.heap.size, 0, none⟩) 0 1] 79)
  rw [h0] at k0
  rw [h1] at k1
  go_enter Tryz.func28, Tryz.ntmps28
  go_wp2_with fail
  refine wp_loop_rounds 3 ?_
  rw [rounds_succ]
  go_wp2_with fail
  rw [rounds_succ]
  go_wp2_with fail
  rw [rounds_succ]
  have hm := mk1
  go_wp2_with fail
  have ho : ((w.alloc (.cells #[.nilIface] 41)).alloc (.cells #[.slice (some ⟨w.heap.size, 0, none⟩) 0 1] 79)).ownsRow w.heap.size 41 1 (.slice (some ⟨w.heap.size, 0, none⟩) 0 1) 0 [] :=
    (World.ownsRow_made (base := w.heap.size) (e := 41) (size := 1) w #[.nilIface] 1 (Nat.le_refl _) (by decide) rfl).alloc _
  have hb2 : Below w.heap.size w ((w.alloc (.cells #[.nilIface] 41)).alloc (.cells #[.slice (some ⟨w.heap.size, 0, none⟩) 0 1] 79)) := kept_alloc (kept_new _ _) _
  have hJ := jblk_new w (.cells #[.nilIface] 41) (.slice (some ⟨w.heap.size, 0, none⟩) 0 1)
  obtain ⟨hj1, hf1⟩ := jblk_cell hJ
  have HJ := hide hJ
  clear hJ
  have hg1 : ((w.alloc (.cells #[.nilIface] 41)).alloc (.cells #[.slice (some ⟨w.heap.size, 0, none⟩) 0 1] 79)).cell? ⟨g, 1, none⟩ = some .nilIface := k1
  generalize (w.alloc (.cells #[.nilIface] 41)).alloc (.cells #[.slice (some ⟨w.heap.size, 0, none⟩) 0 1] 79) = w1 at *
  have hsz := hb2.size
  refine wp_loop_rounds 3 ?_
  rw [rounds_succ]
  go_wp2_with (at_builtin; refine wpList_append_one w1 rfl _ _ 76 rfl w.heap.size 41 i0 _ 1 16 Tryz.underlying76 hi hz0 hz1 hz2 rfl (by decide) _ _ _ rfl ho [.iface 58 (.pointer (some p))] _ _ rfl rfl (by simp [Value.oneCell']) (by omega) (by decide) hsz rfl (by simp) ?_)
  intro g' cap' w3 ho3 hg3 hr3
  have hJ3 := jblk_grown HJ.out hg3 (by show w.heap.size + 1 ≠ w.heap.size; omega)
  obtain ⟨q1, q2⟩ := jblk_cell hJ3
  have HJ3 := hide hJ3
  have k3 := hg3.cell hg1 (by simp [Value.ownBlock]; omega)
  have hb3 := kept_grown hb2 hg3 hr3
  clear k0 k1 hj1 hf1 hg1 ho hg3 hr3 hb2 HJ hJ3
  go_wp2_with fail
  rw [rounds_succ]
  go_wp2_with fail
  rw [rounds_succ]
  have Ho := hide ho3
  clear ho3
  go_wp2_with fail
  go_ret
  exact join_end hb3 HJ3.out Ho.out (by omega) (by omega) rfl
set_option maxRecDepth 100000 in
set_option maxHeartbeats 1000000 in
theorem join_nb (g c : Nat) (p : Addr) (w : World) (h0 : w.cell? ⟨g, 0, none⟩ = some .nilIface) (h1 : w.cell? ⟨g, 1, none⟩ = some (.iface 58 (.pointer (some p)))) :
    Calls Tryz.prog 28 #[.slice (some ⟨g, 0, none⟩) 2 c] w (JoinPost w false) := by
  obtain ⟨i0, hi, hz0, hz1, hz2⟩ := info_parts Tryz.infoErr
  have hgl := World.block_lt_of_cell? _ _ h0
  have k0 := two_cells w g 0 hgl (.cells #[.nilIface] 41) (.cells #[.slice (some ⟨w.heap.size, 0, none⟩) 0 1] 79)
  have k1 := two_cells w g 1 hgl (.cells #[.nilIface] 41) (.cells #[.slice (some ⟨w.heap.size, 0, none⟩) 0 1] 79)
  rw [h0] at k0
  rw [h1] at k1
  go_enter Tryz.func28, Tryz.ntmps28
  go_wp2_with fail
  refine wp_loop_rounds 3 ?_
  rw [rounds_succ]
  go_wp2_with fail
  rw [rounds_succ]
  go_wp2_with fail
  rw [rounds_succ]
  have hm := mk1
  go_wp2_with fail
  have ho : ((w.alloc (.cells #[.nilIface] 41)).alloc (.cells #[.slice (some ⟨w.heap.size, 0, none⟩) 0 1] 79)).ownsRow w.heap.size 41 1 (.slice (some ⟨w.heap.size, 0, none⟩) 0 1) 0 [] :=
    (World.ownsRow_made (base := w.heap.size) (e := 41) (size := 1) w #[.nilIface] 1 (Nat.le_refl _) (by decide) rfl).alloc _
  have hb2 : Below w.heap.size w ((w.alloc (.cells #[.nilIface] 41)).alloc (.cells #[.slice (some ⟨w.heap.size, 0, none⟩) 0 1] 79)) := kept_alloc (kept_new _ _) _
  have hJ := jblk_new w (.cells #[.nilIface] 41) (.slice (some ⟨w.heap.size, 0, none⟩) 0 1)
  obtain ⟨hj1, hf1⟩ := jblk_cell hJ
  have HJ := hide hJ
  clear hJ
  have hg1 : ((w.alloc (.cells #[.nilIface] 41)).alloc (.cells #[.slice (some ⟨w.heap.size, 0, none⟩) 0 1] 79)).cell? ⟨g, 1, none⟩ = some (.iface 58 (.pointer (some p))) := k1
  generalize (w.alloc (.cells #[.nilIface] 41)).alloc (.cells #[.slice (some ⟨w.heap.size, 0, none⟩) 0 1] 79) = w1 at *
  have hsz := hb2.size
  refine wp_loop_rounds 3 ?_
  rw [rounds_succ]
  go_wp2_with fail
  rw [rounds_succ]
  go_wp2_with (at_builtin; refine wpList_append_one w1 rfl _ _ 76 rfl w.heap.size 41 i0 _ 1 16 Tryz.underlying76 hi hz0 hz1 hz2 rfl (by decide) _ _ _ rfl ho [.iface 58 (.pointer (some p))] _ _ rfl rfl (by simp [Value.oneCell']) (by omega) (by decide) hsz rfl (by simp) ?_)
  intro g' cap' w3 ho3 hg3 hr3
  have hJ3 := jblk_grown HJ.out hg3 (by show w.heap.size + 1 ≠ w.heap.size; omega)
  obtain ⟨q1, q2⟩ := jblk_cell hJ3
  have HJ3 := hide hJ3
  have hb3 := kept_grown hb2 hg3 hr3
  clear k0 k1 hj1 hf1 hg1 ho hg3 hr3 hb2 HJ hJ3
  go_wp2_with fail
  rw [rounds_succ]
  have Ho := hide ho3
  clear ho3
  go_wp2_with fail
  go_ret
  exact join_end hb3 HJ3.out Ho.out (by omega) (by omega) rfl
set_option maxRecDepth 100000 in
set_option maxHeartbeats 1000000 in
theorem join_bb (g c : Nat) (p q : Addr) (w : World) (h0 : w.cell? ⟨g, 0, none⟩ = some (.iface 58 (.pointer (some p)))) (h1 : w.cell? ⟨g, 1, none⟩ = some (.iface 58 (.pointer (some q)))) :
    Calls Tryz.prog 28 #[.slice (some ⟨g, 0, none⟩) 2 c] w (JoinPost w false) := by
  obtain ⟨i0, hi, hz0, hz1, hz2⟩ := info_parts Tryz.infoErr
  have hgl := World.block_lt_of_cell? _ _ h0
  have k0 := two_cells w g 0 hgl (.cells #[.nilIface, .nilIface] 41) (.cells #[.slice (some ⟨w.heap.size, 0, none⟩) 0 2] 79)
  have k1 := two_cells w g 1 hgl (.cells #[.nilIface, .nilIface] 41) (.cells #[.slice (some ⟨w.heap.size, 0, none⟩) 0 2] 79)
  rw [h0] at k0
  rw [h1] at k1
  go_enter Tryz.func28, Tryz.ntmps28
  go_wp2_with fail
  refine wp_loop_rounds 3 ?_
  rw [rounds_succ]
  go_wp2_with fail
  rw [rounds_succ]
  go_wp2_with fail
  rw [rounds_succ]
  have hm := mk2
  go_wp2_with fail
  have ho : ((w.alloc (.cells #[.nilIface, .nilIface] 41)).alloc (.cells #[.slice (some ⟨w.heap.size, 0, none⟩) 0 2] 79)).ownsRow w.heap.size 41 1 (.slice (some ⟨w.heap.size, 0, none⟩) 0 2) 0 [] :=
    (World.ownsRow_made (base := w.heap.size) (e := 41) (size := 1) w #[.nilIface, .nilIface] 2 (Nat.le_refl _) (by decide) rfl).alloc _
  have hb2 : Below w.heap.size w ((w.alloc (.cells #[.nilIface, .nilIface] 41)).alloc (.cells #[.slice (some ⟨w.heap.size, 0, none⟩) 0 2] 79)) := kept_alloc (kept_new _ _) _
  have hJ := jblk_new w (.cells #[.nilIface, .nilIface] 41) (.slice (some ⟨w.heap.size, 0, none⟩) 0 2)
  obtain ⟨hj1, hf1⟩ := jblk_cell hJ
  have HJ := hide hJ
  clear hJ
  have hg1 : ((w.alloc (.cells #[.nilIface, .nilIface] 41)).alloc (.cells #[.slice (some ⟨w.heap.size, 0, none⟩) 0 2] 79)).cell? ⟨g, 1, none⟩ = some (.iface 58 (.pointer (some q))) := k1
  generalize (w.alloc (.cells #[.nilIface, .nilIface] 41)).alloc (.cells #[.slice (some ⟨w.heap.size, 0, none⟩) 0 2] 79) = w1 at *
  have hsz := hb2.size
  refine wp_loop_rounds 3 ?_
  rw [rounds_succ]
  go_wp2_with (at_builtin; refine wpList_append_one w1 rfl _ _ 76 rfl w.heap.size 41 i0 _ 1 16 Tryz.underlying76 hi hz0 hz1 hz2 rfl (by decide) _ _ _ rfl ho [.iface 58 (.pointer (some p))] _ _ rfl rfl (by simp [Value.oneCell']) (by omega) (by decide) hsz rfl (by simp) ?_)
  intro g' cap' w3 ho3 hg3 hr3
  have hJ3 := jblk_grown HJ.out hg3 (by show w.heap.size + 1 ≠ w.heap.size; omega)
  obtain ⟨q1, q2⟩ := jblk_cell hJ3
  have HJ3 := hide hJ3
  have k3 := hg3.cell hg1 (by simp [Value.ownBlock]; omega)
  have hb3 := kept_grown hb2 hg3 hr3
  clear k0 k1 hj1 hf1 hg1 ho hg3 hr3 hb2 HJ hJ3
  have hne := jblk_ne HJ3.out ho3
  have hJ4 := jblk_set HJ3.out (.slice (some ⟨g', 0, none⟩) 1 cap')
  have ho4 : (w3.setCell ⟨w.heap.size + 1, 0, none⟩ (.slice (some ⟨g', 0, none⟩) 1 cap')).ownsRow w.heap.size 41 1 (.slice (some ⟨g', 0, none⟩) 1 cap') 1 [.iface 58 (.pointer (some p))] :=
    ho3.kept (row := some (w.heap.size + 1)) ⟨rfl, rfl, rfl, by simp [World.setCell], fun k _ hk => Below.heap_setCell _ _ _ _ (fun e => hk (by rw [e]))⟩ (.inr (by simp [Value.ownBlock]; exact hne))
  have hb4 := kept_set hb3 (p := ⟨w.heap.size + 1, 0, none⟩) (by simp) (.slice (some ⟨g', 0, none⟩) 1 cap')
  have hk4 : (w3.setCell ⟨w.heap.size + 1, 0, none⟩ (.slice (some ⟨g', 0, none⟩) 1 cap')).cell? ⟨g, 1, none⟩ = some (.iface 58 (.pointer (some q))) := by
    rw [World.cell?_setCell_other _ _ _ _ (fun e => by injection e with e1; omega)]; exact k3
  obtain ⟨r1, r2⟩ := jblk_cell hJ4
  have HJ4 := hide hJ4
  clear hJ4 HJ3 k3 hb3 ho3
  go_wp2_with fail
  have hsz4 := hb4.size
  clear q1 q2
  generalize w3.setCell ⟨w.heap.size + 1, 0, none⟩ (.slice (some ⟨g', 0, none⟩) 1 cap') = w4 at *
  rw [rounds_succ]
  go_wp2_with (at_builtin; refine wpList_append_one w4 rfl _ _ 76 rfl w.heap.size 41 i0 _ 1 16 Tryz.underlying76 hi hz0 hz1 hz2 rfl (by decide) _ _ _ rfl ho4 [.iface 58 (.pointer (some q))] _ _ rfl rfl (by simp [Value.oneCell']) (by omega) (by decide) hsz4 rfl (by simp) ?_)
  intro g5 cap5 w5 ho5 hg5 hr5
  have hJ5 := jblk_grown HJ4.out hg5 (fun e => hne e.symm)
  obtain ⟨q1, q2⟩ := jblk_cell hJ5
  have HJ5 := hide hJ5
  have hb5 := kept_grown hb4 hg5 hr5
  have Ho := hide ho5
  clear r1 r2 hk4 ho4 hg5 hr5 hb4 HJ4 hJ5 ho5
  go_wp2_with fail
  rw [rounds_succ]
  go_wp2_with fail
  go_ret
  exact join_end hb5 HJ5.out Ho.out (by omega) (by omega) rfl
end Go.Proofs.YtodjmmdfgjkhiaaGreatDoor
