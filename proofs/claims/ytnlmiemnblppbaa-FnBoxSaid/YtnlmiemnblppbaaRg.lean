/-
  RingDesign, of the program and of the reference.
-/
import Derived.Test.YtnlmiemnblppbaaWs2
import Derived.Test.YtnlmiemnblppbaaReg
import Derived.Test.YtnlmiemnblppbaaRs
namespace Go.Proofs.Ytnlmiemnblppbaa
open Go.RowKit
attribute [local go_sem ↓] Go.wp_at_zero Go.wp_at_succ

def gz (x : Int) : C8 := ⟨x, 0, 0, 0, 0, 0, 0, 0⟩

theorem gz_small {x : Int} (h : -1000 ≤ x ∧ x ≤ 1000) : (gz x).smallB 1000000 = true := by
  refine decide_eq_true ?_
  intro j hj
  rcases eight hj with rfl | rfl | rfl | rfl | rfl | rfl | rfl | rfl <;> simp [gz, C8.get] <;> omega

theorem l2GaussZ (x : Int) (w : World) : Calls Try.prog 108 #[.int .i64 x, .int .i64 0] w fun e w' => e = .returned (gz x).val ∧ Below w.heap.size w w' := by
  go_enter Try.func108, Try.ntmps108
  go_wp2_with fail
  exact bodyPost_ret (v := (gz x).val) (by simp [results, Try.results108, go_sem, val_spell, gz]) rfl ⟨rfl, kept_alloc (kept_new _ _) _⟩


theorem number_ok (s x : Int) (w : World) : Calls Try.prog 115 #[.int .i64 s, .int .i64 x] w fun e w' => e = .returned (⟨s, gz x⟩ : W9).val ∧ Below w.heap.size w w' := by
  go_enter Try.func115, Try.ntmps115
  go_wp2_with fail
  refine (l2GaussZ x _).mono ?_
  rintro e w1 ⟨rfl, hb1⟩
  have h9 := blk9_new w zero9 124
  have h9 := blk9_kept h9 hb1
  have hz := blk9_lt h9
  obtain ⟨p0, p1, p2, p3, p4, p5, p6, p7, p8⟩ := blk9_cells h9
  have f0 := blk9_free h9 0
  have f1 := blk9_free h9 1
  have f2 := blk9_free h9 2
  have f3 := blk9_free h9 3
  have f4 := blk9_free h9 4
  have f5 := blk9_free h9 5
  have f6 := blk9_free h9 6
  have f7 := blk9_free h9 7
  have f8 := blk9_free h9 8
  have H9 := hide (blk9_set9 h9 ⟨s, gz x⟩)
  have hb9 := hide (kept_set9 (kept_trans (kept_new w (.cells zero9.arr 124)) hb1) (g := w.heap.size) (Nat.le_refl _) ⟨s, gz x⟩)
  clear h9
  simp only [zero9, zero8] at p0 p1 p2 p3 p4 p5 p6 p7 p8
  rw [val_spell]
  go_wp2_with fail
  change bodyPost _ _ _ _ _ (set9w w1 w.heap.size ⟨s, gz x⟩)
  generalize set9w w1 w.heap.size ⟨s, gz x⟩ = wz at H9 hb9
  obtain ⟨z0, z1, z2, z3, z4, z5, z6, z7, z8⟩ := blk9_cells H9.out
  exact bodyPost_ret (v := (⟨s, gz x⟩ : W9).val) (by simp [results, Try.results115, go_sem, val9_spell, z0, z1, z2, z3, z4, z5, z6, z7, z8]) rfl ⟨rfl, hb9.out⟩

theorem reads_two (w : World) (x y : W9) (T : TypeId) : Reads (w.alloc (.cells (x.arr ++ y.arr) T)) 9 (.slice (some ⟨w.heap.size, 0, none⟩) 2 2) [x, y].length (wlCells [x, y]) := by
  refine ⟨rfl, by simp, _, _, rfl, fun _ _ => ⟨w.heap.size, 0, rfl, by simp, fun j _ => ?_⟩⟩
  rw [cell_of_row _ _ _ _ _ _ (heap_alloc_new w _), Nat.zero_add]
  have e : wlCells [x, y] = (x.arr ++ y.arr).toList := by simp [wlCells, W9.cells, W9.arr]
  rw [e, Array.getElem?_toList]

theorem tdiv_bd {x M : Int} (g : Int) (h : -M ≤ x ∧ x ≤ M) : -M ≤ x.tdiv g ∧ x.tdiv g ≤ M := by
  have h1 : (x.tdiv g).natAbs = x.natAbs / g.natAbs := Int.natAbs_tdiv x g
  have h2 : x.natAbs / g.natAbs ≤ x.natAbs := Nat.div_le_self _ _
  omega

def ringW (r q p : Int) (i : Bool) : List W9 :=
  if i = true then [⟨q.tdiv (Int.gcd r q), gz (r - q)⟩, ⟨(q - r).tdiv (Int.gcd r q), gz p⟩] else [⟨q.tdiv (Int.gcd r q), gz (r + q)⟩, ⟨(r + q).tdiv (Int.gcd r q), gz (-p)⟩]
def ringRes (r q p : Int) (i : Bool) : List W9 × Bool := if ringP r q i ∧ -300 ≤ p ∧ p ≤ 300 then tidyRes (ringW r q p i) else ([], false)

set_option maxRecDepth 100000 in
set_option maxHeartbeats 8000000 in
theorem ringSpec_ok (r q p : Int) (i : Bool) (w : World) : Calls Try.prog 104 #[.int .i64 r, .int .i64 q, .bool i, .int .i64 p] w (WlPost (ringRes r q p i) w) := by
  by_cases hP : ringP r q i
  · by_cases hp : -300 ≤ p ∧ p ≤ 300
    · have hcu : cuspsRes r q i = (r / (Int.gcd r q : Int), true) := if_pos hP
      have Hcu := hide hcu
      have hgr : (6 ≤ r ∧ r ≤ 240) ∧ (6 ≤ q ∧ q ≤ 240) := ⟨hP.1, hP.2.1⟩
      clear hcu
      cases i with
      | true =>
        have hres : ringRes r q p true = tidyRes [⟨q.tdiv (Int.gcd r q), gz (r - q)⟩, ⟨(q - r).tdiv (Int.gcd r q), gz (p)⟩] := by simp [ringRes, hP, hp, ringW]
        have hb1 := tdiv_bd (x := q) (M := 1000) (Int.gcd r q : Int) ⟨by omega, by omega⟩
        have hb2 := tdiv_bd (x := q - r) (M := 1000) (Int.gcd r q : Int) ⟨by omega, by omega⟩
        have hg0 := gear_gcd hP.1 (q := q)
        have HP := hide hP
        clear hP
        have hgcd := fun W => l1Gcd_ok r q W ⟨by omega, by omega⟩ ⟨by omega, by omega⟩
        generalize (Int.gcd r q : Int) = g at hres hb1 hb2 hg0 hgcd
        obtain ⟨a1, ha1⟩ : ∃ z, z = q.tdiv g := ⟨_, rfl⟩
        obtain ⟨d1, hd1⟩ : ∃ z, z = r - q := ⟨_, rfl⟩
        obtain ⟨m2, hm2⟩ : ∃ z, z = q - r := ⟨_, rfl⟩
        obtain ⟨a2, ha2⟩ : ∃ z, z = m2.tdiv g := ⟨_, rfl⟩
        obtain ⟨p2, hp2⟩ : ∃ z, z = -p := ⟨_, rfl⟩
        have hres : ringRes r q p true = tidyRes [⟨a1, gz d1⟩, ⟨a2, gz p⟩] := by rw [hres, ha1, hd1, ha2, hm2]
        rw [← hm2, ← ha2] at hb2
        rw [← ha1] at hb1
        have HF : Hid (IntKind.i64.wrap (q.tdiv g) = a1 ∧ IntKind.i64.wrap (r - q) = d1 ∧ IntKind.i64.wrap (q - r) = m2 ∧ IntKind.i64.wrap (m2.tdiv g) = a2 ∧ IntKind.i64.wrap (-p) = p2 ∧ ¬ g = 0) := ⟨by rw [← ha1]; exact IntWalk.i64_in _ (by omega), by rw [← hd1]; exact IntWalk.i64_in _ (by omega), (by rw [← hm2]; exact IntWalk.i64_in _ (by omega)), by rw [← ha2]; exact IntWalk.i64_in _ (by omega), by rw [← hp2]; exact IntWalk.i64_in _ (by omega), by omega⟩
        have Hsm : Hid (∀ y ∈ [(⟨a1, gz d1⟩ : W9), ⟨a2, gz p⟩], y.c.smallB 1000000 = true) := by
          intro y hy
          simp only [List.mem_cons, List.not_mem_nil, or_false] at hy
          rcases hy with rfl | rfl
          · exact gz_small ⟨by omega, by omega⟩
          · exact gz_small ⟨by omega, by omega⟩
        obtain ⟨rr, hrr⟩ : ∃ rr, tidyRes [⟨a1, gz d1⟩, ⟨a2, gz p⟩] = rr := ⟨_, rfl⟩
        have Hrr := hide hrr
        have Hfin : Hid (ringRes r q p true = rr) := hres.trans hrr
        have Hp := hide hp
        clear hres hrr ha1 hd1 hm2 ha2 hp2 hb1 hb2 hp
        have hcs := cuspsSpec_ok r q true w
        unfold IB at hcs
        rw [Hcu.out] at hcs
        go_enter Try.func104, Try.ntmps104
        go_wp2_with fail
        refine hcs.mono ?_
        rintro e w1 ⟨rfl, hb1⟩
        clear hcs
        go_wp2_with fail
        refine (l6In_t _ _ _ _ Hp.out.1 Hp.out.2).mono ?_
        rintro e w1' ⟨rfl, rfl⟩
        go_wp2_with fail
        refine (hgcd _).mono ?_
        rintro e w1' ⟨rfl, rfl⟩
        clear hgcd hgr
        go_wp2_with fail
        refine wp_region_held (S := fun _ => True) (by kernel_rfl) ?_
        change wpAnyH _ _ _ _ _ _ _ _ w1.drew
        have hk0 := hb1.drew
        generalize w1.drew = w0 at hk0 ⊢
        refine wpAnyH_take (i := 0) (v := .int .i64 q) rfl (by kernel_rfl) (by kernel_rfl) (by kernel_rfl) (fun _ _ _ h => h) (.inl ⟨by kernel_rfl, fun _ _ => by go_simp⟩) trivial ?_
        refine wpAnyH_take (i := 1) (v := .int .i64 g) rfl (by kernel_rfl) (by kernel_rfl) (by kernel_rfl) (fun _ _ _ h => h) (.inl ⟨by kernel_rfl, fun _ _ => by go_simp⟩) trivial ?_
        refine wpAnyH_take (i := 2) (v := .int .i64 a1) rfl (by kernel_rfl) (by kernel_rfl) (by kernel_rfl) (fun _ _ _ h => h) (.inl ⟨by kernel_rfl, fun W hW => by (have hF := HF.out; obtain ⟨f1, f2, f3, f4, f5, f6⟩ := hF; go_simp)⟩) trivial ?_
        refine wpAnyH_take (i := 3) (v := .int .i64 r) rfl (by kernel_rfl) (by kernel_rfl) (by kernel_rfl) (fun _ _ _ h => h) (.inl ⟨by kernel_rfl, fun _ _ => by go_simp⟩) trivial ?_
        refine wpAnyH_take (i := 4) (v := .int .i64 q) rfl (by kernel_rfl) (by kernel_rfl) (by kernel_rfl) (fun _ _ _ h => h) (.inl ⟨by kernel_rfl, fun _ _ => by go_simp⟩) trivial ?_
        refine wpAnyH_take (i := 5) (v := .int .i64 d1) rfl (by kernel_rfl) (by kernel_rfl) (by kernel_rfl) (fun _ _ _ h => h) (.inl ⟨by kernel_rfl, fun W hW => by (have hF := HF.out; obtain ⟨f1, f2, f3, f4, f5, f6⟩ := hF; go_simp)⟩) trivial ?_
        refine wpAnyH_take (i := 7) (v := .int .i64 q) rfl (by kernel_rfl) (by kernel_rfl) (by kernel_rfl) (fun _ _ _ h => h) (.inl ⟨by kernel_rfl, fun _ _ => by go_simp⟩) trivial ?_
        refine wpAnyH_take (i := 8) (v := .int .i64 r) rfl (by kernel_rfl) (by kernel_rfl) (by kernel_rfl) (fun _ _ _ h => h) (.inl ⟨by kernel_rfl, fun _ _ => by go_simp⟩) trivial ?_
        refine wpAnyH_take (i := 9) (v := .int .i64 m2) rfl (by kernel_rfl) (by kernel_rfl) (by kernel_rfl) (fun _ _ _ h => h) (.inl ⟨by kernel_rfl, fun W hW => by (have hF := HF.out; obtain ⟨f1, f2, f3, f4, f5, f6⟩ := hF; go_simp)⟩) trivial ?_
        refine wpAnyH_take (i := 10) (v := .int .i64 g) rfl (by kernel_rfl) (by kernel_rfl) (by kernel_rfl) (fun _ _ _ h => h) (.inl ⟨by kernel_rfl, fun _ _ => by go_simp⟩) trivial ?_
        refine wpAnyH_take (i := 11) (v := .int .i64 a2) rfl (by kernel_rfl) (by kernel_rfl) (by kernel_rfl) (fun _ _ _ h => h) (.inl ⟨by kernel_rfl, fun W hW => by (have hF := HF.out; obtain ⟨f1, f2, f3, f4, f5, f6⟩ := hF; go_simp)⟩) trivial ?_
        refine wpAnyH_take (i := 12) (v := .int .i64 p) rfl (by kernel_rfl) (by kernel_rfl) (by kernel_rfl) (fun _ _ _ h => h) (.inl ⟨by kernel_rfl, fun _ _ => by go_simp⟩) trivial ?_
        refine wpAnyH_all (rs := [6]) (by kernel_rfl) (by simp) (List.forall_mem_cons.2 ⟨?_, List.forall_mem_nil _⟩)
        refine opH_call (f := 115) rfl (by kernel_rfl) (by go_simp; first | done | rfl | exact ⟨rfl, rfl⟩) (number_ok a1 d1 _) ?_
        rintro e w1 ⟨rfl, hb1⟩
        have hk1 := kept_trans hk0 hb1
        clear hb1
        rw [val9_spell]
        refine ⟨_, rfl, trivial, ?_⟩
        refine wpAnyH_all (rs := [13]) (by kernel_rfl) (by simp) (List.forall_mem_cons.2 ⟨?_, List.forall_mem_nil _⟩)
        refine opH_call (f := 115) rfl (by kernel_rfl) (by go_simp; first | done | rfl | exact ⟨rfl, rfl⟩) (number_ok a2 p _) ?_
        rintro e w2 ⟨rfl, hb2⟩
        have hk2 := kept_trans hk1 hb2
        clear hb2
        rw [val9_spell]
        refine ⟨_, rfl, trivial, ?_⟩
        refine wpAnyH_all (rs := [14]) (by kernel_rfl) (by simp) (List.forall_mem_cons.2 ⟨?_, List.forall_mem_nil _⟩)
        refine opH_run (v := .slice (some ⟨w2.heap.size, 0, none⟩) 2 2) (w' := w2.alloc (.cells ((⟨a1, gz d1⟩ : W9).arr ++ (⟨a2, gz p⟩ : W9).arr) 124)) rfl (by kernel_rfl) (by unfold W9.arr gz; go_simp; first | done | rfl) ?_
        have hrd := reads_two w2 (⟨a1, gz d1⟩ : W9) (⟨a2, gz p⟩ : W9) 124
        have hk3 := kept_alloc hk2 (.cells ((⟨a1, gz d1⟩ : W9).arr ++ (⟨a2, gz p⟩ : W9).arr) 124)
        generalize w2.alloc (.cells ((⟨a1, gz d1⟩ : W9).arr ++ (⟨a2, gz p⟩ : W9).arr) 124) = w3 at *
        generalize w2.heap.size = b2 at *
        refine ⟨trivial, ?_⟩
        refine wpAnyH_all (rs := [15]) (by kernel_rfl) (by simp) (List.forall_mem_cons.2 ⟨?_, List.forall_mem_nil _⟩)
        refine opH_call (f := 114) rfl (by kernel_rfl) (by go_simp; first | done | rfl) (l5Tidy_ok _ [(⟨a1, gz d1⟩ : W9), (⟨a2, gz p⟩ : W9)] _ hrd (by simp) Hsm.out) ?_
        unfold WlPost
        rw [Hrr.out]
        rintro e w4 ⟨v9, rfl, hh9, hb9⟩
        have hh10 := has_base hh9 hk3.size
        have hk10 := kept_trans hk3 hb9
        refine ⟨_, rfl, trivial, ?_⟩
        refine wpAnyH_take (i := 16) (v := v9) rfl (by kernel_rfl) (by kernel_rfl) (by kernel_rfl) (fun _ _ _ h => h) (.inl ⟨by kernel_rfl, fun _ _ => by go_simp⟩) trivial ?_
        refine wpAnyH_take (i := 17) (v := .bool rr.2) rfl (by kernel_rfl) (by kernel_rfl) (by kernel_rfl) (fun _ _ _ h => h) (.inl ⟨by kernel_rfl, fun _ _ => by go_simp⟩) trivial ?_
        refine wpAnyH_take (i := 18) (v := v9) rfl (by kernel_rfl) (by kernel_rfl) (by kernel_rfl) (fun _ _ _ h => h) (.inl ⟨by kernel_rfl, fun _ _ => by go_simp⟩) trivial ?_
        refine wpAnyH_take (i := 19) (v := .bool rr.2) rfl (by kernel_rfl) (by kernel_rfl) (by kernel_rfl) (fun _ _ _ h => h) (.inl ⟨by kernel_rfl, fun _ _ => by go_simp⟩) trivial ?_
        refine wpAnyH_done (by kernel_rfl) ?_ _
        go_simp
        go_wp2_with fail
        go_ret2
        exact ⟨v9, by rw [Hfin.out]; rfl, by rw [Hfin.out]; exact hh10, hk10⟩
      | false =>
        have hres : ringRes r q p false = tidyRes [⟨q.tdiv (Int.gcd r q), gz (r + q)⟩, ⟨(r + q).tdiv (Int.gcd r q), gz (-p)⟩] := by simp [ringRes, hP, hp, ringW]
        have hb1 := tdiv_bd (x := q) (M := 1000) (Int.gcd r q : Int) ⟨by omega, by omega⟩
        have hb2 := tdiv_bd (x := r + q) (M := 1000) (Int.gcd r q : Int) ⟨by omega, by omega⟩
        have hg0 := gear_gcd hP.1 (q := q)
        have HP := hide hP
        clear hP
        have hgcd := fun W => l1Gcd_ok r q W ⟨by omega, by omega⟩ ⟨by omega, by omega⟩
        generalize (Int.gcd r q : Int) = g at hres hb1 hb2 hg0 hgcd
        obtain ⟨a1, ha1⟩ : ∃ z, z = q.tdiv g := ⟨_, rfl⟩
        obtain ⟨d1, hd1⟩ : ∃ z, z = r + q := ⟨_, rfl⟩
        obtain ⟨a2, ha2⟩ : ∃ z, z = d1.tdiv g := ⟨_, rfl⟩
        obtain ⟨p2, hp2⟩ : ∃ z, z = -p := ⟨_, rfl⟩
        have hres : ringRes r q p false = tidyRes [⟨a1, gz d1⟩, ⟨a2, gz p2⟩] := by rw [hres, ha1, ha2, hd1, hp2]
        rw [← hd1, ← ha2] at hb2
        rw [← ha1] at hb1
        have HF : Hid (IntKind.i64.wrap (q.tdiv g) = a1 ∧ IntKind.i64.wrap (r + q) = d1 ∧ IntKind.i64.wrap (r + q) = d1 ∧ IntKind.i64.wrap (d1.tdiv g) = a2 ∧ IntKind.i64.wrap (-p) = p2 ∧ ¬ g = 0) := ⟨by rw [← ha1]; exact IntWalk.i64_in _ (by omega), by rw [← hd1]; exact IntWalk.i64_in _ (by omega), (by rw [← hd1]; exact IntWalk.i64_in _ (by omega)), by rw [← ha2]; exact IntWalk.i64_in _ (by omega), by rw [← hp2]; exact IntWalk.i64_in _ (by omega), by omega⟩
        have Hsm : Hid (∀ y ∈ [(⟨a1, gz d1⟩ : W9), ⟨a2, gz p2⟩], y.c.smallB 1000000 = true) := by
          intro y hy
          simp only [List.mem_cons, List.not_mem_nil, or_false] at hy
          rcases hy with rfl | rfl
          · exact gz_small ⟨by omega, by omega⟩
          · exact gz_small ⟨by omega, by omega⟩
        obtain ⟨rr, hrr⟩ : ∃ rr, tidyRes [⟨a1, gz d1⟩, ⟨a2, gz p2⟩] = rr := ⟨_, rfl⟩
        have Hrr := hide hrr
        have Hfin : Hid (ringRes r q p false = rr) := hres.trans hrr
        have Hp := hide hp
        clear hres hrr ha1 hd1 ha2 hp2 hb1 hb2 hp
        have hcs := cuspsSpec_ok r q false w
        unfold IB at hcs
        rw [Hcu.out] at hcs
        go_enter Try.func104, Try.ntmps104
        go_wp2_with fail
        refine hcs.mono ?_
        rintro e w1 ⟨rfl, hb1⟩
        clear hcs
        go_wp2_with fail
        refine (l6In_t _ _ _ _ Hp.out.1 Hp.out.2).mono ?_
        rintro e w1' ⟨rfl, rfl⟩
        go_wp2_with fail
        refine (hgcd _).mono ?_
        rintro e w1' ⟨rfl, rfl⟩
        clear hgcd hgr
        go_wp2_with fail
        refine wp_region_held (S := fun _ => True) (by kernel_rfl) ?_
        change wpAnyH _ _ _ _ _ _ _ _ w1.drew
        have hk0 := hb1.drew
        generalize w1.drew = w0 at hk0 ⊢
        refine wpAnyH_take (i := 0) (v := .int .i64 q) rfl (by kernel_rfl) (by kernel_rfl) (by kernel_rfl) (fun _ _ _ h => h) (.inl ⟨by kernel_rfl, fun _ _ => by go_simp⟩) trivial ?_
        refine wpAnyH_take (i := 1) (v := .int .i64 g) rfl (by kernel_rfl) (by kernel_rfl) (by kernel_rfl) (fun _ _ _ h => h) (.inl ⟨by kernel_rfl, fun _ _ => by go_simp⟩) trivial ?_
        refine wpAnyH_take (i := 2) (v := .int .i64 a1) rfl (by kernel_rfl) (by kernel_rfl) (by kernel_rfl) (fun _ _ _ h => h) (.inl ⟨by kernel_rfl, fun W hW => by (have hF := HF.out; obtain ⟨f1, f2, f3, f4, f5, f6⟩ := hF; go_simp)⟩) trivial ?_
        refine wpAnyH_take (i := 3) (v := .int .i64 r) rfl (by kernel_rfl) (by kernel_rfl) (by kernel_rfl) (fun _ _ _ h => h) (.inl ⟨by kernel_rfl, fun _ _ => by go_simp⟩) trivial ?_
        refine wpAnyH_take (i := 4) (v := .int .i64 q) rfl (by kernel_rfl) (by kernel_rfl) (by kernel_rfl) (fun _ _ _ h => h) (.inl ⟨by kernel_rfl, fun _ _ => by go_simp⟩) trivial ?_
        refine wpAnyH_take (i := 5) (v := .int .i64 d1) rfl (by kernel_rfl) (by kernel_rfl) (by kernel_rfl) (fun _ _ _ h => h) (.inl ⟨by kernel_rfl, fun W hW => by (have hF := HF.out; obtain ⟨f1, f2, f3, f4, f5, f6⟩ := hF; go_simp)⟩) trivial ?_
        refine wpAnyH_take (i := 7) (v := .int .i64 r) rfl (by kernel_rfl) (by kernel_rfl) (by kernel_rfl) (fun _ _ _ h => h) (.inl ⟨by kernel_rfl, fun _ _ => by go_simp⟩) trivial ?_
        refine wpAnyH_take (i := 8) (v := .int .i64 q) rfl (by kernel_rfl) (by kernel_rfl) (by kernel_rfl) (fun _ _ _ h => h) (.inl ⟨by kernel_rfl, fun _ _ => by go_simp⟩) trivial ?_
        refine wpAnyH_take (i := 9) (v := .int .i64 d1) rfl (by kernel_rfl) (by kernel_rfl) (by kernel_rfl) (fun _ _ _ h => h) (.inl ⟨by kernel_rfl, fun W hW => by (have hF := HF.out; obtain ⟨f1, f2, f3, f4, f5, f6⟩ := hF; go_simp)⟩) trivial ?_
        refine wpAnyH_take (i := 10) (v := .int .i64 g) rfl (by kernel_rfl) (by kernel_rfl) (by kernel_rfl) (fun _ _ _ h => h) (.inl ⟨by kernel_rfl, fun _ _ => by go_simp⟩) trivial ?_
        refine wpAnyH_take (i := 11) (v := .int .i64 a2) rfl (by kernel_rfl) (by kernel_rfl) (by kernel_rfl) (fun _ _ _ h => h) (.inl ⟨by kernel_rfl, fun W hW => by (have hF := HF.out; obtain ⟨f1, f2, f3, f4, f5, f6⟩ := hF; go_simp)⟩) trivial ?_
        refine wpAnyH_take (i := 12) (v := .int .i64 p) rfl (by kernel_rfl) (by kernel_rfl) (by kernel_rfl) (fun _ _ _ h => h) (.inl ⟨by kernel_rfl, fun _ _ => by go_simp⟩) trivial ?_
        refine wpAnyH_take (i := 13) (v := .int .i64 p2) rfl (by kernel_rfl) (by kernel_rfl) (by kernel_rfl) (fun _ _ _ h => h) (.inl ⟨by kernel_rfl, fun W hW => by (have hF := HF.out; obtain ⟨f1, f2, f3, f4, f5, f6⟩ := hF; go_simp)⟩) trivial ?_
        refine wpAnyH_all (rs := [6]) (by kernel_rfl) (by simp) (List.forall_mem_cons.2 ⟨?_, List.forall_mem_nil _⟩)
        refine opH_call (f := 115) rfl (by kernel_rfl) (by go_simp; first | done | rfl | exact ⟨rfl, rfl⟩) (number_ok a1 d1 _) ?_
        rintro e w1 ⟨rfl, hb1⟩
        have hk1 := kept_trans hk0 hb1
        clear hb1
        rw [val9_spell]
        refine ⟨_, rfl, trivial, ?_⟩
        refine wpAnyH_all (rs := [14]) (by kernel_rfl) (by simp) (List.forall_mem_cons.2 ⟨?_, List.forall_mem_nil _⟩)
        refine opH_call (f := 115) rfl (by kernel_rfl) (by go_simp; first | done | rfl | exact ⟨rfl, rfl⟩) (number_ok a2 p2 _) ?_
        rintro e w2 ⟨rfl, hb2⟩
        have hk2 := kept_trans hk1 hb2
        clear hb2
        rw [val9_spell]
        refine ⟨_, rfl, trivial, ?_⟩
        refine wpAnyH_all (rs := [15]) (by kernel_rfl) (by simp) (List.forall_mem_cons.2 ⟨?_, List.forall_mem_nil _⟩)
        refine opH_run (v := .slice (some ⟨w2.heap.size, 0, none⟩) 2 2) (w' := w2.alloc (.cells ((⟨a1, gz d1⟩ : W9).arr ++ (⟨a2, gz p2⟩ : W9).arr) 124)) rfl (by kernel_rfl) (by unfold W9.arr gz; go_simp; first | done | rfl) ?_
        have hrd := reads_two w2 (⟨a1, gz d1⟩ : W9) (⟨a2, gz p2⟩ : W9) 124
        have hk3 := kept_alloc hk2 (.cells ((⟨a1, gz d1⟩ : W9).arr ++ (⟨a2, gz p2⟩ : W9).arr) 124)
        generalize w2.alloc (.cells ((⟨a1, gz d1⟩ : W9).arr ++ (⟨a2, gz p2⟩ : W9).arr) 124) = w3 at *
        generalize w2.heap.size = b2 at *
        refine ⟨trivial, ?_⟩
        refine wpAnyH_all (rs := [16]) (by kernel_rfl) (by simp) (List.forall_mem_cons.2 ⟨?_, List.forall_mem_nil _⟩)
        refine opH_call (f := 114) rfl (by kernel_rfl) (by go_simp; first | done | rfl) (l5Tidy_ok _ [(⟨a1, gz d1⟩ : W9), (⟨a2, gz p2⟩ : W9)] _ hrd (by simp) Hsm.out) ?_
        unfold WlPost
        rw [Hrr.out]
        rintro e w4 ⟨v9, rfl, hh9, hb9⟩
        have hh10 := has_base hh9 hk3.size
        have hk10 := kept_trans hk3 hb9
        refine ⟨_, rfl, trivial, ?_⟩
        refine wpAnyH_take (i := 17) (v := v9) rfl (by kernel_rfl) (by kernel_rfl) (by kernel_rfl) (fun _ _ _ h => h) (.inl ⟨by kernel_rfl, fun _ _ => by go_simp⟩) trivial ?_
        refine wpAnyH_take (i := 18) (v := .bool rr.2) rfl (by kernel_rfl) (by kernel_rfl) (by kernel_rfl) (fun _ _ _ h => h) (.inl ⟨by kernel_rfl, fun _ _ => by go_simp⟩) trivial ?_
        refine wpAnyH_take (i := 19) (v := v9) rfl (by kernel_rfl) (by kernel_rfl) (by kernel_rfl) (fun _ _ _ h => h) (.inl ⟨by kernel_rfl, fun _ _ => by go_simp⟩) trivial ?_
        refine wpAnyH_take (i := 20) (v := .bool rr.2) rfl (by kernel_rfl) (by kernel_rfl) (by kernel_rfl) (fun _ _ _ h => h) (.inl ⟨by kernel_rfl, fun _ _ => by go_simp⟩) trivial ?_
        refine wpAnyH_done (by kernel_rfl) ?_ _
        go_simp
        go_wp2_with fail
        go_ret2
        exact ⟨v9, by rw [Hfin.out]; rfl, by rw [Hfin.out]; exact hh10, hk10⟩
    · have Hfin : Hid (ringRes r q p i = ([], false)) := by show _ = _; rw [ringRes, if_neg]; exact fun h => hp h.2
      have Hcu : Hid (cuspsRes r q i = (r / (Int.gcd r q : Int), true)) := if_pos hP
      have Hp := hide hp
      have hcs := cuspsSpec_ok r q i w
      unfold IB at hcs
      rw [Hcu.out] at hcs
      clear hp hP
      go_enter Try.func104, Try.ntmps104
      go_wp2_with fail
      refine hcs.mono ?_
      rintro e w1 ⟨rfl, hb1⟩
      clear hcs
      go_wp2_with fail
      refine (l6In_f _ _ _ _ Hp.out).mono ?_
      rintro e w1' ⟨rfl, rfl⟩
      have hem := owns_empty w1 124 9 w.heap.size hb1.size
      go_wp2_with fail
      go_ret2
      exact ⟨_, by rw [Hfin.out]; rfl, by rw [Hfin.out]; exact has_owns hem, kept_alloc hb1 _⟩
  · have Hfin : Hid (ringRes r q p i = ([], false)) := by show _ = _; rw [ringRes, if_neg]; exact fun h => hP h.1
    have Hcu : Hid (cuspsRes r q i = (0, false)) := if_neg hP
    have hcs := cuspsSpec_ok r q i w
    unfold IB at hcs
    rw [Hcu.out] at hcs
    clear hP
    go_enter Try.func104, Try.ntmps104
    go_wp2_with fail
    refine hcs.mono ?_
    rintro e w1 ⟨rfl, hb1⟩
    clear hcs
    have hem := owns_empty w1 124 9 w.heap.size hb1.size
    go_wp2_with fail
    go_ret2
    exact ⟨_, by rw [Hfin.out]; rfl, by rw [Hfin.out]; exact has_owns hem, kept_alloc hb1 _⟩

end Go.Proofs.Ytnlmiemnblppbaa
