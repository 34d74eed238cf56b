/-
  PathMoves of the program, where every point has a grid point.
-/
import Derived.Test.YtnlmiemnblppbaaPy
import Derived.Test.YtnlmiemnblppbaaUt
namespace Go.Proofs.Ytnlmiemnblppbaa
open Go.RowKit

theorem newsP (w : World) (cs : Array Value) (T : TypeId) : ∀ (j : Nat) u, cs.toList[j]? = some u → (w.alloc (.cells cs T)).cell? ((⟨w.heap.size, 0, none⟩ : Addr).add j) = some u := by
  intro j u hu
  rw [Addr.add_lit, cell_of_row _ _ _ _ _ _ (heap_alloc_new w _), Nat.zero_add]
  simpa using hu

def dif (P : Nat → Int × Int) (t : Nat) : List (Int × Int) := (List.range t).map fun i => ((P (i + 1)).1 - (P i).1, (P (i + 1)).2 - (P i).2)
theorem dif_len (P : Nat → Int × Int) (t : Nat) : (dif P t).length = t := by simp [dif]
theorem dif_succ (P : Nat → Int × Int) (t : Nat) : mvCells (dif P (t + 1)) = mvCells (dif P t) ++ [.int .i64 ((P (t + 1)).1 - (P t).1), .int .i64 ((P (t + 1)).2 - (P t).2)] := by
  simp [dif, mvCells, List.range_succ]

set_option maxRecDepth 100000 in
set_option maxHeartbeats 2000000 in
theorem implPMC_ok (v : Value) (zs : List (Nat × Nat)) (G : Nat) (P : Nat → Int × Int) (w : World) (hr : Reads w 1 v zs.length (cCells zs)) (hp : pathOk zs = true) (hG : G ≤ 8)
    (h0 : P 0 = (0, 0)) (hsm : ∀ i, i ≤ zs.length → (-10000000 ≤ (P i).1 ∧ (P i).1 ≤ 10000000) ∧ -10000000 ≤ (P i).2 ∧ (P i).2 ≤ 10000000) (hgr : ∀ i (h : i < zs.length), GridOk zs[i] G (P (i + 1))) :
    Calls Try.prog 14 #[v, .int .i64 G] w fun e w' => e = .returned (.tuple #[.slice (some ⟨w.heap.size, 0, none⟩) zs.length zs.length, .bool true]) ∧ Has w' w.heap.size 2 (.slice (some ⟨w.heap.size, 0, none⟩) zs.length zs.length) zs.length (mvCells (dif P zs.length)) ∧ Below w.heap.size w w' := by
  obtain ⟨i0, hi, hz0, hz1, hz2⟩ := info_parts Try.infoMv
  have hpv := fun w hr => implPath_ok v zs w hr
  rw [hp] at hpv
  have hl : zs.length ≤ 100 := by
    unfold pathOk at hp
    simp only [Bool.and_eq_true, decide_eq_true_eq] at hp
    exact hp.1.2
  have Hpv := hide hpv
  have Hr := hide hr
  have Hsm := hide hsm
  have Hgr := hide hgr
  clear hpv hsm hgr hp
  obtain ⟨_, hm, A, c, rfl, hc⟩ := hr
  have hg8 : 0 ≤ (G : Int) ∧ (G : Int) ≤ 8 := by omega
  have Hg := hide hg8
  clear hg8
  go_enter Try.func14, Try.ntmps14
  go_wp2_with fail
  refine (Hpv.out _ Hr.out).mono ?_
  rintro e w1 ⟨rfl, rfl⟩
  go_wp2_with fail
  refine (gridValid_t _ _ Hg.out).mono ?_
  rintro e w1 ⟨rfl, rfl⟩
  go_wp2_with (at_make; refine wpList_make_own _ rfl _ _ 23 rfl w.heap.size 31 i0 _ 2 Try.underlying23 hi hz0 hz1 _ _ _ zs.length rfl rfl rfl (by rw [hz2]; omega) (by unfold maxLen; omega) (Nat.le_refl _) ?_)
  intro w2 hout hgrw
  have hb2 := kept_of_grown hgrw
  clear hgrw
  have hpn : (w2.alloc (.cells #[.int .i64 0, .int .i64 0] 31)).heap[w2.heap.size]? = some (.cells #[.int .i64 (P 0).1, .int .i64 (P 0).2] 31 (0, 0)) := by rw [h0]; exact heap_alloc_new _ _
  have hgl := (hout.lt _ rfl).2
  have hout2 := owns_kept hout (kept_new w2 (.cells #[.int .i64 0, .int .i64 0] 31))
  have hb3 := kept_alloc hb2 (.cells #[.int .i64 0, .int .i64 0] 31)
  have hNB := hb2.size
  clear hout hb2 h0
  go_wp2_with fail
  generalize w2.heap.size = N at *
  have hgN : w.heap.size ≠ N := by omega
  go_loopw [6, 24] (fun v i wr => ∃ (t : Nat), t ≤ zs.length ∧ i = .int .i64 t ∧ v = .slice (some ⟨w.heap.size, 0, none⟩) t zs.length ∧ wr.heap[N]? = some (.cells #[.int .i64 (P t).1, .int .i64 (P t).2] 31 (0, 0)) ∧ wr.ownsRow w.heap.size 31 2 (.slice (some ⟨w.heap.size, 0, none⟩) t zs.length) t (mvCells (dif P t)) ∧ Below w.heap.size w wr) (fun _ i _ => zs.length - (intOf i).toNat)
  case atStart => exact ⟨0, by omega, rfl, rfl, hpn, hout2, hb3⟩
  case round =>
    obtain ⟨t, ht, rfl, rfl, hN, ho, hb⟩ := hrel
    clear hpn hout2 hb3
    by_cases hlt : t < zs.length
    · obtain ⟨b, o, rfl, hbl, hcell⟩ := hc (by omega) (by omega)
      have h1 := (hb.cell (p := ⟨b, o + t, none⟩) hbl).trans ((hcell t (by omega)).trans (cCells_get zs t hlt))
      have hgp := Hgr.out t hlt
      have hds := dif_succ P t
      have hcl : (mvCells (dif P t)).length = t * 2 := by rw [mvCells_len, dif_len]
      obtain ⟨⟨a1, a2⟩, a3, a4⟩ := Hsm.out t (by omega)
      obtain ⟨⟨b1, b2⟩, b3, b4⟩ := Hsm.out (t + 1) (by omega)
      clear hcell hc
      generalize zs[t] = z at h1 hgp
      have Hgp := hide (fun W => implGrid_ok z G (P (t + 1)) W hG hgp)
      clear hgp
      obtain ⟨zx, zy⟩ := z
      dsimp only at h1
      obtain ⟨p, hpt⟩ : ∃ p, P (t + 1) = p := ⟨_, rfl⟩
      rw [hpt] at Hgp hds b1 b2 b3 b4
      have Hpt := hide hpt
      have Hds := hide hds
      clear hpt hds
      generalize P t = q at *
      obtain ⟨x, y⟩ := p
      obtain ⟨X, Y⟩ := q
      dsimp only at *
      generalize mvCells (dif P t) = cs at *
      go_wp2_with fail
      refine (Hgp.out _).mono ?_
      rintro e w4 ⟨rfl, hb4⟩
      have hN4 := (hb4.block N (Array.getElem?_eq_some_iff.1 hN).1).trans hN
      have ho4 := owns_kept ho hb4
      have hbb4 := kept_trans hb hb4
      have hNl : N < w4.heap.size := (Array.getElem?_eq_some_iff.1 hN4).1
      clear hb hb4 ho hN h1
      have hN5 := (Below.heap_alloc w4 (.cells #[.int .i64 x, .int .i64 y] 31) N hNl).trans hN4
      have n0 : (w4.alloc (.cells #[.int .i64 x, .int .i64 y] 31)).cell? ⟨N, 0, none⟩ = some (.int .i64 X) := by rw [Lib.cell_of_heap hN5]; rfl
      have n1 : (w4.alloc (.cells #[.int .i64 x, .int .i64 y] 31)).cell? ⟨N, 1, none⟩ = some (.int .i64 Y) := by rw [Lib.cell_of_heap hN5]; rfl
      have m0 : (w4.alloc (.cells #[.int .i64 x, .int .i64 y] 31)).cell? ⟨w4.heap.size, 0, none⟩ = some (.int .i64 x) := by go_simp
      have m1 : (w4.alloc (.cells #[.int .i64 x, .int .i64 y] 31)).cell? ⟨w4.heap.size, 1, none⟩ = some (.int .i64 y) := by go_simp
      have ho5 := owns_kept ho4 (kept_new w4 (.cells #[.int .i64 x, .int .i64 y] 31))
      have hb5 := kept_alloc hbb4 (.cells #[.int .i64 x, .int .i64 y] 31)
      have hne : ¬ w4.heap.size = N := by omega
      have hwg : w.heap.size ≠ w4.heap.size := by omega
      clear hN4 ho4 hbb4
      generalize hwa : w4.alloc (.cells #[.int .i64 x, .int .i64 y] 31) = wa at *
      go_wp2_with (at_builtin; go_loud (refine wpList_append_fits _ rfl _ _ 23 rfl w.heap.size 31 i0 2 Try.underlying23 hi hz1 w.heap.size t zs.length cs rfl (ho5.alloc _) ⟨wa.heap.size, 0, none⟩ 1 1 [.int .i64 (x - X), .int .i64 (y - Y)] rfl rfl (fun j u hu => newsP wa #[.int .i64 (x - X), .int .i64 (y - Y)] 31 j u hu) (by simp [Value.oneCell']) (by omega) ?_))
      intro w6 ho6 hg6
      have hka := kept_new wa (.cells #[.int .i64 (x - X), .int .i64 (y - Y)] 31)
      have hN6 := (hg6.block N (by have := (Array.getElem?_eq_some_iff.1 hN5).1; have h2 := hka.size; omega) (by simp; omega)).trans ((hka.block N (Array.getElem?_eq_some_iff.1 hN5).1).trans hN5)
      have hk6 := kept_grown (kept_trans hb5 hka) hg6 (fun k hk => by cases hk; omega)
      have hm1 : some w4.heap.size ≠ some w.heap.size := by simp; omega
      replace m0 := hg6.cell (kept_cell hka m0) hm1
      replace m1 := hg6.cell (kept_cell hka m1) hm1
      have n0' : w6.cell? ⟨N, 0, none⟩ = some (.int .i64 X) := by rw [Lib.cell_of_heap hN6]; rfl
      have n1' : w6.cell? ⟨N, 1, none⟩ = some (.int .i64 Y) := by rw [Lib.cell_of_heap hN6]; rfl
      have f0 : w6.frozen? ⟨N, 0, none⟩ = false := Lib.frozen_of_heap hN6 0
      have f1 : w6.frozen? ⟨N, 1, none⟩ = false := Lib.frozen_of_heap hN6 1
      have hN7 := heapSet (j := 1) (heapSet (j := 0) hN6 (.int .i64 x)) (.int .i64 y)
      have ho7 := (ho6.kept (grownSet w6 N 0 (.int .i64 x)) (.inr (by simp [Value.ownBlock, hgN]))).kept (grownSet _ N 1 (.int .i64 y)) (.inr (by simp [Value.ownBlock, hgN]))
      have hk7 : Below w.heap.size w ((w6.setCell ⟨N, 0, none⟩ (.int .i64 x)).setCell ⟨N, 1, none⟩ (.int .i64 y)) := kept_set (kept_set hk6 hNB _) hNB _
      clear hka hg6 ho6 hk6 hN6 n0 n1 hb5 ho5 hN5 hwa
      go_wp2_with fail
      go_roundw
      case rel => exact ⟨t + 1, by omega, by go_num, rfl, by rw [Hpt.out]; exact hN7, by rw [Hds.out]; exact ho7, hk7⟩
      case measure => simp [intOf]; omega
    · obtain rfl : t = zs.length := by omega
      have hh := hide (has_owns ho)
      clear ho hN
      go_wp2_with fail
      go_ret2
      exact ⟨rfl, hh.out, hb⟩

theorem implPM_ok (v : Value) (zs : List (Nat × Nat)) (G : Nat) (P : Nat → Int × Int) (w : World) (hr : Reads w 1 v zs.length (cCells zs)) (hp : pathOk zs = true) (hG : G ≤ 8)
    (h0 : P 0 = (0, 0)) (hsm : ∀ i, i ≤ zs.length → (-10000000 ≤ (P i).1 ∧ (P i).1 ≤ 10000000) ∧ -10000000 ≤ (P i).2 ∧ (P i).2 ≤ 10000000) (hgr : ∀ i (h : i < zs.length), GridOk zs[i] G (P (i + 1))) :
    Calls Try.prog 14 #[v, .int .i64 G] w fun e w' => (∃ v', e = .returned (.tuple #[v', .bool true]) ∧ Has w' w.heap.size 2 v' zs.length (mvCells (dif P zs.length))) ∧ Below w.heap.size w w' :=
  (implPMC_ok v zs G P w hr hp hG h0 hsm hgr).mono fun _ _ ⟨h1, h2, h3⟩ => ⟨⟨_, h1, h2⟩, h3⟩

end Go.Proofs.Ytnlmiemnblppbaa
