/-
  Rows that a reader draws from a design: some points, as many as asked.
-/
import Derived.Test.YtnlmiemnblppbaaDd
import Derived.Test.YtnlmiemnblppbaaCyV
namespace Go.Proofs.Ytnlmiemnblppbaa
open Go.RowKit

theorem l1Mod_some (n : Int) (w : World) : Calls Try.prog 121 #[.int .i64 n] w fun e w' => ∃ m : Int, e = .returned (.int .i64 m) ∧ m ≤ 1000000 ∧ w = w' := by
  have e1 : n.tmod 24 = n - 24 * n.tdiv 24 := Int.tmod_def n 24
  have e2 : -24 < n.tmod 24 ∧ n.tmod 24 < 24 := ⟨by have := Int.lt_tmod_of_pos n (by decide : (0 : Int) < 24); omega, Int.tmod_lt_of_pos n (by decide)⟩
  obtain ⟨q, hq⟩ : ∃ q, n.tmod 24 = q := ⟨_, rfl⟩
  rw [hq] at e2
  have i1 : IntKind.i64.wrap q = q := IntWalk.i64_in _ (by omega)
  clear e1
  by_cases hn : q < 0
  · go_enter Try.func121, Try.ntmps121
    go_wp2_with fail
    go_ret
    exact ⟨_, rfl, by omega, rfl⟩
  · go_enter Try.func121, Try.ntmps121
    go_wp2_with fail
    go_ret
    exact ⟨_, rfl, by omega, rfl⟩

set_option maxRecDepth 100000 in
set_option maxHeartbeats 2000000 in
theorem l2Sum_some (a b : C8) (w : World) :
    Calls Try.prog 120 #[a.val, .int .i64 1, b.val] w (SomeC8 w) := by
  have h3 := hide (three_new w a b zero8 51)
  rw [val_spell, val_spell]
  go_enter Try.func120, Try.ntmps120
  go_wp2_with fail
  go_loopw [7] (fun i wr => ∃ (t : Nat) (d : C8), t ≤ 8 ∧ i = .int .i64 t ∧ Blk wr w.heap.size 51 d ∧ Blk wr (w.heap.size + 1) 51 b ∧ Blk wr (w.heap.size + 1 + 1) 51 zero8 ∧ Below w.heap.size w wr) (fun i _ => 8 - (intOf i).toNat)
  case atStart => exact ⟨0, a, by omega, rfl, h3.out.1, h3.out.2.1, h3.out.2.2.1, h3.out.2.2.2⟩
  case round =>
    obtain ⟨t, d, ht, rfl, h0, h1, h2, hb⟩ := hrel
    clear h3
    by_cases hlt : t < 8
    · have c0 := blk_cell h0 t hlt
      have c1 := blk_cell h1 t hlt
      have f0 := blk_free h0 t
      generalize d.get t = x at *
      generalize b.get t = y at *
      obtain ⟨y1, i2⟩ : ∃ y1, IntKind.i64.wrap y = y1 := ⟨_, rfl⟩
      have i1 : IntKind.i64.wrap ((1 : Int) * y) = y1 := by rw [Int.one_mul]; exact i2
      obtain ⟨z, i3⟩ : ∃ z, IntKind.i64.wrap (x + y1) = z := ⟨_, rfl⟩
      have K0 := hide (blk_set h0 t hlt z)
      have K1 := hide (blk_other h1 t (.int .i64 z) (show w.heap.size + 1 ≠ w.heap.size by omega))
      have K2 := hide (blk_other h2 t (.int .i64 z) (show w.heap.size + 1 + 1 ≠ w.heap.size by omega))
      have HB := kept_set hb (p := ⟨w.heap.size, t, none⟩) (by simp) (.int .i64 z)
      clear h0 h1 h2 hb
      go_wp2_with fail
      go_still_tail 14, (by kernel_rfl)
      go_wp2_with fail
      go_roundw
      case rel => exact ⟨t + 1, _, by omega, by go_num, K0.out, K1.out, K2.out, HB.drew⟩
      case measure => simp [intOf]; omega
    · obtain rfl : t = 8 := by omega
      obtain ⟨p0, p1, p2, p3, p4, p5, p6, p7⟩ := blk_cells h0
      obtain ⟨q0, q1, q2, q3, q4, q5, q6, q7⟩ := blk_cells h2
      have fz := blk_free h2
      have H8 := hide (blk_set8 h2 d)
      have hb8 := hide (kept_set8 hb (g := w.heap.size + 1 + 1) (by omega) d)
      simp only [zero8] at q0 q1 q2 q3 q4 q5 q6 q7
      clear h0 h1 h2 hb
      go_wp2_with fail
      change bodyPost _ _ _ _ _ (set8w wr (w.heap.size + 1 + 1) d)
      generalize set8w wr (w.heap.size + 1 + 1) d = wz at hb8 H8
      obtain ⟨z0, z1, z2, z3, z4, z5, z6, z7⟩ := blk_cells H8.out
      exact bodyPost_ret (v := d.val) (by simp [results, Try.results120, go_sem, val_spell, z0, z1, z2, z3, z4, z5, z6, z7]) rfl ⟨_, rfl, hb8.out⟩

/-- Some point and whether it is one. -/
def SomeCB (w : World) (e : Ending) (w' : World) : Prop := ∃ (d : C8) (b : Bool), e = .returned (.tuple #[d.val, .bool b]) ∧ Below w.heap.size w w'

set_option maxRecDepth 100000 in
set_option maxHeartbeats 1000000 in
theorem l2Done_some (c : C8) (w : World) : Calls Try.prog 110 #[c.val] w (SomeCB w) := by
  have H0 := hide (two_new w c zero8 51)
  have hv : ∀ W : World, Hid (Calls Try.prog 77 #[c.val] W fun e w' => e = .returned (.bool (c.smallB 1000000)) ∧ Below W.heap.size W w') := fun W => cycValid_ok' c W
  obtain ⟨p0, p1, p2, p3, p4, p5, p6, p7⟩ := blk_cells H0.out.1
  rw [val_spell] at hv ⊢
  cases hs : c.smallB 1000000 with
  | false =>
    rw [hs] at hv
    clear hs
    go_enter Try.func110, Try.ntmps110
    go_wp2_with fail
    refine (hv _).out.mono ?_
    rintro e w1 ⟨rfl, hb1⟩
    have hz := blk_kept H0.out.2.1 hb1
    have hb01 := kept_trans H0.out.2.2 hb1
    obtain ⟨q0, q1, q2, q3, q4, q5, q6, q7⟩ := blk_cells hz
    obtain ⟨f0, f1, f2, f3, f4, f5, f6, f7⟩ := blk_frees hz
    have hZ := hide (blk_set8 hz zero8)
    have hB := hide (kept_set8 hb01 (g := w.heap.size + 1) (by omega) zero8)
    simp only [zero8] at q0 q1 q2 q3 q4 q5 q6 q7
    clear p0 p1 p2 p3 p4 p5 p6 p7 hb1 hz
    go_wp2_with fail
    change bodyPost _ _ _ _ _ (set8w w1 (w.heap.size + 1) zero8)
    generalize set8w w1 (w.heap.size + 1) zero8 = wz at *
    obtain ⟨z0, z1, z2, z3, z4, z5, z6, z7⟩ := blk_cells hZ.out
    exact bodyPost_ret (v := .tuple #[zero8.val, .bool false]) (by simp [results, Try.results110, go_sem, val_spell, z0, z1, z2, z3, z4, z5, z6, z7]) rfl ⟨_, _, rfl, hB.out⟩
  | true =>
    rw [hs] at hv
    clear hs
    go_enter Try.func110, Try.ntmps110
    go_wp2_with fail
    refine (hv _).out.mono ?_
    rintro e w1 ⟨rfl, hb1⟩
    have hz := blk_kept H0.out.2.1 hb1
    have hc := blk_kept H0.out.1 hb1
    have hb01 := kept_trans H0.out.2.2 hb1
    obtain ⟨r0, r1, r2, r3, r4, r5, r6, r7⟩ := blk_cells hc
    obtain ⟨q0, q1, q2, q3, q4, q5, q6, q7⟩ := blk_cells hz
    obtain ⟨f0, f1, f2, f3, f4, f5, f6, f7⟩ := blk_frees hz
    have hZ := hide (blk_set8 hz c)
    have hB := hide (kept_set8 hb01 (g := w.heap.size + 1) (by omega) c)
    simp only [zero8] at q0 q1 q2 q3 q4 q5 q6 q7
    clear p0 p1 p2 p3 p4 p5 p6 p7 hb1 hz hc
    go_wp2_with fail
    change bodyPost _ _ _ _ _ (set8w w1 (w.heap.size + 1) c)
    generalize set8w w1 (w.heap.size + 1) c = wz at *
    obtain ⟨z0, z1, z2, z3, z4, z5, z6, z7⟩ := blk_cells hZ.out
    exact bodyPost_ret (v := .tuple #[c.val, .bool true]) (by simp [results, Try.results110, go_sem, val_spell, z0, z1, z2, z3, z4, z5, z6, z7]) rfl ⟨_, _, rfl, hB.out⟩

theorem set8_grown (w : World) (g : Nat) (c : C8) : w.grownBy (set8w w g c) (some g) := by
  have h : ∀ (w : World) (j : Nat) (u : Value), w.grownBy (w.setCell ⟨g, j, none⟩ u) (some g) := fun w j u => ⟨rfl, rfl, rfl, by simp [World.setCell], fun k _ hk => Below.heap_setCell _ _ _ _ (fun e => hk (by simp [e]))⟩
  unfold set8w
  exact grown_trans' (grown_trans' (grown_trans' (grown_trans' (grown_trans' (grown_trans' (grown_trans' (h _ _ _) (h _ _ _)) (h _ _ _)) (h _ _ _)) (h _ _ _)) (h _ _ _)) (h _ _ _)) (h _ _ _)

set_option maxRecDepth 100000 in
set_option maxHeartbeats 8000000 in
theorem l5At_some (v : Value) (ws : List W9) (T : Int) (w : World) (hr : Reads w 9 v ws.length (wlCells ws)) (hok : designB ws = true) (hT : 0 ≤ T ∧ T ≤ 23) :
    Calls Try.prog 111 #[v, .int .i64 T] w (SomeC8 w) := by
  have H0 := hide (two_new w zero8 zero8 51)
  have hokw : ∀ x ∈ ws, x.okB = true := by
    simp only [designB, Bool.and_eq_true] at hok
    exact List.all_eq_true.1 hok.2
  have Hok := hide hokw
  obtain ⟨hT1, hT2⟩ := hT
  clear hokw hok
  obtain ⟨_, hm, A, c, rfl, hc⟩ := hr
  go_enter Try.func111, Try.ntmps111
  go_wp2_with fail
  go_loopw [6] (fun i wr => ∃ (t : Nat) (d : C8), t ≤ ws.length ∧ i = .int .i64 t ∧ Blk wr w.heap.size 51 zero8 ∧ Blk wr (w.heap.size + 1) 51 d ∧ Below w.heap.size w wr) (fun i _ => ws.length - (intOf i).toNat)
  case atStart => exact ⟨0, zero8, by omega, rfl, H0.out.1, H0.out.2.1, H0.out.2.2⟩
  case round =>
    obtain ⟨t, d, ht, rfl, h4, h5, hb⟩ := hrel
    clear H0
    by_cases hlt : t < ws.length
    · obtain ⟨b, o, rfl, hbl, hcell⟩ := hc (by omega) (by omega)
      have hA := wl_cells (below_cells hb hbl hcell) t hlt
      have hx := okB_t (Hok.out _ (List.getElem_mem hlt))
      clear hcell hc
      generalize ws[t] = x at hA hx
      obtain ⟨s, rad⟩ := x
      obtain ⟨p0, p1, p2, p3, p4, p5, p6, p7, p8⟩ := hA
      obtain ⟨s1, s2, _⟩ := hx
      dsimp only at p0 p1 p2 p3 p4 p5 p6 p7 p8 s1 s2
      have hP : -23000 ≤ T * s ∧ T * s ≤ 23000 := by
        have e := Int.natAbs_mul T s
        have e2 := Nat.mul_le_mul (show T.natAbs ≤ 23 by omega) (show s.natAbs ≤ 1000 by omega)
        omega
      obtain ⟨P, hPe⟩ : ∃ P, T * s = P := ⟨_, rfl⟩
      rw [hPe] at hP
      have hwr : IntKind.i64.wrap (T * s) = P := by rw [hPe]; exact IntWalk.i64_in _ (by omega)
      have hmod := hide (fun W => l1Mod_some P W)
      have hturn : Hid (∀ (m : Int) (W : World), m ≤ 1000000 → Calls Try.prog 119 #[.agg #[.int .i64 rad.a0, .int .i64 rad.a1, .int .i64 rad.a2, .int .i64 rad.a3, .int .i64 rad.a4, .int .i64 rad.a5, .int .i64 rad.a6, .int .i64 rad.a7], .int .i64 m] W (SomeC8 W)) := fun m W h => by
        have := l2Turned_some rad m W h
        rwa [val_spell] at this
      have hsum : Hid (∀ (d2 : C8) (W : World), Calls Try.prog 120 #[.agg #[.int .i64 d.a0, .int .i64 d.a1, .int .i64 d.a2, .int .i64 d.a3, .int .i64 d.a4, .int .i64 d.a5, .int .i64 d.a6, .int .i64 d.a7], .int .i64 1, .agg #[.int .i64 d2.a0, .int .i64 d2.a1, .int .i64 d2.a2, .int .i64 d2.a3, .int .i64 d2.a4, .int .i64 d2.a5, .int .i64 d2.a6, .int .i64 d2.a7]] W (SomeC8 W)) := fun d2 W => by
        have := l2Sum_some d d2 W
        rwa [val_spell d, val_spell d2] at this
      have hwl : w.heap.size + 1 < wr.heap.size := blk_lt h5
      have hnb : (some b : Option Nat) ≠ some (w.heap.size + 1) := by simp; omega
      obtain ⟨c0, c1, c2, c3, c4, c5, c6, c7⟩ := blk_cells h5
      have i0 : (0 : Int) ≤ (t : Int) := by omega
      have i1 : (t : Int) < (ws.length : Int) := by omega
      have H40 := hide h4
      have H50 := hide h5
      clear h4 h5 hP hPe
      go_wp2_with fail
      refine wp_region_held (S := fun W => ∀ (a : Addr) (u : Value), (some a.block : Option Nat) ≠ some (w.heap.size + 1) → wr.cell? a = some u → W.cell? a = some u) (by kernel_rfl) ?_
      change wpAnyH _ _ _ _ _ _ _ _ wr.drew
      have G0 := kept_drew wr
      generalize wr.drew = v0 at *
      have hS0 : ∀ (a : Addr) (u : Value), (some a.block : Option Nat) ≠ some (w.heap.size + 1) → wr.cell? a = some u → v0.cell? a = some u := fun a u _ h => kept_cell G0 h
      refine wpAnyH_take (i := 1) (v := .slice (some ⟨b, o, none⟩) ws.length c) rfl (by kernel_rfl) (by kernel_rfl) (by kernel_rfl) (fun _ _ _ h => h) (.inl ⟨by kernel_rfl, fun _ _ => by go_simp⟩) hS0 ?_
      refine wpAnyH_take (i := 2) (v := .int .i64 t) rfl (by kernel_rfl) (by kernel_rfl) (by kernel_rfl) (fun _ _ _ h => h) (.inl ⟨by kernel_rfl, fun _ _ => by go_simp⟩) hS0 ?_
      refine wpAnyH_take (i := 3) (v := .pointer (some ⟨b, o + t * 9, none⟩)) rfl (by kernel_rfl) (by kernel_rfl) (by kernel_rfl) (fun _ _ _ h => h) (.inl ⟨by kernel_rfl, fun _ _ => by go_simp⟩) hS0 ?_
      refine wpAnyH_take (i := 4) (v := .pointer (some ⟨b, o + t * 9 + 1, none⟩)) rfl (by kernel_rfl) (by kernel_rfl) (by kernel_rfl) (fun _ _ _ h => h) (.inl ⟨by kernel_rfl, fun _ _ => by go_simp⟩) hS0 ?_
      refine wpAnyH_take (i := 5) (v := .agg #[.int .i64 rad.a0, .int .i64 rad.a1, .int .i64 rad.a2, .int .i64 rad.a3, .int .i64 rad.a4, .int .i64 rad.a5, .int .i64 rad.a6, .int .i64 rad.a7]) rfl (by kernel_rfl) (by kernel_rfl) (by kernel_rfl) (fun _ _ _ h => h) (.inl ⟨by kernel_rfl, fun W hW => by (have e1 := hW _ _ hnb p1; have e2 := hW _ _ hnb p2; have e3 := hW _ _ hnb p3; have e4 := hW _ _ hnb p4; have e5 := hW _ _ hnb p5; have e6 := hW _ _ hnb p6; have e7 := hW _ _ hnb p7; have e8 := hW _ _ hnb p8; go_simp)⟩) hS0 ?_
      refine wpAnyH_take (i := 6) (v := .int .i64 T) rfl (by kernel_rfl) (by kernel_rfl) (by kernel_rfl) (fun _ _ _ h => h) (.inl ⟨by kernel_rfl, fun _ _ => by go_simp⟩) hS0 ?_
      refine wpAnyH_take (i := 7) (v := .slice (some ⟨b, o, none⟩) ws.length c) rfl (by kernel_rfl) (by kernel_rfl) (by kernel_rfl) (fun _ _ _ h => h) (.inl ⟨by kernel_rfl, fun _ _ => by go_simp⟩) hS0 ?_
      refine wpAnyH_take (i := 8) (v := .int .i64 t) rfl (by kernel_rfl) (by kernel_rfl) (by kernel_rfl) (fun _ _ _ h => h) (.inl ⟨by kernel_rfl, fun _ _ => by go_simp⟩) hS0 ?_
      refine wpAnyH_take (i := 9) (v := .pointer (some ⟨b, o + t * 9, none⟩)) rfl (by kernel_rfl) (by kernel_rfl) (by kernel_rfl) (fun _ _ _ h => h) (.inl ⟨by kernel_rfl, fun _ _ => by go_simp⟩) hS0 ?_
      refine wpAnyH_take (i := 10) (v := .pointer (some ⟨b, o + t * 9, none⟩)) rfl (by kernel_rfl) (by kernel_rfl) (by kernel_rfl) (fun _ _ _ h => h) (.inl ⟨by kernel_rfl, fun _ _ => by go_simp⟩) hS0 ?_
      refine wpAnyH_take (i := 11) (v := .int .i64 s) rfl (by kernel_rfl) (by kernel_rfl) (by kernel_rfl) (fun _ _ _ h => h) (.inl ⟨by kernel_rfl, fun W hW => by (have e0 := hW _ _ hnb p0; go_simp)⟩) hS0 ?_
      refine wpAnyH_take (i := 12) (v := .int .i64 P) rfl (by kernel_rfl) (by kernel_rfl) (by kernel_rfl) (fun _ _ _ h => h) (.inl ⟨by kernel_rfl, fun _ _ => by go_simp⟩) hS0 ?_
      refine wpAnyH_all (rs := [0, 13]) (by kernel_rfl) (by simp) (List.forall_mem_cons.2 ⟨?_, List.forall_mem_cons.2 ⟨?_, List.forall_mem_nil _⟩⟩)
      · refine opH_run (v := .agg #[.int .i64 d.a0, .int .i64 d.a1, .int .i64 d.a2, .int .i64 d.a3, .int .i64 d.a4, .int .i64 d.a5, .int .i64 d.a6, .int .i64 d.a7]) (w' := v0) rfl (by kernel_rfl) (by have e0 := kept_cell G0 c0; have e1 := kept_cell G0 c1; have e2 := kept_cell G0 c2; have e3 := kept_cell G0 c3; have e4 := kept_cell G0 c4; have e5 := kept_cell G0 c5; have e6 := kept_cell G0 c6; have e7 := kept_cell G0 c7; go_simp) ?_
        refine ⟨hS0, ?_⟩
        refine wpAnyH_all (rs := [13]) (by kernel_rfl) (by simp) (List.forall_mem_cons.2 ⟨?_, List.forall_mem_nil _⟩)
        refine opH_call (f := 121) rfl (by kernel_rfl) (by first | (go_simp; done) | (go_simp; exact ⟨rfl, rfl⟩) | (go_simp; (repeat' constructor))) (hmod.out _) ?_
        rintro e u ⟨m, rfl, hm, hu⟩
        subst hu
        refine ⟨_, rfl, hS0, ?_⟩
        refine wpAnyH_all (rs := [14]) (by kernel_rfl) (by simp) (List.forall_mem_cons.2 ⟨?_, List.forall_mem_nil _⟩)
        refine opH_call (f := 119) rfl (by kernel_rfl) (by first | (go_simp; done) | (go_simp; exact ⟨rfl, rfl⟩) | (go_simp; (repeat' constructor))) (hturn.out _ _ hm) ?_
        rintro e v1 ⟨d2, rfl, hbk⟩
        have G1 := kept_trans G0 hbk
        clear hbk
        have hS1 : ∀ (a : Addr) (u : Value), (some a.block : Option Nat) ≠ some (w.heap.size + 1) → wr.cell? a = some u → v1.cell? a = some u := fun a u _ h => kept_cell G1 h
        refine ⟨_, rfl, hS1, ?_⟩
        rw [val_spell d2]
        refine wpAnyH_all (rs := [15]) (by kernel_rfl) (by simp) (List.forall_mem_cons.2 ⟨?_, List.forall_mem_nil _⟩)
        refine opH_call (f := 120) rfl (by kernel_rfl) (by first | (go_simp; done) | (go_simp; exact ⟨rfl, rfl⟩) | (go_simp; (repeat' constructor))) (hsum.out _ _) ?_
        rintro e v2 ⟨d3, rfl, hbk⟩
        have G2 := kept_trans G1 hbk
        clear hbk
        have hS2 : ∀ (a : Addr) (u : Value), (some a.block : Option Nat) ≠ some (w.heap.size + 1) → wr.cell? a = some u → v2.cell? a = some u := fun a u _ h => kept_cell G2 h
        refine ⟨_, rfl, hS2, ?_⟩
        rw [val_spell d3]
        refine wpAnyH_all (rs := [16]) (by kernel_rfl) (by simp) (List.forall_mem_cons.2 ⟨?_, List.forall_mem_nil _⟩)
        have K5 := blk_kept H50.out G2
        obtain ⟨g0, g1, g2, g3, g4, g5, g6, g7⟩ := blk_frees K5
        refine opH_store (w' := ((((((((v2.setCell ⟨w.heap.size + 1, 0, none⟩ (.int .i64 d3.a0)).setCell ⟨w.heap.size + 1, 1, none⟩ (.int .i64 d3.a1)).setCell ⟨w.heap.size + 1, 2, none⟩ (.int .i64 d3.a2)).setCell ⟨w.heap.size + 1, 3, none⟩ (.int .i64 d3.a3)).setCell ⟨w.heap.size + 1, 4, none⟩ (.int .i64 d3.a4)).setCell ⟨w.heap.size + 1, 5, none⟩ (.int .i64 d3.a5)).setCell ⟨w.heap.size + 1, 6, none⟩ (.int .i64 d3.a6)).setCell ⟨w.heap.size + 1, 7, none⟩ (.int .i64 d3.a7))) rfl (by kernel_rfl) (by have e0 := kept_cell G2 c0; have e1 := kept_cell G2 c1; have e2 := kept_cell G2 c2; have e3 := kept_cell G2 c3; have e4 := kept_cell G2 c4; have e5 := kept_cell G2 c5; have e6 := kept_cell G2 c6; have e7 := kept_cell G2 c7; go_simp) ?_
        have hS9 : ∀ (a : Addr) (u : Value), (some a.block : Option Nat) ≠ some (w.heap.size + 1) → wr.cell? a = some u → ((((((((v2.setCell ⟨w.heap.size + 1, 0, none⟩ (.int .i64 d3.a0)).setCell ⟨w.heap.size + 1, 1, none⟩ (.int .i64 d3.a1)).setCell ⟨w.heap.size + 1, 2, none⟩ (.int .i64 d3.a2)).setCell ⟨w.heap.size + 1, 3, none⟩ (.int .i64 d3.a3)).setCell ⟨w.heap.size + 1, 4, none⟩ (.int .i64 d3.a4)).setCell ⟨w.heap.size + 1, 5, none⟩ (.int .i64 d3.a5)).setCell ⟨w.heap.size + 1, 6, none⟩ (.int .i64 d3.a6)).setCell ⟨w.heap.size + 1, 7, none⟩ (.int .i64 d3.a7)).cell? a = some u := fun a u hne h => (set8_grown v2 (w.heap.size + 1) d3).cell (hS2 a u hne h) hne
        refine ⟨hS9, ?_⟩
        refine wpAnyH_done (by kernel_rfl) ?_ _
        go_simp
        have HB := hide (kept_set8 (kept_trans hb G2) (g := w.heap.size + 1) (by omega) d3)
        have K5b := hide (blk_set8 K5 d3)
        have K4b := hide (blk_set8_other (blk_kept H40.out G2) d3 (show w.heap.size ≠ w.heap.size + 1 by omega))
        clear hS9
        go_wp2_with fail
        go_roundw
        case rel => exact ⟨t + 1, d3, by omega, by go_num, K4b.out, K5b.out, HB.out⟩
        case measure => simp [intOf]; omega
      · refine opH_call (f := 121) rfl (by kernel_rfl) (by first | (go_simp; done) | (go_simp; exact ⟨rfl, rfl⟩) | (go_simp; (repeat' constructor))) (hmod.out _) ?_
        rintro e u ⟨m, rfl, hm, hu⟩
        subst hu
        refine ⟨_, rfl, hS0, ?_⟩
        refine wpAnyH_all (rs := [0, 14]) (by kernel_rfl) (by simp) (List.forall_mem_cons.2 ⟨?_, List.forall_mem_cons.2 ⟨?_, List.forall_mem_nil _⟩⟩)
        · refine opH_run (v := .agg #[.int .i64 d.a0, .int .i64 d.a1, .int .i64 d.a2, .int .i64 d.a3, .int .i64 d.a4, .int .i64 d.a5, .int .i64 d.a6, .int .i64 d.a7]) (w' := v0) rfl (by kernel_rfl) (by have e0 := kept_cell G0 c0; have e1 := kept_cell G0 c1; have e2 := kept_cell G0 c2; have e3 := kept_cell G0 c3; have e4 := kept_cell G0 c4; have e5 := kept_cell G0 c5; have e6 := kept_cell G0 c6; have e7 := kept_cell G0 c7; go_simp) ?_
          refine ⟨hS0, ?_⟩
          refine wpAnyH_all (rs := [14]) (by kernel_rfl) (by simp) (List.forall_mem_cons.2 ⟨?_, List.forall_mem_nil _⟩)
          refine opH_call (f := 119) rfl (by kernel_rfl) (by first | (go_simp; done) | (go_simp; exact ⟨rfl, rfl⟩) | (go_simp; (repeat' constructor))) (hturn.out _ _ hm) ?_
          rintro e v1 ⟨d2, rfl, hbk⟩
          have G1 := kept_trans G0 hbk
          clear hbk
          have hS1 : ∀ (a : Addr) (u : Value), (some a.block : Option Nat) ≠ some (w.heap.size + 1) → wr.cell? a = some u → v1.cell? a = some u := fun a u _ h => kept_cell G1 h
          refine ⟨_, rfl, hS1, ?_⟩
          rw [val_spell d2]
          refine wpAnyH_all (rs := [15]) (by kernel_rfl) (by simp) (List.forall_mem_cons.2 ⟨?_, List.forall_mem_nil _⟩)
          refine opH_call (f := 120) rfl (by kernel_rfl) (by first | (go_simp; done) | (go_simp; exact ⟨rfl, rfl⟩) | (go_simp; (repeat' constructor))) (hsum.out _ _) ?_
          rintro e v2 ⟨d3, rfl, hbk⟩
          have G2 := kept_trans G1 hbk
          clear hbk
          have hS2 : ∀ (a : Addr) (u : Value), (some a.block : Option Nat) ≠ some (w.heap.size + 1) → wr.cell? a = some u → v2.cell? a = some u := fun a u _ h => kept_cell G2 h
          refine ⟨_, rfl, hS2, ?_⟩
          rw [val_spell d3]
          refine wpAnyH_all (rs := [16]) (by kernel_rfl) (by simp) (List.forall_mem_cons.2 ⟨?_, List.forall_mem_nil _⟩)
          have K5 := blk_kept H50.out G2
          obtain ⟨g0, g1, g2, g3, g4, g5, g6, g7⟩ := blk_frees K5
          refine opH_store (w' := ((((((((v2.setCell ⟨w.heap.size + 1, 0, none⟩ (.int .i64 d3.a0)).setCell ⟨w.heap.size + 1, 1, none⟩ (.int .i64 d3.a1)).setCell ⟨w.heap.size + 1, 2, none⟩ (.int .i64 d3.a2)).setCell ⟨w.heap.size + 1, 3, none⟩ (.int .i64 d3.a3)).setCell ⟨w.heap.size + 1, 4, none⟩ (.int .i64 d3.a4)).setCell ⟨w.heap.size + 1, 5, none⟩ (.int .i64 d3.a5)).setCell ⟨w.heap.size + 1, 6, none⟩ (.int .i64 d3.a6)).setCell ⟨w.heap.size + 1, 7, none⟩ (.int .i64 d3.a7))) rfl (by kernel_rfl) (by have e0 := kept_cell G2 c0; have e1 := kept_cell G2 c1; have e2 := kept_cell G2 c2; have e3 := kept_cell G2 c3; have e4 := kept_cell G2 c4; have e5 := kept_cell G2 c5; have e6 := kept_cell G2 c6; have e7 := kept_cell G2 c7; go_simp) ?_
          have hS9 : ∀ (a : Addr) (u : Value), (some a.block : Option Nat) ≠ some (w.heap.size + 1) → wr.cell? a = some u → ((((((((v2.setCell ⟨w.heap.size + 1, 0, none⟩ (.int .i64 d3.a0)).setCell ⟨w.heap.size + 1, 1, none⟩ (.int .i64 d3.a1)).setCell ⟨w.heap.size + 1, 2, none⟩ (.int .i64 d3.a2)).setCell ⟨w.heap.size + 1, 3, none⟩ (.int .i64 d3.a3)).setCell ⟨w.heap.size + 1, 4, none⟩ (.int .i64 d3.a4)).setCell ⟨w.heap.size + 1, 5, none⟩ (.int .i64 d3.a5)).setCell ⟨w.heap.size + 1, 6, none⟩ (.int .i64 d3.a6)).setCell ⟨w.heap.size + 1, 7, none⟩ (.int .i64 d3.a7)).cell? a = some u := fun a u hne h => (set8_grown v2 (w.heap.size + 1) d3).cell (hS2 a u hne h) hne
          refine ⟨hS9, ?_⟩
          refine wpAnyH_done (by kernel_rfl) ?_ _
          go_simp
          have HB := hide (kept_set8 (kept_trans hb G2) (g := w.heap.size + 1) (by omega) d3)
          have K5b := hide (blk_set8 K5 d3)
          have K4b := hide (blk_set8_other (blk_kept H40.out G2) d3 (show w.heap.size ≠ w.heap.size + 1 by omega))
          clear hS9
          go_wp2_with fail
          go_roundw
          case rel => exact ⟨t + 1, d3, by omega, by go_num, K4b.out, K5b.out, HB.out⟩
          case measure => simp [intOf]; omega
        · refine opH_call (f := 119) rfl (by kernel_rfl) (by first | (go_simp; done) | (go_simp; exact ⟨rfl, rfl⟩) | (go_simp; (repeat' constructor))) (hturn.out _ _ hm) ?_
          rintro e v1 ⟨d2, rfl, hbk⟩
          have G1 := kept_trans G0 hbk
          clear hbk
          have hS1 : ∀ (a : Addr) (u : Value), (some a.block : Option Nat) ≠ some (w.heap.size + 1) → wr.cell? a = some u → v1.cell? a = some u := fun a u _ h => kept_cell G1 h
          refine ⟨_, rfl, hS1, ?_⟩
          rw [val_spell d2]
          refine wpAnyH_all (rs := [0]) (by kernel_rfl) (by simp) (List.forall_mem_cons.2 ⟨?_, List.forall_mem_nil _⟩)
          refine opH_run (v := .agg #[.int .i64 d.a0, .int .i64 d.a1, .int .i64 d.a2, .int .i64 d.a3, .int .i64 d.a4, .int .i64 d.a5, .int .i64 d.a6, .int .i64 d.a7]) (w' := v1) rfl (by kernel_rfl) (by have e0 := kept_cell G1 c0; have e1 := kept_cell G1 c1; have e2 := kept_cell G1 c2; have e3 := kept_cell G1 c3; have e4 := kept_cell G1 c4; have e5 := kept_cell G1 c5; have e6 := kept_cell G1 c6; have e7 := kept_cell G1 c7; go_simp) ?_
          refine ⟨hS1, ?_⟩
          refine wpAnyH_all (rs := [15]) (by kernel_rfl) (by simp) (List.forall_mem_cons.2 ⟨?_, List.forall_mem_nil _⟩)
          refine opH_call (f := 120) rfl (by kernel_rfl) (by first | (go_simp; done) | (go_simp; exact ⟨rfl, rfl⟩) | (go_simp; (repeat' constructor))) (hsum.out _ _) ?_
          rintro e v2 ⟨d3, rfl, hbk⟩
          have G2 := kept_trans G1 hbk
          clear hbk
          have hS2 : ∀ (a : Addr) (u : Value), (some a.block : Option Nat) ≠ some (w.heap.size + 1) → wr.cell? a = some u → v2.cell? a = some u := fun a u _ h => kept_cell G2 h
          refine ⟨_, rfl, hS2, ?_⟩
          rw [val_spell d3]
          refine wpAnyH_all (rs := [16]) (by kernel_rfl) (by simp) (List.forall_mem_cons.2 ⟨?_, List.forall_mem_nil _⟩)
          have K5 := blk_kept H50.out G2
          obtain ⟨g0, g1, g2, g3, g4, g5, g6, g7⟩ := blk_frees K5
          refine opH_store (w' := ((((((((v2.setCell ⟨w.heap.size + 1, 0, none⟩ (.int .i64 d3.a0)).setCell ⟨w.heap.size + 1, 1, none⟩ (.int .i64 d3.a1)).setCell ⟨w.heap.size + 1, 2, none⟩ (.int .i64 d3.a2)).setCell ⟨w.heap.size + 1, 3, none⟩ (.int .i64 d3.a3)).setCell ⟨w.heap.size + 1, 4, none⟩ (.int .i64 d3.a4)).setCell ⟨w.heap.size + 1, 5, none⟩ (.int .i64 d3.a5)).setCell ⟨w.heap.size + 1, 6, none⟩ (.int .i64 d3.a6)).setCell ⟨w.heap.size + 1, 7, none⟩ (.int .i64 d3.a7))) rfl (by kernel_rfl) (by have e0 := kept_cell G2 c0; have e1 := kept_cell G2 c1; have e2 := kept_cell G2 c2; have e3 := kept_cell G2 c3; have e4 := kept_cell G2 c4; have e5 := kept_cell G2 c5; have e6 := kept_cell G2 c6; have e7 := kept_cell G2 c7; go_simp) ?_
          have hS9 : ∀ (a : Addr) (u : Value), (some a.block : Option Nat) ≠ some (w.heap.size + 1) → wr.cell? a = some u → ((((((((v2.setCell ⟨w.heap.size + 1, 0, none⟩ (.int .i64 d3.a0)).setCell ⟨w.heap.size + 1, 1, none⟩ (.int .i64 d3.a1)).setCell ⟨w.heap.size + 1, 2, none⟩ (.int .i64 d3.a2)).setCell ⟨w.heap.size + 1, 3, none⟩ (.int .i64 d3.a3)).setCell ⟨w.heap.size + 1, 4, none⟩ (.int .i64 d3.a4)).setCell ⟨w.heap.size + 1, 5, none⟩ (.int .i64 d3.a5)).setCell ⟨w.heap.size + 1, 6, none⟩ (.int .i64 d3.a6)).setCell ⟨w.heap.size + 1, 7, none⟩ (.int .i64 d3.a7)).cell? a = some u := fun a u hne h => (set8_grown v2 (w.heap.size + 1) d3).cell (hS2 a u hne h) hne
          refine ⟨hS9, ?_⟩
          refine wpAnyH_done (by kernel_rfl) ?_ _
          go_simp
          have HB := hide (kept_set8 (kept_trans hb G2) (g := w.heap.size + 1) (by omega) d3)
          have K5b := hide (blk_set8 K5 d3)
          have K4b := hide (blk_set8_other (blk_kept H40.out G2) d3 (show w.heap.size ≠ w.heap.size + 1 by omega))
          clear hS9
          go_wp2_with fail
          go_roundw
          case rel => exact ⟨t + 1, d3, by omega, by go_num, K4b.out, K5b.out, HB.out⟩
          case measure => simp [intOf]; omega
    · obtain rfl : t = ws.length := by omega
      obtain ⟨p0, p1, p2, p3, p4, p5, p6, p7⟩ := blk_cells h5
      obtain ⟨r0, r1, r2, r3, r4, r5, r6, r7⟩ := blk_cells h4
      obtain ⟨f0, f1, f2, f3, f4, f5, f6, f7⟩ := blk_frees h4
      have hZ := hide (blk_set8 h4 d)
      have hB := hide (kept_set8 hb (g := w.heap.size) (Nat.le_refl _) d)
      simp only [zero8] at r0 r1 r2 r3 r4 r5 r6 r7
      clear h4 h5 hb hc
      go_wp2_with fail
      change bodyPost _ _ _ _ _ (set8w wr w.heap.size d)
      generalize set8w wr w.heap.size d = wz at *
      obtain ⟨z0, z1, z2, z3, z4, z5, z6, z7⟩ := blk_cells hZ.out
      exact bodyPost_ret (v := d.val) (by simp [results, Try.results111, go_sem, val_spell, z0, z1, z2, z3, z4, z5, z6, z7]) rfl ⟨_, rfl, hB.out⟩

end Go.Proofs.Ytnlmiemnblppbaa
