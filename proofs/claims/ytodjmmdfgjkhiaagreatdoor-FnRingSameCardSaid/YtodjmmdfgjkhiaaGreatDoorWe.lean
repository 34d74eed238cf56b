/-
  DesignFaster, of the program and of the reference.
-/
import Derived.Test.YtodjmmdfgjkhiaaGreatDoorWch
namespace Go.Proofs.YtodjmmdfgjkhiaaGreatDoor
open Go.RowKit
attribute [local go_sem ↓] Go.wp_at_zero Go.wp_at_succ

theorem mod0_ok (w : World) : Calls Tryz.prog 51 #[.int .i64 0] w fun e w' => e = .returned (.int .i64 0) ∧ w = w' := by
  go_enter Tryz.func51, Tryz.ntmps51
  go_wp2_with fail
  go_ret
  exact ⟨rfl, rfl⟩

theorem is0_ok (w : World) : Calls Tryz.prog 48 #[.int .i64 0] w fun e w' => e = .returned (.bool true) ∧ w = w' := by
  go_enter Tryz.func48, Tryz.ntmps48
  go_wp2_with fail
  refine (l6In_t _ _ _ _ (by decide) (by decide)).mono ?_
  rintro e w' ⟨rfl, rfl⟩
  go_wp2_with fail
  go_ret
  exact ⟨rfl, rfl⟩

theorem turned0_ok (x : C8) (w : World) : Calls Tryz.prog 50 #[x.val, .int .i64 0] w fun e w' => e = .returned x.val ∧ Below w.heap.size w w' := by
  rw [val_spell]
  go_enter Tryz.func50, Tryz.ntmps50
  go_wp2_with fail
  refine wp_loop_rounds 1 ?_; rw [rounds_succ]
  go_wp2_with fail
  exact bodyPost_ret (v := .agg #[.int .i64 x.a0, .int .i64 x.a1, .int .i64 x.a2, .int .i64 x.a3, .int .i64 x.a4, .int .i64 x.a5, .int .i64 x.a6, .int .i64 x.a7]) (by simp [results, Tryz.results50, go_sem]) rfl ⟨rfl, kept_alloc (kept_new _ _) _⟩

def fastW (n : Int) (x : W9) : W9 := ⟨n * x.s, x.c⟩
def fasterRes (n : Int) (ws : List W9) : List W9 × Bool := if -20 ≤ n ∧ n ≤ 20 then changeRes (fastW n) ws else ([], false)

theorem fast_bd {n : Int} {x : W9} (hn : -20 ≤ n ∧ n ≤ 20) (hx : x.okB = true) : -20000 ≤ n * x.s ∧ n * x.s ≤ 20000 := by
  obtain ⟨h1, h2, _⟩ := okB_t hx
  have ha : (n * x.s).natAbs = n.natAbs * x.s.natAbs := Int.natAbs_mul _ _
  have hb : n.natAbs * x.s.natAbs ≤ 20 * 1000 := Nat.mul_le_mul (by omega) (by omega)
  omega

set_option maxRecDepth 100000 in
set_option maxHeartbeats 4000000 in
theorem each_ok (n : Int) (v : Value) (ws : List W9) (w : World) (hr : Reads w 9 v ws.length (wlCells ws)) (hn : ws.length ≤ 1048576) (hn20 : -20 ≤ n ∧ n ≤ 20) :
    Calls Tryz.prog 27 #[v, .int .i64 n, .int .i64 0, .int .i64 0, .bool false] w (WlPost (changeRes (fastW n) ws) w) := by
  obtain ⟨i0, hi, hz0, hz1, hz2⟩ := info_parts Tryz.infoW
  have Hr := hide hr
  obtain ⟨_, hm, A, c, rfl, hc⟩ := hr
  have Hn20 := hide hn20
  clear hn20
  cases hd : designB ws
  · have Hfin : Hid (changeRes (fastW n) ws = ([], false)) := by simp [changeRes, hd, Hid]
    have Hd := hide hd
    clear hd
    go_enter Tryz.func27, Tryz.ntmps27
    go_wp2_with fail
    refine (designSpec_ok _ ws _ Hr.out hn).mono ?_
    rintro e w1 ⟨rfl, hb1⟩
    rw [Hd.out]
    have hem := owns_empty w1 39 9 w.heap.size hb1.size
    go_wp2_with fail
    go_ret2
    exact ⟨_, by rw [Hfin.out]; rfl, by rw [Hfin.out]; exact has_owns hem, kept_alloc hb1 _⟩
  · have Hfin : Hid (changeRes (fastW n) ws = tidyRes (ws.map (fastW n))) := by simp [changeRes, hd, Hid]
    have hl : ws.length ≤ 12 := (designB_small hd).1
    have hok : ∀ y ∈ ws, y.okB = true := by
      simp only [designB, Bool.and_eq_true, decide_eq_true_eq, List.all_eq_true] at hd
      exact hd.2
    have Hok := hide hok
    have Hd := hide hd
    clear hd hok
    go_enter Tryz.func27, Tryz.ntmps27
    go_wp2_with fail
    refine (designSpec_ok _ ws _ Hr.out hn).mono ?_
    rintro e w1 ⟨rfl, hb1⟩
    rw [Hd.out]
    go_wp2_with fail
    refine (is0_ok _).mono ?_
    rintro e w1' ⟨rfl, rfl⟩
    go_wp2_with fail
    refine (is0_ok _).mono ?_
    rintro e w1' ⟨rfl, rfl⟩
    have Ho0 := hide (owns_empty w1 39 9 w.heap.size hb1.size)
    have Hb0 := hide (kept_alloc hb1 (.cells #[] 39))
    clear hb1
    go_wp2_with fail
    go_loopw [12, 13, 14] (fun v i _ wr => ∃ (t g cap : Nat), t ≤ ws.length ∧ i = .int .i64 t ∧ v = .slice (some ⟨g, 0, none⟩) t cap ∧ wr.ownsRow w.heap.size 39 9 (.slice (some ⟨g, 0, none⟩) t cap) t (wlCells ((ws.map (fastW n)).take t)) ∧ Below w.heap.size w wr) (fun _ i _ _ => ws.length - (intOf i).toNat)
    case atStart => exact ⟨0, _, _, by omega, rfl, rfl, by simpa [wlCells] using Ho0.out, Hb0.out⟩
    case round =>
      obtain ⟨t, g, cap, ht, rfl, rfl, ho, hb⟩ := hrel
      clear Ho0 Hb0
      by_cases hlt : t < ws.length
      · obtain ⟨b, o, rfl, hbl, hcell⟩ := hc (by omega) (by omega)
        have hA := wl_cells (below_cells hb hbl hcell) t hlt
        have hA0 := (wl_cells hcell t hlt).1
        have Hs := hide (map_take_succ (fastW n) ws t hlt)
        have hokm := Hok.out _ (List.getElem_mem hlt)
        clear hcell hc
        generalize ws[t] = m at hA hA0 Hs hokm
        have hqb := fast_bd Hn20.out hokm
        have hms : -1000 ≤ m.s ∧ m.s ≤ 1000 := by have := okB_t hokm; exact ⟨this.1, this.2.1⟩
        obtain ⟨q, hq⟩ : ∃ q, q = n * m.s := ⟨_, rfl⟩
        have Hq0 := hide hq
        have Hq : Hid (IntKind.i64.wrap (n * m.s) = q) := by show _ = _; rw [hq]; exact IntWalk.i64_in _ (by omega)
        have Hms := hide hms
        clear hq hqb hokm hms
        obtain ⟨p0, p1, p2, p3, p4, p5, p6, p7, p8⟩ := hA
        have hbw : b < wr.heap.size := Nat.lt_of_lt_of_le hbl hb.size
        have hgw : w.heap.size ≤ g ∧ g < wr.heap.size := ho.lt g rfl
        have hk1 := kept_new wr (.cells m.c.arr 37)
        have hbx := blk_new wr m.c 37
        obtain ⟨r0, r1, r2, r3, r4, r5, r6, r7⟩ := blk_cells hbx
        have ho1 := owns_kept ho hk1
        have hbB := kept_trans hb hk1
        have hblkR := hbx
        clear hbx hk1 ho hb
        have i1 : (0 : Int) ≤ (t : Int) := by omega
        have i2 : (t : Int) < (ws.length : Int) := by omega
        unfold C8.arr at r0 r1 r2 r3 r4 r5 r6 r7 ho1 hbB hblkR
        go_wp2_with fail
        generalize wr.alloc (.cells #[.int .i64 m.c.a0, .int .i64 m.c.a1, .int .i64 m.c.a2, .int .i64 m.c.a3, .int .i64 m.c.a4, .int .i64 m.c.a5, .int .i64 m.c.a6, .int .i64 m.c.a7] 37) = w2 at ho1 hbB hblkR ⊢
        clear p0 p1 p2 p3 p4 p5 p6 p7 p8 r0 r1 r2 r3 r4 r5 r6 r7
        have p0 := hA0
        clear hA0
        have iz : IntKind.i64.wrap 0 = 0 := by decide
        generalize wr.heap.size = R at *
        have hS0 : Below w.heap.size w w2.drew ∧ Blk w2.drew R 37 m.c := ⟨hbB.drew, blk_drew hblkR⟩
        have ho0 := ho1.drew
        refine wp_region_held (S := fun W => Below w.heap.size w W ∧ Blk W R 37 m.c) (by kernel_rfl) ?_
        change wpAnyH _ _ _ _ _ _ _ _ w2.drew
        --R10
        refine wpAnyH_take (i := 0) (v := .slice (some ⟨g, 0, none⟩) t cap) rfl (by kernel_rfl) (by kernel_rfl) (by kernel_rfl) (fun _ _ _ h => h) (.inl ⟨by kernel_rfl, fun _ _ => by go_simp⟩) hS0 ?_
        refine wpAnyH_take (i := 1) (v := .int .i64 n) rfl (by kernel_rfl) (by kernel_rfl) (by kernel_rfl) (fun _ _ _ h => h) (.inl ⟨by kernel_rfl, fun _ _ => by go_simp⟩) hS0 ?_
        refine wpAnyH_take (i := 2) (v := .slice (some ⟨b, o, none⟩) ws.length c) rfl (by kernel_rfl) (by kernel_rfl) (by kernel_rfl) (fun _ _ _ h => h) (.inl ⟨by kernel_rfl, fun _ _ => by go_simp⟩) hS0 ?_
        refine wpAnyH_take (i := 3) (v := .int .i64 t) rfl (by kernel_rfl) (by kernel_rfl) (by kernel_rfl) (fun _ _ _ h => h) (.inl ⟨by kernel_rfl, fun _ _ => by go_simp⟩) hS0 ?_
        refine wpAnyH_take (i := 4) (v := .pointer (some ⟨b, o + t * 9, none⟩)) rfl (by kernel_rfl) (by kernel_rfl) (by kernel_rfl) (fun _ _ _ h => h) (.inl ⟨by kernel_rfl, fun _ _ => by go_simp⟩) hS0 ?_
        refine wpAnyH_take (i := 5) (v := .pointer (some ⟨b, o + t * 9, none⟩)) rfl (by kernel_rfl) (by kernel_rfl) (by kernel_rfl) (fun _ _ _ h => h) (.inl ⟨by kernel_rfl, fun _ _ => by go_simp⟩) hS0 ?_
        refine wpAnyH_take (i := 6) (v := .int .i64 m.s) rfl (by kernel_rfl) (by kernel_rfl) (by kernel_rfl) (fun _ _ _ h => h) (.inl ⟨by kernel_rfl, fun W hW => by (have c0 := kept_cell hW.1 p0; go_simp)⟩) hS0 ?_
        refine wpAnyH_take (i := 7) (v := .int .i64 q) rfl (by kernel_rfl) (by kernel_rfl) (by kernel_rfl) (fun _ _ _ h => h) (.inl ⟨by kernel_rfl, fun W hW => by (have hq := Hq.out; go_simp)⟩) hS0 ?_
        refine wpAnyH_take (i := 8) (v := .agg #[.int .i64 m.c.a0, .int .i64 m.c.a1, .int .i64 m.c.a2, .int .i64 m.c.a3, .int .i64 m.c.a4, .int .i64 m.c.a5, .int .i64 m.c.a6, .int .i64 m.c.a7]) rfl (by kernel_rfl) (by kernel_rfl) (by kernel_rfl) (fun _ _ _ h => h) (.inl ⟨by kernel_rfl, fun W hW => by (obtain ⟨c0, c1, c2, c3, c4, c5, c6, c7⟩ := blk_cells hW.2; go_simp)⟩) hS0 ?_
        refine wpAnyH_take (i := 9) (v := .int .i64 0) rfl (by kernel_rfl) (by kernel_rfl) (by kernel_rfl) (fun _ _ _ h => h) (.inl ⟨by kernel_rfl, fun _ _ => by go_simp⟩) hS0 ?_
        refine wpAnyH_take (i := 10) (v := .int .i64 0) rfl (by kernel_rfl) (by kernel_rfl) (by kernel_rfl) (fun _ _ _ h => h) (.inl ⟨by kernel_rfl, fun _ _ => by go_simp⟩) hS0 ?_
        refine wpAnyH_take (i := 11) (v := .slice (some ⟨b, o, none⟩) ws.length c) rfl (by kernel_rfl) (by kernel_rfl) (by kernel_rfl) (fun _ _ _ h => h) (.inl ⟨by kernel_rfl, fun _ _ => by go_simp⟩) hS0 ?_
        refine wpAnyH_take (i := 12) (v := .int .i64 t) rfl (by kernel_rfl) (by kernel_rfl) (by kernel_rfl) (fun _ _ _ h => h) (.inl ⟨by kernel_rfl, fun _ _ => by go_simp⟩) hS0 ?_
        refine wpAnyH_take (i := 13) (v := .pointer (some ⟨b, o + t * 9, none⟩)) rfl (by kernel_rfl) (by kernel_rfl) (by kernel_rfl) (fun _ _ _ h => h) (.inl ⟨by kernel_rfl, fun _ _ => by go_simp⟩) hS0 ?_
        refine wpAnyH_take (i := 14) (v := .pointer (some ⟨b, o + t * 9, none⟩)) rfl (by kernel_rfl) (by kernel_rfl) (by kernel_rfl) (fun _ _ _ h => h) (.inl ⟨by kernel_rfl, fun _ _ => by go_simp⟩) hS0 ?_
        refine wpAnyH_take (i := 15) (v := .int .i64 m.s) rfl (by kernel_rfl) (by kernel_rfl) (by kernel_rfl) (fun _ _ _ h => h) (.inl ⟨by kernel_rfl, fun W hW => by (have c0 := kept_cell hW.1 p0; go_simp)⟩) hS0 ?_
        refine wpAnyH_take (i := 16) (v := .int .i64 0) rfl (by kernel_rfl) (by kernel_rfl) (by kernel_rfl) (fun _ _ _ h => h) (.inl ⟨by kernel_rfl, fun _ _ => by go_simp⟩) hS0 ?_
        refine wpAnyH_take (i := 17) (v := .int .i64 0) rfl (by kernel_rfl) (by kernel_rfl) (by kernel_rfl) (fun _ _ _ h => h) (.inl ⟨by kernel_rfl, fun _ _ => by go_simp⟩) hS0 ?_
        refine wpAnyH_all (rs := [18]) (by kernel_rfl) (by simp) (List.forall_mem_cons.2 ⟨?_, List.forall_mem_nil _⟩)
        refine opH_call (f := 51) rfl (by kernel_rfl) (by go_simp) (mod0_ok _) ?_
        rintro e w3 ⟨rfl, rfl⟩
        refine ⟨_, rfl, hS0, ?_⟩
        refine wpAnyH_all (rs := [19]) (by kernel_rfl) (by simp) (List.forall_mem_cons.2 ⟨?_, List.forall_mem_nil _⟩)
        refine opH_call (f := 50) rfl (by kernel_rfl) (by go_simp; rfl) (turned0_ok m.c _) ?_
        rintro e w4 ⟨rfl, hb4⟩
        have hS4 := And.intro (kept_trans hS0.1 hb4) (blk_kept hS0.2 hb4)
        have ho4 := owns_kept ho0 hb4
        rw [val_spell]
        refine ⟨_, rfl, hS4, ?_⟩
        refine wpAnyH_take (i := 20) (v := .agg #[.int .i64 q, .int .i64 m.c.a0, .int .i64 m.c.a1, .int .i64 m.c.a2, .int .i64 m.c.a3, .int .i64 m.c.a4, .int .i64 m.c.a5, .int .i64 m.c.a6, .int .i64 m.c.a7]) rfl (by kernel_rfl) (by kernel_rfl) (by kernel_rfl) (fun _ _ _ h => h) (.inl ⟨by kernel_rfl, fun _ _ => by go_simp⟩) hS4 ?_
        refine wpAnyH_all (rs := [21]) (by kernel_rfl) (by simp) (List.forall_mem_cons.2 ⟨?_, List.forall_mem_nil _⟩)
        refine opH_run (v := .slice (some ⟨w4.heap.size, 0, none⟩) 1 1) (w' := w4.alloc (.cells (⟨q, m.c⟩ : W9).arr 39)) rfl (by kernel_rfl) (by unfold W9.arr; go_simp) ?_
        have news1 := news_new w4 (⟨q, m.c⟩ : W9).arr 39
        have hS5 := And.intro (kept_alloc hS4.1 (.cells (⟨q, m.c⟩ : W9).arr 39)) (blk_alloc hS4.2 (.cells (⟨q, m.c⟩ : W9).arr 39))
        have ho5 := owns_kept ho4 (kept_new w4 (.cells (⟨q, m.c⟩ : W9).arr 39))
        generalize w4.heap.size = b1 at *
        generalize w4.alloc (.cells (⟨q, m.c⟩ : W9).arr 39) = w5 at *
        refine ⟨hS5, ?_⟩
        refine wpAnyH_all (rs := [22]) (by kernel_rfl) (by simp) (List.forall_mem_cons.2 ⟨?_, List.forall_mem_nil _⟩)
        refine opH rfl (by kernel_rfl) ?_
        refine wp_append_any (.tmp 44) (.tmp 65) 26 (by rfl) w.heap.size 39 i0 _ 9 72 Tryz.underlying26 hi hz0 hz1 hz2 (by rfl) (by decide) g t cap _ (by go_simp) ho5 ⟨b1, 0, none⟩ 1 1 _ (by go_simp) rfl news1 (cells9_one _) (by omega) (by decide) hS5.1.size (t + 1) rfl _ rfl ?_
        intro g6 cap6 w6 ho6 hgr _ hgb
        have hS6 := And.intro (kept_grown hS5.1 hgr (fun k hk => by cases hk; exact hgw.1)) (blk_grown hS5.2 hgr (by simp; omega))
        refine ⟨hS6, ?_⟩
        refine wpAnyH_take (i := 23) (v := .slice (some ⟨g6, 0, none⟩) (t + 1) cap6) rfl (by kernel_rfl) (by kernel_rfl) (by kernel_rfl) (fun _ _ _ h => h) (.inl ⟨by kernel_rfl, fun _ _ => by go_simp⟩) hS6 ?_
        refine wpAnyH_done (by kernel_rfl) ?_ _
        go_simp
        go_wp2_with fail
        --R10E
        go_roundw
        case rel => exact ⟨t + 1, g6, cap6, by omega, by go_num, rfl, by rw [Hs.out, wlCells_app, wlCells_one1, show fastW n m = ⟨q, m.c⟩ from by rw [Hq0.out]; rfl]; exact ho6, hS6.1⟩
        case measure => simp [intOf]; omega
      · obtain rfl : t = ws.length := by omega
        rw [show (ws.map (fastW n)).take ws.length = ws.map (fastW n) from List.take_of_length_le (by simp)] at ho
        have hbs := hb.size
        have hrd := owns_reads ho
        have hsm : ∀ y ∈ ws.map (fastW n), y.c.smallB 1000000 = true := fun y hy => by
          obtain ⟨x, hx, rfl⟩ := List.mem_map.1 hy
          exact (okB_t (Hok.out x hx)).2.2
        have Hsm := hide hsm
        clear hsm ho
        have hrd2 : Reads wr 9 (.slice (some ⟨g, 0, none⟩) ws.length cap) (ws.map (fastW n)).length (wlCells (ws.map (fastW n))) := by rw [List.length_map]; exact hrd
        have Hrd := hide hrd2
        clear hrd hrd2 hc
        go_wp2_with fail
        refine (l5Tidy_ok _ (ws.map (fastW n)) _ Hrd.out (by rw [List.length_map]; omega) Hsm.out).mono ?_
        rintro e w2 ⟨v2, rfl, hh, hb2⟩
        go_wp2_with fail
        go_ret2
        exact ⟨v2, by rw [Hfin.out]; rfl, by rw [Hfin.out]; exact has_base hh hbs, kept_trans hb hb2⟩

end Go.Proofs.YtodjmmdfgjkhiaaGreatDoor
