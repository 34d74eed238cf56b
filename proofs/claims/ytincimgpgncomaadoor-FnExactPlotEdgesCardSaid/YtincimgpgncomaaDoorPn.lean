/-
  The reference's pen does all steps: l12Run.
-/
import Derived.Test.YtincimgpgncomaaDoorPw
import Derived.Test.YtincimgpgncomaaDoorReg
namespace Go.Proofs.YtincimgpgncomaaDoor
open Go.RowKit

theorem ways_at (W : World) (A : Nat) (hA : W.heap.size = A) (k : Nat) (hk : k < 4) : (W.alloc (.cells #[.int .i64 1, .int .i64 0, .int .i64 0, .int .i64 1, .int .i64 (-1), .int .i64 0, .int .i64 0, .int .i64 (-1)] 30)).cell? ⟨A, k * 2, none⟩ = some (.int .i64 (wayB k).1) ∧
    (W.alloc (.cells #[.int .i64 1, .int .i64 0, .int .i64 0, .int .i64 1, .int .i64 (-1), .int .i64 0, .int .i64 0, .int .i64 (-1)] 30)).cell? ⟨A, k * 2 + 1, none⟩ = some (.int .i64 (wayB k).2) := by
  rw [Lib.cell_of_heap (by rw [← hA]; exact heap_alloc_new W _), Lib.cell_of_heap (by rw [← hA]; exact heap_alloc_new W _)]
  rcases (show k = 0 ∨ k = 1 ∨ k = 2 ∨ k = 3 by omega) with rfl | rfl | rfl | rfl <;> exact ⟨rfl, rfl⟩

set_option maxRecDepth 100000 in
set_option maxHeartbeats 40000000 in
theorem l12Run_ok (v : Value) (o : List UInt8) (w : World) (hr : Reads w 1 v o.length (ones o)) (hl : o.length ≤ 10000) (hst : ∀ b ∈ o, isStepB b) :
    Calls Tryd.prog 47 #[v] w fun e w' => ∃ P, e = .returned (.pointer (some ⟨P, 0, none⟩)) ∧ PenAt w.heap.size P (runB o) w' ∧ Below w.heap.size w w' := by
  obtain ⟨i0, hi, hz0, hz1, hz2⟩ := info_parts Tryd.infoMv
  obtain ⟨j0, hj, hy0, hy1, hy2⟩ := info_parts Tryd.infoEd
  have Hr := hide hr
  obtain ⟨_, hm, A, c, rfl, hc⟩ := hr
  have Hc := hide hc
  have Hst := hide hst
  clear hc hst
  go_enter Tryd.func47, Tryd.ntmps47
  go_wp2_with fail
  have hp0 := pen_new w
  have hb0 : Below w.heap.size w (((w.alloc (.cells #[] 30)).alloc (.cells #[] 62)).alloc (.cells (penCells run0 w.heap.size 0 (w.heap.size + 1) 0) 56)) := kept_alloc (kept_alloc (kept_new _ _) _) _
  generalize hw0 : ((w.alloc (.cells #[] 30)).alloc (.cells #[] 62)).alloc (.cells (penCells run0 w.heap.size 0 (w.heap.size + 1) 0) 56) = w0 at *
  have hw0' : ((w.alloc (.cells #[] 30)).alloc (.cells #[] 62)).alloc (.cells #[.int .i64 0, .int .i64 0, .bool false, .int .i64 0, .slice (some ⟨w.heap.size, 0, none⟩) 0 0, .slice (some ⟨w.heap.size + 1, 0, none⟩) 0 0] 56) = w0 := hw0
  rw [hw0']
  clear hw0 hw0'
  go_loopw [4] (fun i wr => ∃ t : Nat, t ≤ o.length ∧ i = .int .i64 t ∧ PenAt w.heap.size (w.heap.size + 2) (runB (o.take t)) wr ∧ Below w.heap.size w wr) (fun i _ => o.length - (intOf i).toNat)
  case atStart => exact ⟨0, by omega, rfl, hp0, hb0⟩
  case round =>
    obtain ⟨t, ht, rfl, hpen, hb⟩ := hrel
    clear hp0 hb0
    by_cases hlt : t < o.length
    · have hlt' : (t : Int) < (o.length : Int) := by omega
      obtain ⟨bk, of, rfl, hbl, hcell⟩ := Hc.out (by omega) (by omega)
      have h1 := kept_cell hb ((hcell t (by omega)).trans (show (ones o)[t]? = some (.string ⟨#[o[t]]⟩) by simp [ones, hlt]))
      have Hup : Hid (runB (o.take (t + 1)) = stepR (runB (o.take t)) o[t]) := by
        rw [Hid, List.take_succ_eq_append_getElem hlt, runB_snoc]
      have hbs := Hst.out o[t] (List.getElem_mem hlt)
      have hok := runB_ok (o.take t)
      rw [List.length_take] at hok
      have i3 : (0 : Int) ≤ (t : Int) := by omega
      clear hcell
      generalize o[t] = b at h1 Hup hbs
      generalize runB (o.take t) = r at Hup hok hpen
      obtain ⟨gm, cm, ge, ce, hP, hom, hoe, n1, n2, n3⟩ := hpen
      have hgml := (hom.lt gm rfl).2
      have hgel := (hoe.lt ge rfl).2
      have hgmB := (hom.lt gm rfl).1
      have hgeB := (hoe.lt ge rfl).1
      have c0 : wr.cell? ⟨w.heap.size + 2, 0, none⟩ = some (.int .i64 r.x) := by rw [Lib.cell_of_heap hP]; rfl
      have c1 : wr.cell? ⟨w.heap.size + 2, 1, none⟩ = some (.int .i64 r.y) := by rw [Lib.cell_of_heap hP]; rfl
      have c2 : wr.cell? ⟨w.heap.size + 2, 2, none⟩ = some (.bool r.down) := by rw [Lib.cell_of_heap hP]; rfl
      have c3 : wr.cell? ⟨w.heap.size + 2, 3, none⟩ = some (.int .i64 r.turn) := by rw [Lib.cell_of_heap hP]; rfl
      have c4 : wr.cell? ⟨w.heap.size + 2, 4, none⟩ = some (.slice (some ⟨gm, 0, none⟩) r.moves.length cm) := by rw [Lib.cell_of_heap hP]; rfl
      have c5 : wr.cell? ⟨w.heap.size + 2, 5, none⟩ = some (.slice (some ⟨ge, 0, none⟩) r.edges.length ce) := by rw [Lib.cell_of_heap hP]; rfl
      have f2 : wr.frozen? ⟨w.heap.size + 2, 2, none⟩ = false := Lib.frozen_of_heap hP 2
      have f3 : wr.frozen? ⟨w.heap.size + 2, 3, none⟩ = false := Lib.frozen_of_heap hP 3
      obtain ⟨k1, k2, k3, k4, k5, k6, k7⟩ := hok
      have hPlt : w.heap.size + 2 < wr.heap.size := (Array.getElem?_eq_some_iff.1 hP).1
      have hBr0 : w.heap.size ≤ wr.heap.size := hb.size
      have hBP : w.heap.size ≤ w.heap.size + 2 := Nat.le_add_right _ 2
      have hpw : PenW w.heap.size (w.heap.size + 2) (penCells r gm cm ge ce) gm cm r.moves ge ce r.edges [] w wr := ⟨hb, hP, hom, hoe, n1, n2, n3, fun x hx => by cases hx⟩
      go_wp2_with fail
      refine (l12Dir_ok _ b _ (by rw [bytes_list]) hbs).mono ?_
      rintro e w1 ⟨rfl, rfl⟩
      rcases step_dir hbs with rfl | rfl | rfl | ⟨_, b1, b2, b3, d, hd4, hd⟩
      · have t1 : (({ data := #[117] } : ByteArray).toList == [117]) = true := text_is _ _
        have hs : Hid (stepR r 117 = { r with down := false }) := rfl
        clear hbs
        go_wp2_with fail
        go_roundw
        case rel => exact ⟨t + 1, by omega, by go_num, ⟨gm, cm, ge, ce, by rw [Hup.out, hs.out]; exact heap_set hP _, by rw [Hup.out]; exact slice_other hom (grown_set _ _ _ _) n1, by rw [Hup.out]; exact slice_other hoe (grown_set _ _ _ _) n2, n1, n2, n3⟩, kept_set hb (Nat.le_add_right _ 2) _⟩
        case measure => simp [intOf]; omega
      · have t1 : (({ data := #[100] } : ByteArray).toList == [117]) = false := text_is _ _
        have t2 : (({ data := #[100] } : ByteArray).toList == [100]) = true := text_is _ _
        have hs : Hid (stepR r 100 = { r with down := true }) := rfl
        clear hbs
        go_wp2_with fail
        go_roundw
        case rel => exact ⟨t + 1, by omega, by go_num, ⟨gm, cm, ge, ce, by rw [Hup.out, hs.out]; exact heap_set hP _, by rw [Hup.out]; exact slice_other hom (grown_set _ _ _ _) n1, by rw [Hup.out]; exact slice_other hoe (grown_set _ _ _ _) n2, n1, n2, n3⟩, kept_set hb (Nat.le_add_right _ 2) _⟩
        case measure => simp [intOf]; omega
      · have t1 : (({ data := #[116] } : ByteArray).toList == [117]) = false := text_is _ _
        have t2 : (({ data := #[116] } : ByteArray).toList == [100]) = false := text_is _ _
        have t3 : (({ data := #[116] } : ByteArray).toList == [116]) = true := text_is _ _
        have hs : Hid (stepR r 116 = { r with turn := (r.turn + 1) % 4 }) := rfl
        have q : ((r.turn : Int) + 1).tmod 4 = (((r.turn + 1) % 4 : Nat) : Int) := by rw [Int.tmod_eq_emod_of_nonneg (by omega)]; omega
        clear hbs
        go_wp2_with fail
        go_roundw
        case rel => exact ⟨t + 1, by omega, by go_num, ⟨gm, cm, ge, ce, by rw [Hup.out, hs.out]; exact heap_set hP _, by rw [Hup.out]; exact slice_other hom (grown_set _ _ _ _) n1, by rw [Hup.out]; exact slice_other hoe (grown_set _ _ _ _) n2, n1, n2, n3⟩, kept_set hb (Nat.le_add_right _ 2) _⟩
        case measure => simp [intOf]; omega
      · have t1 : (({ data := #[b] } : ByteArray).toList == [117]) = false := (text_is _ _).trans (decide_eq_false b1)
        have t2 : (({ data := #[b] } : ByteArray).toList == [100]) = false := (text_is _ _).trans (decide_eq_false b2)
        have t3 : (({ data := #[b] } : ByteArray).toList == [116]) = false := (text_is _ _).trans (decide_eq_false b3)
        have e1 : (b == 117) = false := beq_eq_false_iff_ne.2 b1
        have e2 : (b == 100) = false := beq_eq_false_iff_ne.2 b2
        have e3 : (b == 116) = false := beq_eq_false_iff_ne.2 b3
        have hdi : dirI b = d := by unfold dirI; rw [hd]
        have hs : Hid (stepR r b = goB r d) := by rw [Hid, stepR, if_neg b1, if_neg b2, if_neg b3, hd]
        have q : ((d : Int) + r.turn).tmod 4 = (((d + r.turn) % 4 : Nat) : Int) := by rw [Int.tmod_eq_emod_of_nonneg (by omega)]; omega
        have hk4 : (d + r.turn) % 4 < 4 := Nat.mod_lt _ (by decide)
        have hway : wayOf r d = wayB ((d + r.turn) % 4) := rfl
        have Hgo : Hid (goB r d = { x := r.x + (wayOf r d).1, y := r.y + (wayOf r d).2, turn := r.turn, down := r.down, moves := r.moves ++ [wayOf r d], edges := if r.down = true then r.edges ++ [edgeB r.x r.y (r.x + (wayOf r d).1) (r.y + (wayOf r d).2)] else r.edges }) := rfl
        clear hbs hd b1 b2 b3
        have hwb : -1 ≤ (wayOf r d).1 ∧ (wayOf r d).1 ≤ 1 ∧ -1 ≤ (wayOf r d).2 ∧ (wayOf r d).2 ≤ 1 := by
          rw [hway]
          rcases way_cases ((d + r.turn) % 4) with e | e | e | e <;> rw [e] <;> decide
        obtain ⟨a0, a1⟩ := ways_at wr wr.heap.size rfl ((d + r.turn) % 4) hk4
        generalize (d + r.turn) % 4 = k at *
        rw [← hway] at a0 a1
        clear hway
        generalize wayOf r d = m at *
        obtain ⟨mx, my⟩ := m
        obtain ⟨v1, v2, v3, v4⟩ := hwb
        dsimp only at v1 v2 v3 v4 a0 a1 Hgo
        have i1 : (0 : Int) ≤ (k : Int) := by omega
        have i2 : (k : Int) < 4 := by omega
        have q7 : IntKind.i64.wrap (k : Int) = k := IntWalk.i64_in _ (by omega)
        have hfin0 : Hid (runB (o.take (t + 1)) = { x := (r.x + mx), y := (r.y + my), turn := r.turn, down := r.down, moves := r.moves ++ [(mx, my)], edges := if r.down = true then r.edges ++ [edgeB r.x r.y (r.x + mx) (r.y + my)] else r.edges }) := by rw [Hid, Hup.out, hs.out, Hgo.out]
        clear Hup hs Hgo
        go_wp2_with fail
        have hk1 : Below wr.heap.size wr ((wr.alloc (.cells #[.int .i64 1, .int .i64 0, .int .i64 0, .int .i64 1, .int .i64 (-1), .int .i64 0, .int .i64 0, .int .i64 (-1)] 30)).alloc (.cells #[.int .i64 mx, .int .i64 my] 30)) := kept_alloc (kept_new _ _) _
        have m0 : ((wr.alloc (.cells #[.int .i64 1, .int .i64 0, .int .i64 0, .int .i64 1, .int .i64 (-1), .int .i64 0, .int .i64 0, .int .i64 (-1)] 30)).alloc (.cells #[.int .i64 mx, .int .i64 my] 30)).cell? ⟨wr.heap.size + 1, 0, none⟩ = some (.int .i64 mx) := by go_simp
        have m1 : ((wr.alloc (.cells #[.int .i64 1, .int .i64 0, .int .i64 0, .int .i64 1, .int .i64 (-1), .int .i64 0, .int .i64 0, .int .i64 (-1)] 30)).alloc (.cells #[.int .i64 mx, .int .i64 my] 30)).cell? ⟨wr.heap.size + 1, 1, none⟩ = some (.int .i64 my) := by go_simp
        have hs1 : ((wr.alloc (.cells #[.int .i64 1, .int .i64 0, .int .i64 0, .int .i64 1, .int .i64 (-1), .int .i64 0, .int .i64 0, .int .i64 (-1)] 30)).alloc (.cells #[.int .i64 mx, .int .i64 my] 30)).heap.size = wr.heap.size + 2 := by simp
        generalize (wr.alloc (.cells #[.int .i64 1, .int .i64 0, .int .i64 0, .int .i64 1, .int .i64 (-1), .int .i64 0, .int .i64 0, .int .i64 (-1)] 30)).alloc (.cells #[.int .i64 mx, .int .i64 my] 30) = w1 at *
        have H := (hpw.kept hBr0 hk1)
        replace H := H.more ⟨wr.heap.size + 1, 0, none⟩ _ m0 (show wr.heap.size + 1 ≠ w.heap.size + 2 by omega) (show wr.heap.size + 1 ≠ gm by omega) (show wr.heap.size + 1 ≠ ge by omega)
        replace H := H.more ⟨wr.heap.size + 1, 1, none⟩ _ m1 (show wr.heap.size + 1 ≠ w.heap.size + 2 by omega) (show wr.heap.size + 1 ≠ gm by omega) (show wr.heap.size + 1 ≠ ge by omega)
        replace c0 := kept_cell hk1 c0
        replace c1 := kept_cell hk1 c1
        clear hk1 hpw hP hom hoe hb c2 c3 c4 c5 f2 f3 q hk4 n1 n2 n3 a0 a1
        have q1 : IntKind.i64.wrap (r.x + mx) = r.x + mx := IntWalk.i64_in _ (by omega)
        have q2 : IntKind.i64.wrap (r.y + my) = r.y + my := IntWalk.i64_in _ (by omega)
        have q3 : IntKind.i64.wrap r.x = r.x := IntWalk.i64_in _ (by omega)
        have q4 : IntKind.i64.wrap r.y = r.y := IntWalk.i64_in _ (by omega)
        refine wp_region_held (S := fun W => Below w1.heap.size w1 W) (by kernel_rfl) ?_
        change wpAnyH _ _ _ _ _ _ _ _ w1.drew
        refine wpAnyH_take (i := 0) (v := .pointer (some ⟨w.heap.size + 1 + 1, 0, none⟩)) rfl (by kernel_rfl) (by kernel_rfl) (by kernel_rfl) (fun _ _ _ h => h) (.inl ⟨by kernel_rfl, fun _ _ => by go_simp⟩) (kept_drew w1) ?_
        refine wpAnyH_take (i := 1) (v := .pointer (some ⟨w.heap.size + 1 + 1, 0, none⟩)) rfl (by kernel_rfl) (by kernel_rfl) (by kernel_rfl) (fun _ _ _ h => h) (.inl ⟨by kernel_rfl, fun _ _ => by go_simp⟩) (kept_drew w1) ?_
        refine wpAnyH_take (i := 2) (v := .pointer (some ⟨w.heap.size + 1 + 1, 0, none⟩)) rfl (by kernel_rfl) (by kernel_rfl) (by kernel_rfl) (fun _ _ _ h => h) (.inl ⟨by kernel_rfl, fun _ _ => by go_simp⟩) (kept_drew w1) ?_
        refine wpAnyH_take (i := 3) (v := .pointer (some ⟨w.heap.size + 1 + 1, 0, none⟩)) rfl (by kernel_rfl) (by kernel_rfl) (by kernel_rfl) (fun _ _ _ h => h) (.inl ⟨by kernel_rfl, fun _ _ => by go_simp⟩) (kept_drew w1) ?_
        refine wpAnyH_take (i := 4) (v := .int .i64 r.x) rfl (by kernel_rfl) (by kernel_rfl) (by kernel_rfl) (fun _ _ _ h => h) (.inl ⟨by kernel_rfl, fun W hW => by (have d0 := kept_cell hW c0; go_simp)⟩) (kept_drew w1) ?_
        refine wpAnyH_take (i := 5) (v := .pointer (some ⟨wr.heap.size + 1, 0, none⟩)) rfl (by kernel_rfl) (by kernel_rfl) (by kernel_rfl) (fun _ _ _ h => h) (.inl ⟨by kernel_rfl, fun _ _ => by go_simp⟩) (kept_drew w1) ?_
        refine wpAnyH_take (i := 6) (v := .int .i64 mx) rfl (by kernel_rfl) (by kernel_rfl) (by kernel_rfl) (fun _ _ _ h => h) (.inl ⟨by kernel_rfl, fun W hW => by (have d0 := kept_cell hW m0; go_simp)⟩) (kept_drew w1) ?_
        refine wpAnyH_take (i := 7) (v := .int .i64 (r.x + mx)) rfl (by kernel_rfl) (by kernel_rfl) (by kernel_rfl) (fun _ _ _ h => h) (.inl ⟨by kernel_rfl, fun _ _ => by go_simp⟩) (kept_drew w1) ?_
        refine wpAnyH_take (i := 8) (v := .pointer (some ⟨w.heap.size + 1 + 1, 0, none⟩)) rfl (by kernel_rfl) (by kernel_rfl) (by kernel_rfl) (fun _ _ _ h => h) (.inl ⟨by kernel_rfl, fun _ _ => by go_simp⟩) (kept_drew w1) ?_
        refine wpAnyH_take (i := 9) (v := .pointer (some ⟨w.heap.size + 1 + 1, 0, none⟩)) rfl (by kernel_rfl) (by kernel_rfl) (by kernel_rfl) (fun _ _ _ h => h) (.inl ⟨by kernel_rfl, fun _ _ => by go_simp⟩) (kept_drew w1) ?_
        refine wpAnyH_take (i := 10) (v := .pointer (some ⟨w.heap.size + 1 + 1, 0, none⟩)) rfl (by kernel_rfl) (by kernel_rfl) (by kernel_rfl) (fun _ _ _ h => h) (.inl ⟨by kernel_rfl, fun _ _ => by go_simp⟩) (kept_drew w1) ?_
        refine wpAnyH_take (i := 11) (v := .pointer (some ⟨w.heap.size + 1 + 1, 1, none⟩)) rfl (by kernel_rfl) (by kernel_rfl) (by kernel_rfl) (fun _ _ _ h => h) (.inl ⟨by kernel_rfl, fun _ _ => by go_simp⟩) (kept_drew w1) ?_
        refine wpAnyH_take (i := 12) (v := .int .i64 r.y) rfl (by kernel_rfl) (by kernel_rfl) (by kernel_rfl) (fun _ _ _ h => h) (.inl ⟨by kernel_rfl, fun W hW => by (have d0 := kept_cell hW c1; go_simp)⟩) (kept_drew w1) ?_
        refine wpAnyH_take (i := 13) (v := .pointer (some ⟨wr.heap.size + 1, 1, none⟩)) rfl (by kernel_rfl) (by kernel_rfl) (by kernel_rfl) (fun _ _ _ h => h) (.inl ⟨by kernel_rfl, fun _ _ => by go_simp⟩) (kept_drew w1) ?_
        refine wpAnyH_take (i := 14) (v := .int .i64 my) rfl (by kernel_rfl) (by kernel_rfl) (by kernel_rfl) (fun _ _ _ h => h) (.inl ⟨by kernel_rfl, fun W hW => by (have d0 := kept_cell hW m1; go_simp)⟩) (kept_drew w1) ?_
        refine wpAnyH_take (i := 15) (v := .int .i64 (r.y + my)) rfl (by kernel_rfl) (by kernel_rfl) (by kernel_rfl) (fun _ _ _ h => h) (.inl ⟨by kernel_rfl, fun _ _ => by go_simp⟩) (kept_drew w1) ?_
        refine wpAnyH_take (i := 16) (v := .agg #[.int .i64 (r.x + mx), .int .i64 (r.y + my)]) rfl (by kernel_rfl) (by kernel_rfl) (by kernel_rfl) (fun _ _ _ h => h) (.inl ⟨by kernel_rfl, fun _ _ => by go_simp⟩) (kept_drew w1) ?_
        refine wpAnyH_all (rs := [17]) (by kernel_rfl) (by simp) (List.forall_mem_cons.2 ⟨?_, List.forall_mem_nil _⟩)
        refine opH_run (v := .pointer (some ⟨w1.heap.size, 0, none⟩)) (w' := w1.drew.alloc (.cells #[.int .i64 0, .int .i64 0] 30)) rfl (by kernel_rfl) (by go_simp) ?_
        have hS1 : Below w1.heap.size w1 (w1.drew.alloc (.cells #[.int .i64 0, .int .i64 0] 30)) := kept_alloc (kept_drew w1) _
        refine ⟨hS1, ?_⟩
        refine wpAnyH_all (rs := [18]) (by kernel_rfl) (by simp) (List.forall_mem_cons.2 ⟨?_, List.forall_mem_nil _⟩)
        refine opH_store (w' := ((w1.drew.alloc (.cells #[.int .i64 0, .int .i64 0] 30)).setCell ⟨w1.heap.size, 0, none⟩ (.int .i64 (r.x + mx))).setCell ⟨w1.heap.size, 1, none⟩ (.int .i64 (r.y + my))) rfl (by kernel_rfl) (by go_simp) ?_
        have hS2 := kept_set (kept_set hS1 (p := ⟨w1.heap.size, 0, none⟩) (Nat.le_refl _) (.int .i64 (r.x + mx))) (p := ⟨w1.heap.size, 1, none⟩) (Nat.le_refl _) (.int .i64 (r.y + my))
        refine ⟨hS2, ?_⟩
        refine wpAnyH_done (by kernel_rfl) ?_ _
        go_simp
        go_wp2_with fail
        replace H := H.kept (Nat.le_trans hBr0 (by omega)) (kept_new w1 (.cells #[.int .i64 (r.x + mx), .int .i64 (r.y + my)] 30))
        replace H := H.more ⟨wr.heap.size + 2, 0, none⟩ (.int .i64 (r.x + mx)) (by rw [← hs1]; go_simp) (show wr.heap.size + 2 ≠ w.heap.size + 2 by omega) (show wr.heap.size + 2 ≠ gm by omega) (show wr.heap.size + 2 ≠ ge by omega)
        replace H := H.more ⟨wr.heap.size + 2, 1, none⟩ (.int .i64 (r.y + my)) (by rw [← hs1]; go_simp) (show wr.heap.size + 2 ≠ w.heap.size + 2 by omega) (show wr.heap.size + 2 ≠ gm by omega) (show wr.heap.size + 2 ≠ ge by omega)
        clear m0 m1 c0 c1 q1 q2 q3 q4 hS1 hs1
        generalize (w1.alloc (.cells #[.int .i64 (r.x + mx), .int .i64 (r.y + my)] 30)) = w2 at *
        have H0 := (H.kept H.hb.size (kept_drew w2)).kept (H.kept H.hb.size (kept_drew w2)).hb.size (kept_drew w2.drew)
        clear H
        have hBr : w.heap.size ≤ w2.heap.size := H0.hb.size
        have S16 : ∀ (W : World) {cs gm cm ms ge ce es}, PenW w.heap.size (w.heap.size + 2) cs gm cm ms ge ce es [(⟨wr.heap.size + 2, 1, none⟩, .int .i64 (r.y + my)), (⟨wr.heap.size + 2, 0, none⟩, .int .i64 (r.x + mx)), (⟨wr.heap.size + 1, 1, none⟩, .int .i64 my), (⟨wr.heap.size + 1, 0, none⟩, .int .i64 mx)] w W → Below w.heap.size w W ∧ W.cell? ⟨wr.heap.size + 1, 0, none⟩ = some (.int .i64 mx) ∧ W.cell? ⟨wr.heap.size + 1, 1, none⟩ = some (.int .i64 my) := fun W _ _ _ _ _ _ _ h => ⟨h.hb, (h.ot (⟨wr.heap.size + 1, 0, none⟩, .int .i64 mx) (by simp)).1, (h.ot (⟨wr.heap.size + 1, 1, none⟩, .int .i64 my) (by simp)).1⟩
        refine wp_region_held (S := fun W => Below w.heap.size w W ∧ W.cell? ⟨wr.heap.size + 1, 0, none⟩ = some (.int .i64 mx) ∧ W.cell? ⟨wr.heap.size + 1, 1, none⟩ = some (.int .i64 my)) (by kernel_rfl) ?_
        change wpAnyH _ _ _ _ _ _ _ _ w2.drew.drew
        generalize w2.drew.drew = v0 at *
        have hS0 := S16 v0 H0
        refine wpAnyH_take (i := 0) (v := .pointer (some ⟨w.heap.size + 1 + 1, 0, none⟩)) rfl (by kernel_rfl) (by kernel_rfl) (by kernel_rfl) (fun _ _ _ h => h) (.inl ⟨by kernel_rfl, fun _ _ => by go_simp⟩) hS0 ?_
        refine wpAnyH_take (i := 1) (v := .pointer (some ⟨w.heap.size + 1 + 1, 0, none⟩)) rfl (by kernel_rfl) (by kernel_rfl) (by kernel_rfl) (fun _ _ _ h => h) (.inl ⟨by kernel_rfl, fun _ _ => by go_simp⟩) hS0 ?_
        refine wpAnyH_take (i := 2) (v := .pointer (some ⟨w.heap.size + 1 + 1, 0, none⟩)) rfl (by kernel_rfl) (by kernel_rfl) (by kernel_rfl) (fun _ _ _ h => h) (.inl ⟨by kernel_rfl, fun _ _ => by go_simp⟩) hS0 ?_
        refine wpAnyH_take (i := 3) (v := .pointer (some ⟨w.heap.size + 1 + 1, 4, none⟩)) rfl (by kernel_rfl) (by kernel_rfl) (by kernel_rfl) (fun _ _ _ h => h) (.inl ⟨by kernel_rfl, fun _ _ => by go_simp⟩) hS0 ?_
        refine wpAnyH_take (i := 5) (v := .agg #[.int .i64 mx, .int .i64 my]) rfl (by kernel_rfl) (by kernel_rfl) (by kernel_rfl) (fun _ _ _ h => h) (.inl ⟨by kernel_rfl, fun W hW => by (obtain ⟨_, d1, d2⟩ := hW; go_simp)⟩) hS0 ?_
        refine wpAnyH_all (rs := [4, 6]) (by kernel_rfl) (by simp) (List.forall_mem_cons.2 ⟨?_, List.forall_mem_cons.2 ⟨?_, List.forall_mem_nil _⟩⟩)
        · refine opH_run (v := .slice (some ⟨gm, 0, none⟩) r.moves.length cm) (w' := v0) rfl (by kernel_rfl) (by have d : v0.cell? ⟨w.heap.size + 2, 4, none⟩ = some (.slice (some ⟨gm, 0, none⟩) r.moves.length cm) := H0.cell 4; go_simp) ?_
          refine ⟨hS0, ?_⟩
          refine wpAnyH_all (rs := [6]) (by kernel_rfl) (by simp) (List.forall_mem_cons.2 ⟨?_, List.forall_mem_nil _⟩)
          refine opH_run (v := .slice (some ⟨v0.heap.size, 0, none⟩) 1 1) (w' := v0.alloc (.cells #[.int .i64 mx, .int .i64 my] 30)) rfl (by kernel_rfl) (by go_simp) ?_
          have news := news_new v0 #[.int .i64 mx, .int .i64 my] 30
          have H1 := H0.kept H0.hb.size (kept_new v0 (.cells #[.int .i64 mx, .int .i64 my] 30))
          generalize hb1 : v0.heap.size = b1 at news ⊢
          generalize v0.alloc (.cells #[.int .i64 mx, .int .i64 my] 30) = v1 at *
          have hS1 := S16 v1 H1
          refine ⟨hS1, ?_⟩
          refine wpAnyH_all (rs := [7]) (by kernel_rfl) (by simp) (List.forall_mem_cons.2 ⟨?_, List.forall_mem_nil _⟩)
          refine opH rfl (by kernel_rfl) ?_
          refine wp_append_any (.tmp 95) (.tmp 97) 36 (by rfl) w.heap.size 30 i0 _ 2 16 Tryd.underlying36 hi hz0 hz1 hz2 (by rfl) (by decide) gm r.moves.length cm _ (by go_simp) H1.om ⟨b1, 0, none⟩ 1 1 [.int .i64 mx, .int .i64 my] (by go_simp) rfl news (by simp [Value.oneCell']) (by omega) (by decide) (Nat.le_trans hgmB (Nat.le_of_lt (H1.om.lt gm rfl).2)) (r.moves.length + 1) rfl (mvCells (r.moves ++ [(mx, my)])) (mvCells_snoc r.moves (mx, my)).symm ?_
          intro g6 cap6 v2 own6 hgr6 hor6 hBg6
          have H2 := H1.appM own6 hgr6 hor6 hBg6
          clear own6 hgr6 hor6 hBg6 news
          have hS2 := S16 v2 H2
          refine ⟨hS2, ?_⟩
          refine wpAnyH_take (i := 8) (v := .pointer (some ⟨w.heap.size + 1 + 1, 0, none⟩)) rfl (by kernel_rfl) (by kernel_rfl) (by kernel_rfl) (fun _ _ _ h => h) (.inl ⟨by kernel_rfl, fun _ _ => by go_simp⟩) hS2 ?_
          refine wpAnyH_take (i := 9) (v := .pointer (some ⟨w.heap.size + 1 + 1, 4, none⟩)) rfl (by kernel_rfl) (by kernel_rfl) (by kernel_rfl) (fun _ _ _ h => h) (.inl ⟨by kernel_rfl, fun _ _ => by go_simp⟩) hS2 ?_
          refine wpAnyH_all (rs := [10]) (by kernel_rfl) (by simp) (List.forall_mem_cons.2 ⟨?_, List.forall_mem_nil _⟩)
          refine opH_store (w' := (v2.setCell ⟨w.heap.size + 2, 4, none⟩ (.slice (some ⟨g6, 0, none⟩) (r.moves.length + 1) cap6))) rfl (by kernel_rfl) (by have d : v2.cell? ⟨w.heap.size + 2, 4, none⟩ = some (.slice (some ⟨gm, 0, none⟩) r.moves.length cm) := H2.cell 4; have d2 := H2.frozen 4; go_simp) ?_
          have H3 := H2.put hBP 4 (.slice (some ⟨g6, 0, none⟩) (r.moves.length + 1) cap6)
          generalize (v2.setCell ⟨w.heap.size + 2, 4, none⟩ (.slice (some ⟨g6, 0, none⟩) (r.moves.length + 1) cap6)) = v3 at *
          have hS3 := S16 v3 H3
          refine ⟨hS3, ?_⟩
          refine wpAnyH_done (by kernel_rfl) ?_ _
          go_simp
          have y2 : v3.cell? ⟨w.heap.size + 2, 2, none⟩ = some (.bool r.down) := H3.cell 2
          obtain ⟨dn, hdn⟩ : ∃ dn, r.down = dn := ⟨_, rfl⟩
          rw [hdn] at y2
          have hfin1 := hfin0.out
          cases dn with
          | false =>
            rw [hdn, if_neg (by simp)] at hfin1
            have hfin := hide hfin1
            have Hdn := hide hdn
            clear hfin1 hdn hfin0
            have e0 : v3.cell? ⟨wr.heap.size + 2, 0, none⟩ = some (.int .i64 (r.x + mx)) := (H3.ot (⟨wr.heap.size + 2, 0, none⟩, .int .i64 (r.x + mx)) (by simp)).1
            have e1' : v3.cell? ⟨wr.heap.size + 2, 1, none⟩ = some (.int .i64 (r.y + my)) := (H3.ot (⟨wr.heap.size + 2, 1, none⟩, .int .i64 (r.y + my)) (by simp)).1
            have y0 : v3.cell? ⟨w.heap.size + 2, 0, none⟩ = some (.int .i64 r.x) := H3.cell 0
            have y1 : v3.cell? ⟨w.heap.size + 2, 1, none⟩ = some (.int .i64 r.y) := H3.cell 1
            have z0 := H3.frozen 0
            have zz1 := H3.frozen 1
            have HF := hide ((H3.put hBP 0 (.int .i64 (r.x + mx))).put hBP 1 (.int .i64 (r.y + my)))
            clear H3
            go_wp2_with fail
            go_roundw
            case rel => exact ⟨t + 1, by omega, by go_num, ⟨g6, cap6, ge, ce, by rw [hfin.out]; simpa [penCells, Hdn.out] using HF.out.hP, by rw [hfin.out]; exact HF.out.om, by rw [hfin.out]; exact HF.out.oe, HF.out.n1, HF.out.n2, HF.out.n3⟩, HF.out.hb⟩
            case measure => simp [intOf]; omega
          | true =>
            rw [hdn, if_pos rfl] at hfin1
            have hed := fun w => l12Edge_ok r.x r.y (r.x + mx) (r.y + my) w
            obtain ⟨⟨z1, z2, z3, z4⟩, hE⟩ : ∃ E, edgeB r.x r.y (r.x + mx) (r.y + my) = E := ⟨_, rfl⟩
            rw [hE] at hfin1 hed
            have hfin := hide hfin1
            have Hdn := hide hdn
            unfold edV at hed
            clear hfin1 hdn hfin0 hE
            go_wp2_with fail
            have S18 : ∀ (W : World) {cs gm cm ms ge ce es}, PenW w.heap.size (w.heap.size + 2) cs gm cm ms ge ce es [(⟨wr.heap.size + 2, 1, none⟩, .int .i64 (r.y + my)), (⟨wr.heap.size + 2, 0, none⟩, .int .i64 (r.x + mx)), (⟨wr.heap.size + 1, 1, none⟩, .int .i64 my), (⟨wr.heap.size + 1, 0, none⟩, .int .i64 mx)] w W → cs[0]? = some (.int .i64 r.x) → cs[1]? = some (.int .i64 r.y) → Below w.heap.size w W ∧ W.cell? ⟨w.heap.size + 2, 0, none⟩ = some (.int .i64 r.x) ∧ W.cell? ⟨w.heap.size + 2, 1, none⟩ = some (.int .i64 r.y) ∧ W.cell? ⟨wr.heap.size + 2, 0, none⟩ = some (.int .i64 (r.x + mx)) ∧ W.cell? ⟨wr.heap.size + 2, 1, none⟩ = some (.int .i64 (r.y + my)) := fun W _ _ _ _ _ _ _ h k0 k1 => ⟨h.hb, (h.cell 0).trans k0, (h.cell 1).trans k1, (h.ot (⟨wr.heap.size + 2, 0, none⟩, .int .i64 (r.x + mx)) (by simp)).1, (h.ot (⟨wr.heap.size + 2, 1, none⟩, .int .i64 (r.y + my)) (by simp)).1⟩
            have H4 := H3.kept H3.hb.size (kept_drew v3)
            refine wp_region_held (S := fun W => Below w.heap.size w W ∧ W.cell? ⟨w.heap.size + 2, 0, none⟩ = some (.int .i64 r.x) ∧ W.cell? ⟨w.heap.size + 2, 1, none⟩ = some (.int .i64 r.y) ∧ W.cell? ⟨wr.heap.size + 2, 0, none⟩ = some (.int .i64 (r.x + mx)) ∧ W.cell? ⟨wr.heap.size + 2, 1, none⟩ = some (.int .i64 (r.y + my))) (by kernel_rfl) ?_
            change wpAnyH _ _ _ _ _ _ _ _ v3.drew
            clear H3 y2
            generalize v3.drew = v4 at *
            have hS4 := S18 v4 H4 rfl rfl
            refine wpAnyH_take (i := 0) (v := .pointer (some ⟨w.heap.size + 1 + 1, 0, none⟩)) rfl (by kernel_rfl) (by kernel_rfl) (by kernel_rfl) (fun _ _ _ h => h) (.inl ⟨by kernel_rfl, fun _ _ => by go_simp⟩) hS4 ?_
            refine wpAnyH_take (i := 1) (v := .pointer (some ⟨w.heap.size + 1 + 1, 0, none⟩)) rfl (by kernel_rfl) (by kernel_rfl) (by kernel_rfl) (fun _ _ _ h => h) (.inl ⟨by kernel_rfl, fun _ _ => by go_simp⟩) hS4 ?_
            refine wpAnyH_take (i := 2) (v := .pointer (some ⟨w.heap.size + 1 + 1, 0, none⟩)) rfl (by kernel_rfl) (by kernel_rfl) (by kernel_rfl) (fun _ _ _ h => h) (.inl ⟨by kernel_rfl, fun _ _ => by go_simp⟩) hS4 ?_
            refine wpAnyH_take (i := 3) (v := .pointer (some ⟨w.heap.size + 1 + 1, 5, none⟩)) rfl (by kernel_rfl) (by kernel_rfl) (by kernel_rfl) (fun _ _ _ h => h) (.inl ⟨by kernel_rfl, fun _ _ => by go_simp⟩) hS4 ?_
            refine wpAnyH_take (i := 5) (v := .pointer (some ⟨w.heap.size + 1 + 1, 0, none⟩)) rfl (by kernel_rfl) (by kernel_rfl) (by kernel_rfl) (fun _ _ _ h => h) (.inl ⟨by kernel_rfl, fun _ _ => by go_simp⟩) hS4 ?_
            refine wpAnyH_take (i := 6) (v := .pointer (some ⟨w.heap.size + 1 + 1, 0, none⟩)) rfl (by kernel_rfl) (by kernel_rfl) (by kernel_rfl) (fun _ _ _ h => h) (.inl ⟨by kernel_rfl, fun _ _ => by go_simp⟩) hS4 ?_
            refine wpAnyH_take (i := 7) (v := .pointer (some ⟨w.heap.size + 1 + 1, 0, none⟩)) rfl (by kernel_rfl) (by kernel_rfl) (by kernel_rfl) (fun _ _ _ h => h) (.inl ⟨by kernel_rfl, fun _ _ => by go_simp⟩) hS4 ?_
            refine wpAnyH_take (i := 8) (v := .agg #[.int .i64 r.x, .int .i64 r.y]) rfl (by kernel_rfl) (by kernel_rfl) (by kernel_rfl) (fun _ _ _ h => h) (.inl ⟨by kernel_rfl, fun W hW => by (obtain ⟨_, d1, d2, d3, d4⟩ := hW; go_simp)⟩) hS4 ?_
            refine wpAnyH_take (i := 9) (v := .agg #[.int .i64 (r.x + mx), .int .i64 (r.y + my)]) rfl (by kernel_rfl) (by kernel_rfl) (by kernel_rfl) (fun _ _ _ h => h) (.inl ⟨by kernel_rfl, fun W hW => by (obtain ⟨_, d1, d2, d3, d4⟩ := hW; go_simp)⟩) hS4 ?_
            refine wpAnyH_all (rs := [4, 10]) (by kernel_rfl) (by simp) (List.forall_mem_cons.2 ⟨?_, List.forall_mem_cons.2 ⟨?_, List.forall_mem_nil _⟩⟩)
            · refine opH_run (v := .slice (some ⟨ge, 0, none⟩) r.edges.length ce) (w' := v4) rfl (by kernel_rfl) (by have d : v4.cell? ⟨w.heap.size + 2, 5, none⟩ = some (.slice (some ⟨ge, 0, none⟩) r.edges.length ce) := H4.cell 5; go_simp) ?_
              refine ⟨hS4, ?_⟩
              refine wpAnyH_all (rs := [10]) (by kernel_rfl) (by simp) (List.forall_mem_cons.2 ⟨?_, List.forall_mem_nil _⟩)
              refine opH_call (f := 63) rfl (by kernel_rfl) (by first | (go_simp; done) | (go_simp; exact ⟨rfl, rfl⟩)) (hed _) ?_
              rintro e v5 ⟨rfl, hbk⟩
              have H5 := H4.kept H4.hb.size hbk
              clear hbk
              have hS5 := S18 v5 H5 rfl rfl
              refine ⟨_, rfl, hS5, ?_⟩
              refine wpAnyH_all (rs := [11]) (by kernel_rfl) (by simp) (List.forall_mem_cons.2 ⟨?_, List.forall_mem_nil _⟩)
              refine opH_run (v := .slice (some ⟨v5.heap.size, 0, none⟩) 1 1) (w' := v5.alloc (.cells #[.int .i64 z1, .int .i64 z2, .int .i64 z3, .int .i64 z4] 62)) rfl (by kernel_rfl) (by go_simp) ?_
              have news := news_new v5 #[.int .i64 z1, .int .i64 z2, .int .i64 z3, .int .i64 z4] 62
              have H6 := H5.kept H5.hb.size (kept_new v5 (.cells #[.int .i64 z1, .int .i64 z2, .int .i64 z3, .int .i64 z4] 62))
              generalize hb1 : v5.heap.size = b1 at news ⊢
              clear hb1
              generalize v5.alloc (.cells #[.int .i64 z1, .int .i64 z2, .int .i64 z3, .int .i64 z4] 62) = v6 at *
              have hS6 := S18 v6 H6 rfl rfl
              refine ⟨hS6, ?_⟩
              refine wpAnyH_all (rs := [12]) (by kernel_rfl) (by simp) (List.forall_mem_cons.2 ⟨?_, List.forall_mem_nil _⟩)
              refine opH rfl (by kernel_rfl) ?_
              refine wp_append_any (.tmp 109) (.tmp 116) 54 (by rfl) w.heap.size 62 j0 _ 4 32 Tryd.underlying54 hj hy0 hy1 hy2 (by rfl) (by decide) ge r.edges.length ce _ (by go_simp) H6.oe ⟨b1, 0, none⟩ 1 1 [.int .i64 z1, .int .i64 z2, .int .i64 z3, .int .i64 z4] (by go_simp) rfl news (by simp [Value.oneCell']) (by omega) (by decide) (Nat.le_trans hgeB (Nat.le_of_lt (H6.oe.lt ge rfl).2)) (r.edges.length + 1) rfl (edCells (r.edges ++ [(z1, z2, z3, z4)])) (edCells_snoc r.edges (z1, z2, z3, z4)).symm ?_
              intro g8 cap8 v7 own8 hgr8 hor8 hBg8
              have H7 := H6.appE own8 hgr8 hor8 hBg8
              clear own8 hgr8 hor8 hBg8 news
              have hS7 := S18 v7 H7 rfl rfl
              refine ⟨hS7, ?_⟩
              refine wpAnyH_take (i := 13) (v := .pointer (some ⟨w.heap.size + 1 + 1, 0, none⟩)) rfl (by kernel_rfl) (by kernel_rfl) (by kernel_rfl) (fun _ _ _ h => h) (.inl ⟨by kernel_rfl, fun _ _ => by go_simp⟩) hS7 ?_
              refine wpAnyH_take (i := 14) (v := .pointer (some ⟨w.heap.size + 1 + 1, 5, none⟩)) rfl (by kernel_rfl) (by kernel_rfl) (by kernel_rfl) (fun _ _ _ h => h) (.inl ⟨by kernel_rfl, fun _ _ => by go_simp⟩) hS7 ?_
              refine wpAnyH_all (rs := [15]) (by kernel_rfl) (by simp) (List.forall_mem_cons.2 ⟨?_, List.forall_mem_nil _⟩)
              refine opH_store (w' := (v7.setCell ⟨w.heap.size + 2, 5, none⟩ (.slice (some ⟨g8, 0, none⟩) (r.edges.length + 1) cap8))) rfl (by kernel_rfl) (by have d : v7.cell? ⟨w.heap.size + 2, 5, none⟩ = some (.slice (some ⟨ge, 0, none⟩) r.edges.length ce) := H7.cell 5; have d2 := H7.frozen 5; go_simp) ?_
              have H8 := H7.put hBP 5 (.slice (some ⟨g8, 0, none⟩) (r.edges.length + 1) cap8)
              generalize (v7.setCell ⟨w.heap.size + 2, 5, none⟩ (.slice (some ⟨g8, 0, none⟩) (r.edges.length + 1) cap8)) = v8 at *
              have hS8 := S18 v8 H8 rfl rfl
              refine ⟨hS8, ?_⟩
              refine wpAnyH_done (by kernel_rfl) ?_ _
              go_simp
              have e0 : v8.cell? ⟨wr.heap.size + 2, 0, none⟩ = some (.int .i64 (r.x + mx)) := (H8.ot (⟨wr.heap.size + 2, 0, none⟩, .int .i64 (r.x + mx)) (by simp)).1
              have e1' : v8.cell? ⟨wr.heap.size + 2, 1, none⟩ = some (.int .i64 (r.y + my)) := (H8.ot (⟨wr.heap.size + 2, 1, none⟩, .int .i64 (r.y + my)) (by simp)).1
              have y0 : v8.cell? ⟨w.heap.size + 2, 0, none⟩ = some (.int .i64 r.x) := H8.cell 0
              have y1 : v8.cell? ⟨w.heap.size + 2, 1, none⟩ = some (.int .i64 r.y) := H8.cell 1
              have z0 := H8.frozen 0
              have zz1 := H8.frozen 1
              have HF := hide ((H8.put hBP 0 (.int .i64 (r.x + mx))).put hBP 1 (.int .i64 (r.y + my)))
              clear H8
              go_wp2_with fail
              go_roundw
              case rel => exact ⟨t + 1, by omega, by go_num, ⟨g6, cap6, g8, cap8, by rw [hfin.out]; simpa [penCells, Hdn.out] using HF.out.hP, by rw [hfin.out]; exact HF.out.om, by rw [hfin.out]; exact HF.out.oe, HF.out.n1, HF.out.n2, HF.out.n3⟩, HF.out.hb⟩
              case measure => simp [intOf]; omega
            · refine opH_call (f := 63) rfl (by kernel_rfl) (by first | (go_simp; done) | (go_simp; exact ⟨rfl, rfl⟩)) (hed _) ?_
              rintro e v5 ⟨rfl, hbk⟩
              have H5 := H4.kept H4.hb.size hbk
              clear hbk
              have hS5 := S18 v5 H5 rfl rfl
              refine ⟨_, rfl, hS5, ?_⟩
              refine wpAnyH_all (rs := [4, 11]) (by kernel_rfl) (by simp) (List.forall_mem_cons.2 ⟨?_, List.forall_mem_cons.2 ⟨?_, List.forall_mem_nil _⟩⟩)
              · refine opH_run (v := .slice (some ⟨ge, 0, none⟩) r.edges.length ce) (w' := v5) rfl (by kernel_rfl) (by have d : v5.cell? ⟨w.heap.size + 2, 5, none⟩ = some (.slice (some ⟨ge, 0, none⟩) r.edges.length ce) := H5.cell 5; go_simp) ?_
                refine ⟨hS5, ?_⟩
                refine wpAnyH_all (rs := [11]) (by kernel_rfl) (by simp) (List.forall_mem_cons.2 ⟨?_, List.forall_mem_nil _⟩)
                refine opH_run (v := .slice (some ⟨v5.heap.size, 0, none⟩) 1 1) (w' := v5.alloc (.cells #[.int .i64 z1, .int .i64 z2, .int .i64 z3, .int .i64 z4] 62)) rfl (by kernel_rfl) (by go_simp) ?_
                have news := news_new v5 #[.int .i64 z1, .int .i64 z2, .int .i64 z3, .int .i64 z4] 62
                have H6 := H5.kept H5.hb.size (kept_new v5 (.cells #[.int .i64 z1, .int .i64 z2, .int .i64 z3, .int .i64 z4] 62))
                generalize hb1 : v5.heap.size = b1 at news ⊢
                clear hb1
                generalize v5.alloc (.cells #[.int .i64 z1, .int .i64 z2, .int .i64 z3, .int .i64 z4] 62) = v6 at *
                have hS6 := S18 v6 H6 rfl rfl
                refine ⟨hS6, ?_⟩
                refine wpAnyH_all (rs := [12]) (by kernel_rfl) (by simp) (List.forall_mem_cons.2 ⟨?_, List.forall_mem_nil _⟩)
                refine opH rfl (by kernel_rfl) ?_
                refine wp_append_any (.tmp 109) (.tmp 116) 54 (by rfl) w.heap.size 62 j0 _ 4 32 Tryd.underlying54 hj hy0 hy1 hy2 (by rfl) (by decide) ge r.edges.length ce _ (by go_simp) H6.oe ⟨b1, 0, none⟩ 1 1 [.int .i64 z1, .int .i64 z2, .int .i64 z3, .int .i64 z4] (by go_simp) rfl news (by simp [Value.oneCell']) (by omega) (by decide) (Nat.le_trans hgeB (Nat.le_of_lt (H6.oe.lt ge rfl).2)) (r.edges.length + 1) rfl (edCells (r.edges ++ [(z1, z2, z3, z4)])) (edCells_snoc r.edges (z1, z2, z3, z4)).symm ?_
                intro g8 cap8 v7 own8 hgr8 hor8 hBg8
                have H7 := H6.appE own8 hgr8 hor8 hBg8
                clear own8 hgr8 hor8 hBg8 news
                have hS7 := S18 v7 H7 rfl rfl
                refine ⟨hS7, ?_⟩
                refine wpAnyH_take (i := 13) (v := .pointer (some ⟨w.heap.size + 1 + 1, 0, none⟩)) rfl (by kernel_rfl) (by kernel_rfl) (by kernel_rfl) (fun _ _ _ h => h) (.inl ⟨by kernel_rfl, fun _ _ => by go_simp⟩) hS7 ?_
                refine wpAnyH_take (i := 14) (v := .pointer (some ⟨w.heap.size + 1 + 1, 5, none⟩)) rfl (by kernel_rfl) (by kernel_rfl) (by kernel_rfl) (fun _ _ _ h => h) (.inl ⟨by kernel_rfl, fun _ _ => by go_simp⟩) hS7 ?_
                refine wpAnyH_all (rs := [15]) (by kernel_rfl) (by simp) (List.forall_mem_cons.2 ⟨?_, List.forall_mem_nil _⟩)
                refine opH_store (w' := (v7.setCell ⟨w.heap.size + 2, 5, none⟩ (.slice (some ⟨g8, 0, none⟩) (r.edges.length + 1) cap8))) rfl (by kernel_rfl) (by have d : v7.cell? ⟨w.heap.size + 2, 5, none⟩ = some (.slice (some ⟨ge, 0, none⟩) r.edges.length ce) := H7.cell 5; have d2 := H7.frozen 5; go_simp) ?_
                have H8 := H7.put hBP 5 (.slice (some ⟨g8, 0, none⟩) (r.edges.length + 1) cap8)
                generalize (v7.setCell ⟨w.heap.size + 2, 5, none⟩ (.slice (some ⟨g8, 0, none⟩) (r.edges.length + 1) cap8)) = v8 at *
                have hS8 := S18 v8 H8 rfl rfl
                refine ⟨hS8, ?_⟩
                refine wpAnyH_done (by kernel_rfl) ?_ _
                go_simp
                have e0 : v8.cell? ⟨wr.heap.size + 2, 0, none⟩ = some (.int .i64 (r.x + mx)) := (H8.ot (⟨wr.heap.size + 2, 0, none⟩, .int .i64 (r.x + mx)) (by simp)).1
                have e1' : v8.cell? ⟨wr.heap.size + 2, 1, none⟩ = some (.int .i64 (r.y + my)) := (H8.ot (⟨wr.heap.size + 2, 1, none⟩, .int .i64 (r.y + my)) (by simp)).1
                have y0 : v8.cell? ⟨w.heap.size + 2, 0, none⟩ = some (.int .i64 r.x) := H8.cell 0
                have y1 : v8.cell? ⟨w.heap.size + 2, 1, none⟩ = some (.int .i64 r.y) := H8.cell 1
                have z0 := H8.frozen 0
                have zz1 := H8.frozen 1
                have HF := hide ((H8.put hBP 0 (.int .i64 (r.x + mx))).put hBP 1 (.int .i64 (r.y + my)))
                clear H8
                go_wp2_with fail
                go_roundw
                case rel => exact ⟨t + 1, by omega, by go_num, ⟨g6, cap6, g8, cap8, by rw [hfin.out]; simpa [penCells, Hdn.out] using HF.out.hP, by rw [hfin.out]; exact HF.out.om, by rw [hfin.out]; exact HF.out.oe, HF.out.n1, HF.out.n2, HF.out.n3⟩, HF.out.hb⟩
                case measure => simp [intOf]; omega
              · refine opH_run (v := .slice (some ⟨v5.heap.size, 0, none⟩) 1 1) (w' := v5.alloc (.cells #[.int .i64 z1, .int .i64 z2, .int .i64 z3, .int .i64 z4] 62)) rfl (by kernel_rfl) (by go_simp) ?_
                have news := news_new v5 #[.int .i64 z1, .int .i64 z2, .int .i64 z3, .int .i64 z4] 62
                have H6 := H5.kept H5.hb.size (kept_new v5 (.cells #[.int .i64 z1, .int .i64 z2, .int .i64 z3, .int .i64 z4] 62))
                generalize hb1 : v5.heap.size = b1 at news ⊢
                clear hb1
                generalize v5.alloc (.cells #[.int .i64 z1, .int .i64 z2, .int .i64 z3, .int .i64 z4] 62) = v6 at *
                have hS6 := S18 v6 H6 rfl rfl
                refine ⟨hS6, ?_⟩
                refine wpAnyH_all (rs := [4]) (by kernel_rfl) (by simp) (List.forall_mem_cons.2 ⟨?_, List.forall_mem_nil _⟩)
                refine opH_run (v := .slice (some ⟨ge, 0, none⟩) r.edges.length ce) (w' := v6) rfl (by kernel_rfl) (by have d : v6.cell? ⟨w.heap.size + 2, 5, none⟩ = some (.slice (some ⟨ge, 0, none⟩) r.edges.length ce) := H6.cell 5; go_simp) ?_
                refine ⟨hS6, ?_⟩
                refine wpAnyH_all (rs := [12]) (by kernel_rfl) (by simp) (List.forall_mem_cons.2 ⟨?_, List.forall_mem_nil _⟩)
                refine opH rfl (by kernel_rfl) ?_
                refine wp_append_any (.tmp 109) (.tmp 116) 54 (by rfl) w.heap.size 62 j0 _ 4 32 Tryd.underlying54 hj hy0 hy1 hy2 (by rfl) (by decide) ge r.edges.length ce _ (by go_simp) H6.oe ⟨b1, 0, none⟩ 1 1 [.int .i64 z1, .int .i64 z2, .int .i64 z3, .int .i64 z4] (by go_simp) rfl news (by simp [Value.oneCell']) (by omega) (by decide) (Nat.le_trans hgeB (Nat.le_of_lt (H6.oe.lt ge rfl).2)) (r.edges.length + 1) rfl (edCells (r.edges ++ [(z1, z2, z3, z4)])) (edCells_snoc r.edges (z1, z2, z3, z4)).symm ?_
                intro g8 cap8 v7 own8 hgr8 hor8 hBg8
                have H7 := H6.appE own8 hgr8 hor8 hBg8
                clear own8 hgr8 hor8 hBg8 news
                have hS7 := S18 v7 H7 rfl rfl
                refine ⟨hS7, ?_⟩
                refine wpAnyH_take (i := 13) (v := .pointer (some ⟨w.heap.size + 1 + 1, 0, none⟩)) rfl (by kernel_rfl) (by kernel_rfl) (by kernel_rfl) (fun _ _ _ h => h) (.inl ⟨by kernel_rfl, fun _ _ => by go_simp⟩) hS7 ?_
                refine wpAnyH_take (i := 14) (v := .pointer (some ⟨w.heap.size + 1 + 1, 5, none⟩)) rfl (by kernel_rfl) (by kernel_rfl) (by kernel_rfl) (fun _ _ _ h => h) (.inl ⟨by kernel_rfl, fun _ _ => by go_simp⟩) hS7 ?_
                refine wpAnyH_all (rs := [15]) (by kernel_rfl) (by simp) (List.forall_mem_cons.2 ⟨?_, List.forall_mem_nil _⟩)
                refine opH_store (w' := (v7.setCell ⟨w.heap.size + 2, 5, none⟩ (.slice (some ⟨g8, 0, none⟩) (r.edges.length + 1) cap8))) rfl (by kernel_rfl) (by have d : v7.cell? ⟨w.heap.size + 2, 5, none⟩ = some (.slice (some ⟨ge, 0, none⟩) r.edges.length ce) := H7.cell 5; have d2 := H7.frozen 5; go_simp) ?_
                have H8 := H7.put hBP 5 (.slice (some ⟨g8, 0, none⟩) (r.edges.length + 1) cap8)
                generalize (v7.setCell ⟨w.heap.size + 2, 5, none⟩ (.slice (some ⟨g8, 0, none⟩) (r.edges.length + 1) cap8)) = v8 at *
                have hS8 := S18 v8 H8 rfl rfl
                refine ⟨hS8, ?_⟩
                refine wpAnyH_done (by kernel_rfl) ?_ _
                go_simp
                have e0 : v8.cell? ⟨wr.heap.size + 2, 0, none⟩ = some (.int .i64 (r.x + mx)) := (H8.ot (⟨wr.heap.size + 2, 0, none⟩, .int .i64 (r.x + mx)) (by simp)).1
                have e1' : v8.cell? ⟨wr.heap.size + 2, 1, none⟩ = some (.int .i64 (r.y + my)) := (H8.ot (⟨wr.heap.size + 2, 1, none⟩, .int .i64 (r.y + my)) (by simp)).1
                have y0 : v8.cell? ⟨w.heap.size + 2, 0, none⟩ = some (.int .i64 r.x) := H8.cell 0
                have y1 : v8.cell? ⟨w.heap.size + 2, 1, none⟩ = some (.int .i64 r.y) := H8.cell 1
                have z0 := H8.frozen 0
                have zz1 := H8.frozen 1
                have HF := hide ((H8.put hBP 0 (.int .i64 (r.x + mx))).put hBP 1 (.int .i64 (r.y + my)))
                clear H8
                go_wp2_with fail
                go_roundw
                case rel => exact ⟨t + 1, by omega, by go_num, ⟨g6, cap6, g8, cap8, by rw [hfin.out]; simpa [penCells, Hdn.out] using HF.out.hP, by rw [hfin.out]; exact HF.out.om, by rw [hfin.out]; exact HF.out.oe, HF.out.n1, HF.out.n2, HF.out.n3⟩, HF.out.hb⟩
                case measure => simp [intOf]; omega
        · refine opH_run (v := .slice (some ⟨v0.heap.size, 0, none⟩) 1 1) (w' := v0.alloc (.cells #[.int .i64 mx, .int .i64 my] 30)) rfl (by kernel_rfl) (by go_simp) ?_
          have news := news_new v0 #[.int .i64 mx, .int .i64 my] 30
          have H1 := H0.kept H0.hb.size (kept_new v0 (.cells #[.int .i64 mx, .int .i64 my] 30))
          generalize hb1 : v0.heap.size = b1 at news ⊢
          generalize v0.alloc (.cells #[.int .i64 mx, .int .i64 my] 30) = v1 at *
          have hS1 := S16 v1 H1
          refine ⟨hS1, ?_⟩
          refine wpAnyH_all (rs := [4]) (by kernel_rfl) (by simp) (List.forall_mem_cons.2 ⟨?_, List.forall_mem_nil _⟩)
          refine opH_run (v := .slice (some ⟨gm, 0, none⟩) r.moves.length cm) (w' := v1) rfl (by kernel_rfl) (by have d : v1.cell? ⟨w.heap.size + 2, 4, none⟩ = some (.slice (some ⟨gm, 0, none⟩) r.moves.length cm) := H1.cell 4; go_simp) ?_
          refine ⟨hS1, ?_⟩
          refine wpAnyH_all (rs := [7]) (by kernel_rfl) (by simp) (List.forall_mem_cons.2 ⟨?_, List.forall_mem_nil _⟩)
          refine opH rfl (by kernel_rfl) ?_
          refine wp_append_any (.tmp 95) (.tmp 97) 36 (by rfl) w.heap.size 30 i0 _ 2 16 Tryd.underlying36 hi hz0 hz1 hz2 (by rfl) (by decide) gm r.moves.length cm _ (by go_simp) H1.om ⟨b1, 0, none⟩ 1 1 [.int .i64 mx, .int .i64 my] (by go_simp) rfl news (by simp [Value.oneCell']) (by omega) (by decide) (Nat.le_trans hgmB (Nat.le_of_lt (H1.om.lt gm rfl).2)) (r.moves.length + 1) rfl (mvCells (r.moves ++ [(mx, my)])) (mvCells_snoc r.moves (mx, my)).symm ?_
          intro g6 cap6 v2 own6 hgr6 hor6 hBg6
          have H2 := H1.appM own6 hgr6 hor6 hBg6
          clear own6 hgr6 hor6 hBg6 news
          have hS2 := S16 v2 H2
          refine ⟨hS2, ?_⟩
          refine wpAnyH_take (i := 8) (v := .pointer (some ⟨w.heap.size + 1 + 1, 0, none⟩)) rfl (by kernel_rfl) (by kernel_rfl) (by kernel_rfl) (fun _ _ _ h => h) (.inl ⟨by kernel_rfl, fun _ _ => by go_simp⟩) hS2 ?_
          refine wpAnyH_take (i := 9) (v := .pointer (some ⟨w.heap.size + 1 + 1, 4, none⟩)) rfl (by kernel_rfl) (by kernel_rfl) (by kernel_rfl) (fun _ _ _ h => h) (.inl ⟨by kernel_rfl, fun _ _ => by go_simp⟩) hS2 ?_
          refine wpAnyH_all (rs := [10]) (by kernel_rfl) (by simp) (List.forall_mem_cons.2 ⟨?_, List.forall_mem_nil _⟩)
          refine opH_store (w' := (v2.setCell ⟨w.heap.size + 2, 4, none⟩ (.slice (some ⟨g6, 0, none⟩) (r.moves.length + 1) cap6))) rfl (by kernel_rfl) (by have d : v2.cell? ⟨w.heap.size + 2, 4, none⟩ = some (.slice (some ⟨gm, 0, none⟩) r.moves.length cm) := H2.cell 4; have d2 := H2.frozen 4; go_simp) ?_
          have H3 := H2.put hBP 4 (.slice (some ⟨g6, 0, none⟩) (r.moves.length + 1) cap6)
          generalize (v2.setCell ⟨w.heap.size + 2, 4, none⟩ (.slice (some ⟨g6, 0, none⟩) (r.moves.length + 1) cap6)) = v3 at *
          have hS3 := S16 v3 H3
          refine ⟨hS3, ?_⟩
          refine wpAnyH_done (by kernel_rfl) ?_ _
          go_simp
          have y2 : v3.cell? ⟨w.heap.size + 2, 2, none⟩ = some (.bool r.down) := H3.cell 2
          obtain ⟨dn, hdn⟩ : ∃ dn, r.down = dn := ⟨_, rfl⟩
          rw [hdn] at y2
          have hfin1 := hfin0.out
          cases dn with
          | false =>
            rw [hdn, if_neg (by simp)] at hfin1
            have hfin := hide hfin1
            have Hdn := hide hdn
            clear hfin1 hdn hfin0
            have e0 : v3.cell? ⟨wr.heap.size + 2, 0, none⟩ = some (.int .i64 (r.x + mx)) := (H3.ot (⟨wr.heap.size + 2, 0, none⟩, .int .i64 (r.x + mx)) (by simp)).1
            have e1' : v3.cell? ⟨wr.heap.size + 2, 1, none⟩ = some (.int .i64 (r.y + my)) := (H3.ot (⟨wr.heap.size + 2, 1, none⟩, .int .i64 (r.y + my)) (by simp)).1
            have y0 : v3.cell? ⟨w.heap.size + 2, 0, none⟩ = some (.int .i64 r.x) := H3.cell 0
            have y1 : v3.cell? ⟨w.heap.size + 2, 1, none⟩ = some (.int .i64 r.y) := H3.cell 1
            have z0 := H3.frozen 0
            have zz1 := H3.frozen 1
            have HF := hide ((H3.put hBP 0 (.int .i64 (r.x + mx))).put hBP 1 (.int .i64 (r.y + my)))
            clear H3
            go_wp2_with fail
            go_roundw
            case rel => exact ⟨t + 1, by omega, by go_num, ⟨g6, cap6, ge, ce, by rw [hfin.out]; simpa [penCells, Hdn.out] using HF.out.hP, by rw [hfin.out]; exact HF.out.om, by rw [hfin.out]; exact HF.out.oe, HF.out.n1, HF.out.n2, HF.out.n3⟩, HF.out.hb⟩
            case measure => simp [intOf]; omega
          | true =>
            rw [hdn, if_pos rfl] at hfin1
            have hed := fun w => l12Edge_ok r.x r.y (r.x + mx) (r.y + my) w
            obtain ⟨⟨z1, z2, z3, z4⟩, hE⟩ : ∃ E, edgeB r.x r.y (r.x + mx) (r.y + my) = E := ⟨_, rfl⟩
            rw [hE] at hfin1 hed
            have hfin := hide hfin1
            have Hdn := hide hdn
            unfold edV at hed
            clear hfin1 hdn hfin0 hE
            go_wp2_with fail
            have S18 : ∀ (W : World) {cs gm cm ms ge ce es}, PenW w.heap.size (w.heap.size + 2) cs gm cm ms ge ce es [(⟨wr.heap.size + 2, 1, none⟩, .int .i64 (r.y + my)), (⟨wr.heap.size + 2, 0, none⟩, .int .i64 (r.x + mx)), (⟨wr.heap.size + 1, 1, none⟩, .int .i64 my), (⟨wr.heap.size + 1, 0, none⟩, .int .i64 mx)] w W → cs[0]? = some (.int .i64 r.x) → cs[1]? = some (.int .i64 r.y) → Below w.heap.size w W ∧ W.cell? ⟨w.heap.size + 2, 0, none⟩ = some (.int .i64 r.x) ∧ W.cell? ⟨w.heap.size + 2, 1, none⟩ = some (.int .i64 r.y) ∧ W.cell? ⟨wr.heap.size + 2, 0, none⟩ = some (.int .i64 (r.x + mx)) ∧ W.cell? ⟨wr.heap.size + 2, 1, none⟩ = some (.int .i64 (r.y + my)) := fun W _ _ _ _ _ _ _ h k0 k1 => ⟨h.hb, (h.cell 0).trans k0, (h.cell 1).trans k1, (h.ot (⟨wr.heap.size + 2, 0, none⟩, .int .i64 (r.x + mx)) (by simp)).1, (h.ot (⟨wr.heap.size + 2, 1, none⟩, .int .i64 (r.y + my)) (by simp)).1⟩
            have H4 := H3.kept H3.hb.size (kept_drew v3)
            refine wp_region_held (S := fun W => Below w.heap.size w W ∧ W.cell? ⟨w.heap.size + 2, 0, none⟩ = some (.int .i64 r.x) ∧ W.cell? ⟨w.heap.size + 2, 1, none⟩ = some (.int .i64 r.y) ∧ W.cell? ⟨wr.heap.size + 2, 0, none⟩ = some (.int .i64 (r.x + mx)) ∧ W.cell? ⟨wr.heap.size + 2, 1, none⟩ = some (.int .i64 (r.y + my))) (by kernel_rfl) ?_
            change wpAnyH _ _ _ _ _ _ _ _ v3.drew
            clear H3 y2
            generalize v3.drew = v4 at *
            have hS4 := S18 v4 H4 rfl rfl
            refine wpAnyH_take (i := 0) (v := .pointer (some ⟨w.heap.size + 1 + 1, 0, none⟩)) rfl (by kernel_rfl) (by kernel_rfl) (by kernel_rfl) (fun _ _ _ h => h) (.inl ⟨by kernel_rfl, fun _ _ => by go_simp⟩) hS4 ?_
            refine wpAnyH_take (i := 1) (v := .pointer (some ⟨w.heap.size + 1 + 1, 0, none⟩)) rfl (by kernel_rfl) (by kernel_rfl) (by kernel_rfl) (fun _ _ _ h => h) (.inl ⟨by kernel_rfl, fun _ _ => by go_simp⟩) hS4 ?_
            refine wpAnyH_take (i := 2) (v := .pointer (some ⟨w.heap.size + 1 + 1, 0, none⟩)) rfl (by kernel_rfl) (by kernel_rfl) (by kernel_rfl) (fun _ _ _ h => h) (.inl ⟨by kernel_rfl, fun _ _ => by go_simp⟩) hS4 ?_
            refine wpAnyH_take (i := 3) (v := .pointer (some ⟨w.heap.size + 1 + 1, 5, none⟩)) rfl (by kernel_rfl) (by kernel_rfl) (by kernel_rfl) (fun _ _ _ h => h) (.inl ⟨by kernel_rfl, fun _ _ => by go_simp⟩) hS4 ?_
            refine wpAnyH_take (i := 5) (v := .pointer (some ⟨w.heap.size + 1 + 1, 0, none⟩)) rfl (by kernel_rfl) (by kernel_rfl) (by kernel_rfl) (fun _ _ _ h => h) (.inl ⟨by kernel_rfl, fun _ _ => by go_simp⟩) hS4 ?_
            refine wpAnyH_take (i := 6) (v := .pointer (some ⟨w.heap.size + 1 + 1, 0, none⟩)) rfl (by kernel_rfl) (by kernel_rfl) (by kernel_rfl) (fun _ _ _ h => h) (.inl ⟨by kernel_rfl, fun _ _ => by go_simp⟩) hS4 ?_
            refine wpAnyH_take (i := 7) (v := .pointer (some ⟨w.heap.size + 1 + 1, 0, none⟩)) rfl (by kernel_rfl) (by kernel_rfl) (by kernel_rfl) (fun _ _ _ h => h) (.inl ⟨by kernel_rfl, fun _ _ => by go_simp⟩) hS4 ?_
            refine wpAnyH_take (i := 8) (v := .agg #[.int .i64 r.x, .int .i64 r.y]) rfl (by kernel_rfl) (by kernel_rfl) (by kernel_rfl) (fun _ _ _ h => h) (.inl ⟨by kernel_rfl, fun W hW => by (obtain ⟨_, d1, d2, d3, d4⟩ := hW; go_simp)⟩) hS4 ?_
            refine wpAnyH_take (i := 9) (v := .agg #[.int .i64 (r.x + mx), .int .i64 (r.y + my)]) rfl (by kernel_rfl) (by kernel_rfl) (by kernel_rfl) (fun _ _ _ h => h) (.inl ⟨by kernel_rfl, fun W hW => by (obtain ⟨_, d1, d2, d3, d4⟩ := hW; go_simp)⟩) hS4 ?_
            refine wpAnyH_all (rs := [4, 10]) (by kernel_rfl) (by simp) (List.forall_mem_cons.2 ⟨?_, List.forall_mem_cons.2 ⟨?_, List.forall_mem_nil _⟩⟩)
            · refine opH_run (v := .slice (some ⟨ge, 0, none⟩) r.edges.length ce) (w' := v4) rfl (by kernel_rfl) (by have d : v4.cell? ⟨w.heap.size + 2, 5, none⟩ = some (.slice (some ⟨ge, 0, none⟩) r.edges.length ce) := H4.cell 5; go_simp) ?_
              refine ⟨hS4, ?_⟩
              refine wpAnyH_all (rs := [10]) (by kernel_rfl) (by simp) (List.forall_mem_cons.2 ⟨?_, List.forall_mem_nil _⟩)
              refine opH_call (f := 63) rfl (by kernel_rfl) (by first | (go_simp; done) | (go_simp; exact ⟨rfl, rfl⟩)) (hed _) ?_
              rintro e v5 ⟨rfl, hbk⟩
              have H5 := H4.kept H4.hb.size hbk
              clear hbk
              have hS5 := S18 v5 H5 rfl rfl
              refine ⟨_, rfl, hS5, ?_⟩
              refine wpAnyH_all (rs := [11]) (by kernel_rfl) (by simp) (List.forall_mem_cons.2 ⟨?_, List.forall_mem_nil _⟩)
              refine opH_run (v := .slice (some ⟨v5.heap.size, 0, none⟩) 1 1) (w' := v5.alloc (.cells #[.int .i64 z1, .int .i64 z2, .int .i64 z3, .int .i64 z4] 62)) rfl (by kernel_rfl) (by go_simp) ?_
              have news := news_new v5 #[.int .i64 z1, .int .i64 z2, .int .i64 z3, .int .i64 z4] 62
              have H6 := H5.kept H5.hb.size (kept_new v5 (.cells #[.int .i64 z1, .int .i64 z2, .int .i64 z3, .int .i64 z4] 62))
              generalize hb1 : v5.heap.size = b1 at news ⊢
              clear hb1
              generalize v5.alloc (.cells #[.int .i64 z1, .int .i64 z2, .int .i64 z3, .int .i64 z4] 62) = v6 at *
              have hS6 := S18 v6 H6 rfl rfl
              refine ⟨hS6, ?_⟩
              refine wpAnyH_all (rs := [12]) (by kernel_rfl) (by simp) (List.forall_mem_cons.2 ⟨?_, List.forall_mem_nil _⟩)
              refine opH rfl (by kernel_rfl) ?_
              refine wp_append_any (.tmp 109) (.tmp 116) 54 (by rfl) w.heap.size 62 j0 _ 4 32 Tryd.underlying54 hj hy0 hy1 hy2 (by rfl) (by decide) ge r.edges.length ce _ (by go_simp) H6.oe ⟨b1, 0, none⟩ 1 1 [.int .i64 z1, .int .i64 z2, .int .i64 z3, .int .i64 z4] (by go_simp) rfl news (by simp [Value.oneCell']) (by omega) (by decide) (Nat.le_trans hgeB (Nat.le_of_lt (H6.oe.lt ge rfl).2)) (r.edges.length + 1) rfl (edCells (r.edges ++ [(z1, z2, z3, z4)])) (edCells_snoc r.edges (z1, z2, z3, z4)).symm ?_
              intro g8 cap8 v7 own8 hgr8 hor8 hBg8
              have H7 := H6.appE own8 hgr8 hor8 hBg8
              clear own8 hgr8 hor8 hBg8 news
              have hS7 := S18 v7 H7 rfl rfl
              refine ⟨hS7, ?_⟩
              refine wpAnyH_take (i := 13) (v := .pointer (some ⟨w.heap.size + 1 + 1, 0, none⟩)) rfl (by kernel_rfl) (by kernel_rfl) (by kernel_rfl) (fun _ _ _ h => h) (.inl ⟨by kernel_rfl, fun _ _ => by go_simp⟩) hS7 ?_
              refine wpAnyH_take (i := 14) (v := .pointer (some ⟨w.heap.size + 1 + 1, 5, none⟩)) rfl (by kernel_rfl) (by kernel_rfl) (by kernel_rfl) (fun _ _ _ h => h) (.inl ⟨by kernel_rfl, fun _ _ => by go_simp⟩) hS7 ?_
              refine wpAnyH_all (rs := [15]) (by kernel_rfl) (by simp) (List.forall_mem_cons.2 ⟨?_, List.forall_mem_nil _⟩)
              refine opH_store (w' := (v7.setCell ⟨w.heap.size + 2, 5, none⟩ (.slice (some ⟨g8, 0, none⟩) (r.edges.length + 1) cap8))) rfl (by kernel_rfl) (by have d : v7.cell? ⟨w.heap.size + 2, 5, none⟩ = some (.slice (some ⟨ge, 0, none⟩) r.edges.length ce) := H7.cell 5; have d2 := H7.frozen 5; go_simp) ?_
              have H8 := H7.put hBP 5 (.slice (some ⟨g8, 0, none⟩) (r.edges.length + 1) cap8)
              generalize (v7.setCell ⟨w.heap.size + 2, 5, none⟩ (.slice (some ⟨g8, 0, none⟩) (r.edges.length + 1) cap8)) = v8 at *
              have hS8 := S18 v8 H8 rfl rfl
              refine ⟨hS8, ?_⟩
              refine wpAnyH_done (by kernel_rfl) ?_ _
              go_simp
              have e0 : v8.cell? ⟨wr.heap.size + 2, 0, none⟩ = some (.int .i64 (r.x + mx)) := (H8.ot (⟨wr.heap.size + 2, 0, none⟩, .int .i64 (r.x + mx)) (by simp)).1
              have e1' : v8.cell? ⟨wr.heap.size + 2, 1, none⟩ = some (.int .i64 (r.y + my)) := (H8.ot (⟨wr.heap.size + 2, 1, none⟩, .int .i64 (r.y + my)) (by simp)).1
              have y0 : v8.cell? ⟨w.heap.size + 2, 0, none⟩ = some (.int .i64 r.x) := H8.cell 0
              have y1 : v8.cell? ⟨w.heap.size + 2, 1, none⟩ = some (.int .i64 r.y) := H8.cell 1
              have z0 := H8.frozen 0
              have zz1 := H8.frozen 1
              have HF := hide ((H8.put hBP 0 (.int .i64 (r.x + mx))).put hBP 1 (.int .i64 (r.y + my)))
              clear H8
              go_wp2_with fail
              go_roundw
              case rel => exact ⟨t + 1, by omega, by go_num, ⟨g6, cap6, g8, cap8, by rw [hfin.out]; simpa [penCells, Hdn.out] using HF.out.hP, by rw [hfin.out]; exact HF.out.om, by rw [hfin.out]; exact HF.out.oe, HF.out.n1, HF.out.n2, HF.out.n3⟩, HF.out.hb⟩
              case measure => simp [intOf]; omega
            · refine opH_call (f := 63) rfl (by kernel_rfl) (by first | (go_simp; done) | (go_simp; exact ⟨rfl, rfl⟩)) (hed _) ?_
              rintro e v5 ⟨rfl, hbk⟩
              have H5 := H4.kept H4.hb.size hbk
              clear hbk
              have hS5 := S18 v5 H5 rfl rfl
              refine ⟨_, rfl, hS5, ?_⟩
              refine wpAnyH_all (rs := [4, 11]) (by kernel_rfl) (by simp) (List.forall_mem_cons.2 ⟨?_, List.forall_mem_cons.2 ⟨?_, List.forall_mem_nil _⟩⟩)
              · refine opH_run (v := .slice (some ⟨ge, 0, none⟩) r.edges.length ce) (w' := v5) rfl (by kernel_rfl) (by have d : v5.cell? ⟨w.heap.size + 2, 5, none⟩ = some (.slice (some ⟨ge, 0, none⟩) r.edges.length ce) := H5.cell 5; go_simp) ?_
                refine ⟨hS5, ?_⟩
                refine wpAnyH_all (rs := [11]) (by kernel_rfl) (by simp) (List.forall_mem_cons.2 ⟨?_, List.forall_mem_nil _⟩)
                refine opH_run (v := .slice (some ⟨v5.heap.size, 0, none⟩) 1 1) (w' := v5.alloc (.cells #[.int .i64 z1, .int .i64 z2, .int .i64 z3, .int .i64 z4] 62)) rfl (by kernel_rfl) (by go_simp) ?_
                have news := news_new v5 #[.int .i64 z1, .int .i64 z2, .int .i64 z3, .int .i64 z4] 62
                have H6 := H5.kept H5.hb.size (kept_new v5 (.cells #[.int .i64 z1, .int .i64 z2, .int .i64 z3, .int .i64 z4] 62))
                generalize hb1 : v5.heap.size = b1 at news ⊢
                clear hb1
                generalize v5.alloc (.cells #[.int .i64 z1, .int .i64 z2, .int .i64 z3, .int .i64 z4] 62) = v6 at *
                have hS6 := S18 v6 H6 rfl rfl
                refine ⟨hS6, ?_⟩
                refine wpAnyH_all (rs := [12]) (by kernel_rfl) (by simp) (List.forall_mem_cons.2 ⟨?_, List.forall_mem_nil _⟩)
                refine opH rfl (by kernel_rfl) ?_
                refine wp_append_any (.tmp 109) (.tmp 116) 54 (by rfl) w.heap.size 62 j0 _ 4 32 Tryd.underlying54 hj hy0 hy1 hy2 (by rfl) (by decide) ge r.edges.length ce _ (by go_simp) H6.oe ⟨b1, 0, none⟩ 1 1 [.int .i64 z1, .int .i64 z2, .int .i64 z3, .int .i64 z4] (by go_simp) rfl news (by simp [Value.oneCell']) (by omega) (by decide) (Nat.le_trans hgeB (Nat.le_of_lt (H6.oe.lt ge rfl).2)) (r.edges.length + 1) rfl (edCells (r.edges ++ [(z1, z2, z3, z4)])) (edCells_snoc r.edges (z1, z2, z3, z4)).symm ?_
                intro g8 cap8 v7 own8 hgr8 hor8 hBg8
                have H7 := H6.appE own8 hgr8 hor8 hBg8
                clear own8 hgr8 hor8 hBg8 news
                have hS7 := S18 v7 H7 rfl rfl
                refine ⟨hS7, ?_⟩
                refine wpAnyH_take (i := 13) (v := .pointer (some ⟨w.heap.size + 1 + 1, 0, none⟩)) rfl (by kernel_rfl) (by kernel_rfl) (by kernel_rfl) (fun _ _ _ h => h) (.inl ⟨by kernel_rfl, fun _ _ => by go_simp⟩) hS7 ?_
                refine wpAnyH_take (i := 14) (v := .pointer (some ⟨w.heap.size + 1 + 1, 5, none⟩)) rfl (by kernel_rfl) (by kernel_rfl) (by kernel_rfl) (fun _ _ _ h => h) (.inl ⟨by kernel_rfl, fun _ _ => by go_simp⟩) hS7 ?_
                refine wpAnyH_all (rs := [15]) (by kernel_rfl) (by simp) (List.forall_mem_cons.2 ⟨?_, List.forall_mem_nil _⟩)
                refine opH_store (w' := (v7.setCell ⟨w.heap.size + 2, 5, none⟩ (.slice (some ⟨g8, 0, none⟩) (r.edges.length + 1) cap8))) rfl (by kernel_rfl) (by have d : v7.cell? ⟨w.heap.size + 2, 5, none⟩ = some (.slice (some ⟨ge, 0, none⟩) r.edges.length ce) := H7.cell 5; have d2 := H7.frozen 5; go_simp) ?_
                have H8 := H7.put hBP 5 (.slice (some ⟨g8, 0, none⟩) (r.edges.length + 1) cap8)
                generalize (v7.setCell ⟨w.heap.size + 2, 5, none⟩ (.slice (some ⟨g8, 0, none⟩) (r.edges.length + 1) cap8)) = v8 at *
                have hS8 := S18 v8 H8 rfl rfl
                refine ⟨hS8, ?_⟩
                refine wpAnyH_done (by kernel_rfl) ?_ _
                go_simp
                have e0 : v8.cell? ⟨wr.heap.size + 2, 0, none⟩ = some (.int .i64 (r.x + mx)) := (H8.ot (⟨wr.heap.size + 2, 0, none⟩, .int .i64 (r.x + mx)) (by simp)).1
                have e1' : v8.cell? ⟨wr.heap.size + 2, 1, none⟩ = some (.int .i64 (r.y + my)) := (H8.ot (⟨wr.heap.size + 2, 1, none⟩, .int .i64 (r.y + my)) (by simp)).1
                have y0 : v8.cell? ⟨w.heap.size + 2, 0, none⟩ = some (.int .i64 r.x) := H8.cell 0
                have y1 : v8.cell? ⟨w.heap.size + 2, 1, none⟩ = some (.int .i64 r.y) := H8.cell 1
                have z0 := H8.frozen 0
                have zz1 := H8.frozen 1
                have HF := hide ((H8.put hBP 0 (.int .i64 (r.x + mx))).put hBP 1 (.int .i64 (r.y + my)))
                clear H8
                go_wp2_with fail
                go_roundw
                case rel => exact ⟨t + 1, by omega, by go_num, ⟨g6, cap6, g8, cap8, by rw [hfin.out]; simpa [penCells, Hdn.out] using HF.out.hP, by rw [hfin.out]; exact HF.out.om, by rw [hfin.out]; exact HF.out.oe, HF.out.n1, HF.out.n2, HF.out.n3⟩, HF.out.hb⟩
                case measure => simp [intOf]; omega
              · refine opH_run (v := .slice (some ⟨v5.heap.size, 0, none⟩) 1 1) (w' := v5.alloc (.cells #[.int .i64 z1, .int .i64 z2, .int .i64 z3, .int .i64 z4] 62)) rfl (by kernel_rfl) (by go_simp) ?_
                have news := news_new v5 #[.int .i64 z1, .int .i64 z2, .int .i64 z3, .int .i64 z4] 62
                have H6 := H5.kept H5.hb.size (kept_new v5 (.cells #[.int .i64 z1, .int .i64 z2, .int .i64 z3, .int .i64 z4] 62))
                generalize hb1 : v5.heap.size = b1 at news ⊢
                clear hb1
                generalize v5.alloc (.cells #[.int .i64 z1, .int .i64 z2, .int .i64 z3, .int .i64 z4] 62) = v6 at *
                have hS6 := S18 v6 H6 rfl rfl
                refine ⟨hS6, ?_⟩
                refine wpAnyH_all (rs := [4]) (by kernel_rfl) (by simp) (List.forall_mem_cons.2 ⟨?_, List.forall_mem_nil _⟩)
                refine opH_run (v := .slice (some ⟨ge, 0, none⟩) r.edges.length ce) (w' := v6) rfl (by kernel_rfl) (by have d : v6.cell? ⟨w.heap.size + 2, 5, none⟩ = some (.slice (some ⟨ge, 0, none⟩) r.edges.length ce) := H6.cell 5; go_simp) ?_
                refine ⟨hS6, ?_⟩
                refine wpAnyH_all (rs := [12]) (by kernel_rfl) (by simp) (List.forall_mem_cons.2 ⟨?_, List.forall_mem_nil _⟩)
                refine opH rfl (by kernel_rfl) ?_
                refine wp_append_any (.tmp 109) (.tmp 116) 54 (by rfl) w.heap.size 62 j0 _ 4 32 Tryd.underlying54 hj hy0 hy1 hy2 (by rfl) (by decide) ge r.edges.length ce _ (by go_simp) H6.oe ⟨b1, 0, none⟩ 1 1 [.int .i64 z1, .int .i64 z2, .int .i64 z3, .int .i64 z4] (by go_simp) rfl news (by simp [Value.oneCell']) (by omega) (by decide) (Nat.le_trans hgeB (Nat.le_of_lt (H6.oe.lt ge rfl).2)) (r.edges.length + 1) rfl (edCells (r.edges ++ [(z1, z2, z3, z4)])) (edCells_snoc r.edges (z1, z2, z3, z4)).symm ?_
                intro g8 cap8 v7 own8 hgr8 hor8 hBg8
                have H7 := H6.appE own8 hgr8 hor8 hBg8
                clear own8 hgr8 hor8 hBg8 news
                have hS7 := S18 v7 H7 rfl rfl
                refine ⟨hS7, ?_⟩
                refine wpAnyH_take (i := 13) (v := .pointer (some ⟨w.heap.size + 1 + 1, 0, none⟩)) rfl (by kernel_rfl) (by kernel_rfl) (by kernel_rfl) (fun _ _ _ h => h) (.inl ⟨by kernel_rfl, fun _ _ => by go_simp⟩) hS7 ?_
                refine wpAnyH_take (i := 14) (v := .pointer (some ⟨w.heap.size + 1 + 1, 5, none⟩)) rfl (by kernel_rfl) (by kernel_rfl) (by kernel_rfl) (fun _ _ _ h => h) (.inl ⟨by kernel_rfl, fun _ _ => by go_simp⟩) hS7 ?_
                refine wpAnyH_all (rs := [15]) (by kernel_rfl) (by simp) (List.forall_mem_cons.2 ⟨?_, List.forall_mem_nil _⟩)
                refine opH_store (w' := (v7.setCell ⟨w.heap.size + 2, 5, none⟩ (.slice (some ⟨g8, 0, none⟩) (r.edges.length + 1) cap8))) rfl (by kernel_rfl) (by have d : v7.cell? ⟨w.heap.size + 2, 5, none⟩ = some (.slice (some ⟨ge, 0, none⟩) r.edges.length ce) := H7.cell 5; have d2 := H7.frozen 5; go_simp) ?_
                have H8 := H7.put hBP 5 (.slice (some ⟨g8, 0, none⟩) (r.edges.length + 1) cap8)
                generalize (v7.setCell ⟨w.heap.size + 2, 5, none⟩ (.slice (some ⟨g8, 0, none⟩) (r.edges.length + 1) cap8)) = v8 at *
                have hS8 := S18 v8 H8 rfl rfl
                refine ⟨hS8, ?_⟩
                refine wpAnyH_done (by kernel_rfl) ?_ _
                go_simp
                have e0 : v8.cell? ⟨wr.heap.size + 2, 0, none⟩ = some (.int .i64 (r.x + mx)) := (H8.ot (⟨wr.heap.size + 2, 0, none⟩, .int .i64 (r.x + mx)) (by simp)).1
                have e1' : v8.cell? ⟨wr.heap.size + 2, 1, none⟩ = some (.int .i64 (r.y + my)) := (H8.ot (⟨wr.heap.size + 2, 1, none⟩, .int .i64 (r.y + my)) (by simp)).1
                have y0 : v8.cell? ⟨w.heap.size + 2, 0, none⟩ = some (.int .i64 r.x) := H8.cell 0
                have y1 : v8.cell? ⟨w.heap.size + 2, 1, none⟩ = some (.int .i64 r.y) := H8.cell 1
                have z0 := H8.frozen 0
                have zz1 := H8.frozen 1
                have HF := hide ((H8.put hBP 0 (.int .i64 (r.x + mx))).put hBP 1 (.int .i64 (r.y + my)))
                clear H8
                go_wp2_with fail
                go_roundw
                case rel => exact ⟨t + 1, by omega, by go_num, ⟨g6, cap6, g8, cap8, by rw [hfin.out]; simpa [penCells, Hdn.out] using HF.out.hP, by rw [hfin.out]; exact HF.out.om, by rw [hfin.out]; exact HF.out.oe, HF.out.n1, HF.out.n2, HF.out.n3⟩, HF.out.hb⟩
                case measure => simp [intOf]; omega
    · obtain rfl : t = o.length := by omega
      have h1' : ¬ (o.length : Int) < (o.length : Int) := by omega
      rw [List.take_length] at hpen
      go_wp2_with fail
      go_ret
      exact ⟨w.heap.size + 2, rfl, hpen, hb⟩

end Go.Proofs.YtincimgpgncomaaDoor
