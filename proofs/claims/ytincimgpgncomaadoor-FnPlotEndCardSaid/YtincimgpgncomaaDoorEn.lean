/-
  PlotEnd, both sides.
-/
import Derived.Test.YtincimgpgncomaaDoorPn
import Derived.Test.YtincimgpgncomaaDoorDb
import Derived.Test.YtincimgpgncomaaDoorFl
namespace Go.Proofs.YtincimgpgncomaaDoor
open Go.RowKit

/-- Where the pen ends. -/
def endV (r : Option (List UInt8)) : Value := match r with
  | none => .tuple #[.agg #[.int .i64 0, .int .i64 0], .int .i64 0, .bool false]
  | some o => .tuple #[.agg #[.int .i64 (runB o).x, .int .i64 (runB o).y], .int .i64 (runB o).turn, .bool true]

theorem pen_cells {B P : Nat} {r : Run} {w : World} (h : PenAt B P r w) : w.cell? ⟨P, 0, none⟩ = some (.int .i64 r.x) ∧ w.cell? ⟨P, 1, none⟩ = some (.int .i64 r.y) ∧ w.cell? ⟨P, 3, none⟩ = some (.int .i64 r.turn) := by
  obtain ⟨gm, cm, ge, ce, hP, _⟩ := h
  exact ⟨by rw [Lib.cell_of_heap hP]; rfl, by rw [Lib.cell_of_heap hP]; rfl, by rw [Lib.cell_of_heap hP]; rfl⟩

set_option maxRecDepth 100000 in
set_option maxHeartbeats 4000000 in
theorem endSpec_ok (s : ByteArray) (w : World) : Calls Tryd.prog 22 #[.string s] w fun e w' => e = .returned (endV (progB s)) ∧ Below w.heap.size w w' := by
  have hp := fun w => l12Program_ok s w
  have hst : ∀ o, progB s = some o → ∀ b ∈ o, isStepB b := fun o h b hb => progB_steps h b hb
  generalize progB s = r at hp hst ⊢
  unfold ProgPost at hp
  have Hp := hide hp
  clear hp
  have hT := heap_alloc_new w (.cells #[.int .i64 0, .int .i64 0] 30)
  have hkT := kept_new w (.cells #[.int .i64 0, .int .i64 0] 30)
  have hsT : (w.alloc (.cells #[.int .i64 0, .int .i64 0] 30)).heap.size = w.heap.size + 1 := by simp
  cases r with
  | none =>
    go_enter Tryd.func22, Tryd.ntmps22
    go_wp2_with fail
    generalize w.alloc (.cells #[.int .i64 0, .int .i64 0] 30) = wT at *
    refine (Hp.out _).mono ?_
    rintro e w1 ⟨g, cap, o, ok, rfl, ho, hl, hb, rfl⟩
    have hT1 := (hb.block w.heap.size (by omega)).trans hT
    have k0 : w1.cell? ⟨w.heap.size, 0, none⟩ = some (.int .i64 0) := by rw [Lib.cell_of_heap hT1]; rfl
    have k1 : w1.cell? ⟨w.heap.size, 1, none⟩ = some (.int .i64 0) := by rw [Lib.cell_of_heap hT1]; rfl
    have z0 : w1.frozen? ⟨w.heap.size, 0, none⟩ = false := Lib.frozen_of_heap hT1 0
    have z1 : w1.frozen? ⟨w.heap.size, 1, none⟩ = false := Lib.frozen_of_heap hT1 1
    go_wp2_with fail
    have hT2 := heap_set (heap_set hT1 (.int .i64 0) (j := 0)) (.int .i64 0) (j := 1)
    have hb2 : Below w.heap.size w ((w1.setCell ⟨w.heap.size, 0, none⟩ (.int .i64 0)).setCell ⟨w.heap.size, 1, none⟩ (.int .i64 0)) := kept_set (kept_set (kept_trans hkT hb) (Nat.le_refl _) _) (Nat.le_refl _) _
    generalize (w1.setCell ⟨w.heap.size, 0, none⟩ (.int .i64 0)).setCell ⟨w.heap.size, 1, none⟩ (.int .i64 0) = w2 at *
    have y0 : w2.cell? ⟨w.heap.size, 0, none⟩ = some (.int .i64 0) := by rw [Lib.cell_of_heap hT2]; rfl
    have y1 : w2.cell? ⟨w.heap.size, 1, none⟩ = some (.int .i64 0) := by rw [Lib.cell_of_heap hT2]; rfl
    refine bodyPost_ret (v := .tuple #[.agg #[.int .i64 0, .int .i64 0], .int .i64 0, .bool false]) (by simp [results, Tryd.results22, go_sem, y0, y1]) rfl ⟨rfl, hb2⟩
  | some r =>
    have hst := hst r rfl
    go_enter Tryd.func22, Tryd.ntmps22
    go_wp2_with fail
    generalize w.alloc (.cells #[.int .i64 0, .int .i64 0] 30) = wT at *
    refine (Hp.out _).mono ?_
    rintro e w1 ⟨g, cap, o, ok, rfl, ho, hl, hb, rfl, rfl⟩
    have hT1 := (hb.block w.heap.size (by omega)).trans hT
    have hk1 := kept_trans hkT hb
    have hs1 := hb.size
    have hrd := owns_reads ho
    have hrun := l12Run_ok _ o w1 hrd hl hst
    clear ho hb hT hkT Hp hst
    go_wp2_with fail
    refine hrun.mono ?_
    rintro e w2 ⟨P, rfl, hpen, hb2⟩
    have hT2 := (hb2.block w.heap.size (by omega)).trans hT1
    have hPT : P ≠ w.heap.size := by
      rintro rfl
      obtain ⟨_, _, _, _, hP, _⟩ := hpen
      rw [hT2] at hP
      simp at hP
    obtain ⟨c0, c1, c3⟩ := pen_cells hpen
    have hk2 := kept_trans hk1 hb2
    clear hrun hrd hpen hT1 hk1 hb2 hs1 hsT
    have k0 : w2.cell? ⟨w.heap.size, 0, none⟩ = some (.int .i64 0) := by rw [Lib.cell_of_heap hT2]; rfl
    have k1 : w2.cell? ⟨w.heap.size, 1, none⟩ = some (.int .i64 0) := by rw [Lib.cell_of_heap hT2]; rfl
    have z0 : w2.frozen? ⟨w.heap.size, 0, none⟩ = false := Lib.frozen_of_heap hT2 0
    have z1 : w2.frozen? ⟨w.heap.size, 1, none⟩ = false := Lib.frozen_of_heap hT2 1
    go_wp2_with fail
    refine wp_region_held (S := fun W => W.cell? ⟨P, 0, none⟩ = some (.int .i64 (runB o).x) ∧ W.cell? ⟨P, 1, none⟩ = some (.int .i64 (runB o).y) ∧ W.cell? ⟨P, 3, none⟩ = some (.int .i64 (runB o).turn)) (by kernel_rfl) ?_
    change wpAnyH _ _ _ _ _ _ _ _ w2.drew
    have hS0 : w2.drew.cell? ⟨P, 0, none⟩ = some (.int .i64 (runB o).x) ∧ w2.drew.cell? ⟨P, 1, none⟩ = some (.int .i64 (runB o).y) ∧ w2.drew.cell? ⟨P, 3, none⟩ = some (.int .i64 (runB o).turn) := ⟨c0, c1, c3⟩
    refine wpAnyH_take (i := 0) (v := .pointer (some ⟨P, 0, none⟩)) rfl (by kernel_rfl) (by kernel_rfl) (by kernel_rfl) (fun _ _ _ h => h) (.inl ⟨by kernel_rfl, fun _ _ => by go_simp⟩) hS0 ?_
    refine wpAnyH_take (i := 1) (v := .pointer (some ⟨P, 0, none⟩)) rfl (by kernel_rfl) (by kernel_rfl) (by kernel_rfl) (fun _ _ _ h => h) (.inl ⟨by kernel_rfl, fun _ _ => by go_simp⟩) hS0 ?_
    refine wpAnyH_take (i := 2) (v := .pointer (some ⟨P, 0, none⟩)) rfl (by kernel_rfl) (by kernel_rfl) (by kernel_rfl) (fun _ _ _ h => h) (.inl ⟨by kernel_rfl, fun _ _ => by go_simp⟩) hS0 ?_
    refine wpAnyH_take (i := 3) (v := .agg #[.int .i64 (runB o).x, .int .i64 (runB o).y]) rfl (by kernel_rfl) (by kernel_rfl) (by kernel_rfl) (fun _ _ _ h => h) (.inl ⟨by kernel_rfl, fun W hW => by (obtain ⟨d0, d1, d3⟩ := hW; go_simp)⟩) hS0 ?_
    refine wpAnyH_take (i := 4) (v := .pointer (some ⟨P, 0, none⟩)) rfl (by kernel_rfl) (by kernel_rfl) (by kernel_rfl) (fun _ _ _ h => h) (.inl ⟨by kernel_rfl, fun _ _ => by go_simp⟩) hS0 ?_
    refine wpAnyH_take (i := 5) (v := .pointer (some ⟨P, 0, none⟩)) rfl (by kernel_rfl) (by kernel_rfl) (by kernel_rfl) (fun _ _ _ h => h) (.inl ⟨by kernel_rfl, fun _ _ => by go_simp⟩) hS0 ?_
    refine wpAnyH_take (i := 6) (v := .pointer (some ⟨P, 3, none⟩)) rfl (by kernel_rfl) (by kernel_rfl) (by kernel_rfl) (fun _ _ _ h => h) (.inl ⟨by kernel_rfl, fun _ _ => by go_simp⟩) hS0 ?_
    refine wpAnyH_take (i := 7) (v := .int .i64 (runB o).turn) rfl (by kernel_rfl) (by kernel_rfl) (by kernel_rfl) (fun _ _ _ h => h) (.inl ⟨by kernel_rfl, fun W hW => by (obtain ⟨d0, d1, d3⟩ := hW; go_simp)⟩) hS0 ?_
    refine wpAnyH_all (rs := [8]) (by kernel_rfl) (by simp) (List.forall_mem_cons.2 ⟨?_, List.forall_mem_nil _⟩)
    refine opH_store (w' := ((w2.drew.setCell ⟨w.heap.size, 0, none⟩ (.int .i64 (runB o).x)).setCell ⟨w.heap.size, 1, none⟩ (.int .i64 (runB o).y))) rfl (by kernel_rfl) (by go_simp) ?_
    have hS1 : ((w2.drew.setCell ⟨w.heap.size, 0, none⟩ (.int .i64 (runB o).x)).setCell ⟨w.heap.size, 1, none⟩ (.int .i64 (runB o).y)).cell? ⟨P, 0, none⟩ = some (.int .i64 (runB o).x) ∧ ((w2.drew.setCell ⟨w.heap.size, 0, none⟩ (.int .i64 (runB o).x)).setCell ⟨w.heap.size, 1, none⟩ (.int .i64 (runB o).y)).cell? ⟨P, 1, none⟩ = some (.int .i64 (runB o).y) ∧ ((w2.drew.setCell ⟨w.heap.size, 0, none⟩ (.int .i64 (runB o).x)).setCell ⟨w.heap.size, 1, none⟩ (.int .i64 (runB o).y)).cell? ⟨P, 3, none⟩ = some (.int .i64 (runB o).turn) := by
      refine ⟨?_, ?_, ?_⟩ <;> rw [World.cell?_setCell_other _ _ _ _ (by simp), World.cell?_setCell_other _ _ _ _ (by simp)]
      · exact hS0.1
      · exact hS0.2.1
      · exact hS0.2.2
    refine ⟨hS1, ?_⟩
    refine wpAnyH_take (i := 9) (v := .int .i64 (runB o).turn) rfl (by kernel_rfl) (by kernel_rfl) (by kernel_rfl) (fun _ _ _ h => h) (.inl ⟨by kernel_rfl, fun _ _ => by go_simp⟩) hS1 ?_
    refine wpAnyH_take (i := 10) (v := .bool true) rfl (by kernel_rfl) (by kernel_rfl) (by kernel_rfl) (fun _ _ _ h => h) (.inl ⟨by kernel_rfl, fun _ _ => by go_simp⟩) hS1 ?_
    refine wpAnyH_done (by kernel_rfl) ?_ _
    have hT3 := heap_set (heap_set (w := w2.drew) hT2 (.int .i64 (runB o).x) (j := 0)) (.int .i64 (runB o).y) (j := 1)
    have hb3 : Below w.heap.size w ((w2.drew.setCell ⟨w.heap.size, 0, none⟩ (.int .i64 (runB o).x)).setCell ⟨w.heap.size, 1, none⟩ (.int .i64 (runB o).y)) := kept_set (kept_set hk2.drew (Nat.le_refl _) _) (Nat.le_refl _) _
    go_simp
    generalize hW3 : ((w2.drew.setCell ⟨w.heap.size, 0, none⟩ (.int .i64 (runB o).x)).setCell ⟨w.heap.size, 1, none⟩ (.int .i64 (runB o).y)) = w3 at *
    have hW4 : ((w2.setCell ⟨w.heap.size, 0, none⟩ (.int .i64 (runB o).x)).setCell ⟨w.heap.size, 1, none⟩ (.int .i64 (runB o).y)).drew = w3 := hW3
    first | rw [hW4] | skip
    clear hW3 hW4
    have y0 : w3.cell? ⟨w.heap.size, 0, none⟩ = some (.int .i64 (runB o).x) := by rw [Lib.cell_of_heap hT3]; rfl
    have y1 : w3.cell? ⟨w.heap.size, 1, none⟩ = some (.int .i64 (runB o).y) := by rw [Lib.cell_of_heap hT3]; rfl
    go_wp2_with fail
    refine bodyPost_ret (v := .tuple #[.agg #[.int .i64 (runB o).x, .int .i64 (runB o).y], .int .i64 (runB o).turn, .bool true]) (by simp [results, Tryd.results22, go_sem, y0, y1]) rfl ⟨rfl, hb3⟩

set_option maxRecDepth 100000 in
set_option maxHeartbeats 4000000 in
theorem endImpl_ok (s : ByteArray) (w : World) : Calls Tryd.prog 23 #[.string s] w fun e w' => e = .returned (endV (progB s)) ∧ Below w.heap.size w w' := by
  have hp := fun w => stepsOf_ok s w
  have hst : ∀ o, progB s = some o → ∀ b ∈ o, isStepB b := fun o h b hb => progB_steps h b hb
  have hln : ∀ o, progB s = some o → o.length ≤ 500 := fun o h => progB_len h
  generalize progB s = r at hp hst hln ⊢
  have hT := heap_alloc_new w (.cells #[.int .i64 0, .int .i64 0] 30)
  have hkT := kept_new w (.cells #[.int .i64 0, .int .i64 0] 30)
  have hsT : (w.alloc (.cells #[.int .i64 0, .int .i64 0] 30)).heap.size = w.heap.size + 1 := by simp
  unfold stepsV at hp
  cases r with
  | none =>
    dsimp only at hp
    have Hp := hide hp
    clear hp hst hln
    go_enter Tryd.func23, Tryd.ntmps23
    go_wp2_with fail
    generalize w.alloc (.cells #[.int .i64 0, .int .i64 0] 30) = wT at *
    refine (Hp.out _).mono ?_
    rintro e w1 ⟨rfl, hb⟩
    have hT1 := (hb.block w.heap.size (by omega)).trans hT
    have k0 : w1.cell? ⟨w.heap.size, 0, none⟩ = some (.int .i64 0) := by rw [Lib.cell_of_heap hT1]; rfl
    have k1 : w1.cell? ⟨w.heap.size, 1, none⟩ = some (.int .i64 0) := by rw [Lib.cell_of_heap hT1]; rfl
    have z0 : w1.frozen? ⟨w.heap.size, 0, none⟩ = false := Lib.frozen_of_heap hT1 0
    have z1 : w1.frozen? ⟨w.heap.size, 1, none⟩ = false := Lib.frozen_of_heap hT1 1
    go_wp2_with fail
    have hT2 := heap_set (heap_set hT1 (.int .i64 0) (j := 0)) (.int .i64 0) (j := 1)
    have hb2 : Below w.heap.size w ((w1.setCell ⟨w.heap.size, 0, none⟩ (.int .i64 0)).setCell ⟨w.heap.size, 1, none⟩ (.int .i64 0)) := kept_set (kept_set (kept_trans hkT hb) (Nat.le_refl _) _) (Nat.le_refl _) _
    generalize (w1.setCell ⟨w.heap.size, 0, none⟩ (.int .i64 0)).setCell ⟨w.heap.size, 1, none⟩ (.int .i64 0) = w2 at *
    have y0 : w2.cell? ⟨w.heap.size, 0, none⟩ = some (.int .i64 0) := by rw [Lib.cell_of_heap hT2]; rfl
    have y1 : w2.cell? ⟨w.heap.size, 1, none⟩ = some (.int .i64 0) := by rw [Lib.cell_of_heap hT2]; rfl
    refine bodyPost_ret (v := .tuple #[.agg #[.int .i64 0, .int .i64 0], .int .i64 0, .bool false]) (by simp [results, Tryd.results23, go_sem, y0, y1]) rfl ⟨rfl, hb2⟩
  | some o =>
    dsimp only at hp
    have Hp := hide hp
    have Hst := hide (hst o rfl)
    have hln := hln o rfl
    clear hp hst
    go_enter Tryd.func23, Tryd.ntmps23
    go_wp2_with fail
    generalize w.alloc (.cells #[.int .i64 0, .int .i64 0] 30) = wT at *
    refine (Hp.out _).mono ?_
    rintro e w1 ⟨rfl, hb⟩
    have hT1 := (hb.block w.heap.size (by omega)).trans hT
    have hk1 := kept_trans hkT hb
    have hs1 := hb.size
    clear hb hT hkT Hp
    have hp1 := pl_new w1
    have hkp := kept_new w1 (.cells #[.int .i64 0, .int .i64 0, .int .i64 0, .bool false] 59)
    have hsp : (w1.alloc (.cells #[.int .i64 0, .int .i64 0, .int .i64 0, .bool false] 59)).heap.size = w1.heap.size + 1 := by simp
    obtain ⟨cap, W', hcv, hkc, hby, hslt⟩ := bytes_made o (w1.alloc (.cells #[.int .i64 0, .int .i64 0, .int .i64 0, .bool false] 59))
    rw [hsp] at hby hcv
    have hp2 := pl_kept hp1 hkc
    have hk2 := kept_trans (kept_trans hk1 hkp) hkc
    have hT2 := ((kept_trans hkp hkc).block w.heap.size (by omega)).trans hT1
    clear hkc hp1 hkp hk1 hT1
    go_wp2_with fail
    clear hcv
    go_loopw [23] (fun i wr => ∃ t : Nat, t ≤ o.length ∧ i = .int .i64 t ∧ PlAt w1.heap.size (runB (o.take t)) wr ∧ BytesIn (w1.heap.size + 1) o wr ∧ wr.heap[w.heap.size]? = some (.cells #[.int .i64 0, .int .i64 0] 30 (0, 0)) ∧ Below w.heap.size w wr) (fun i _ => o.length - (intOf i).toNat)
    case atStart => exact ⟨0, by omega, rfl, hp2, hby, hT2, hk2⟩
    case round =>
      obtain ⟨t, ht, rfl, hpl, hbi, hTr, hkr⟩ := hrel
      clear hp2 hby hT2 hk2
      by_cases hlt : t < o.length
      · have hlt' : (t : Int) < (o.length : Int) := by omega
        have i3 : (0 : Int) ≤ (t : Int) := by omega
        have h1 := hbi t hlt
        have hdo := do_ok w1.heap.size (runB (o.take t)) o[t] wr hpl (run_taken (by omega) t) (Hst.out _ (List.getElem_mem hlt))
        rw [← run_next hlt] at hdo
        have Hbi := hide hbi
        clear hpl hbi
        generalize o[t] = b at h1 hdo
        go_wp2_with fail
        refine hdo.mono ?_
        rintro e w3 ⟨rfl, hpl3, hg3⟩
        have hbi3 := bytes_grown Hbi.out hg3 (by omega)
        have hT3 := (hg3.block w.heap.size (Array.getElem?_eq_some_iff.1 hTr).1 (by simp; omega)).trans hTr
        have hk3 := kept_grown hkr hg3 (fun k hk => by cases hk; omega)
        clear hdo hg3 hTr hkr Hbi
        go_wp2_with fail
        go_roundw
        case rel => exact ⟨t + 1, by omega, by go_num, hpl3, hbi3, hT3, hk3⟩
        case measure => simp [intOf]; omega
      · obtain rfl : t = o.length := by omega
        have h1' : ¬ (o.length : Int) < (o.length : Int) := by omega
        rw [List.take_length] at hpl
        have hPT : w1.heap.size ≠ w.heap.size := by omega
        generalize w1.heap.size = P at *
        unfold PlAt at hpl
        have c0 : wr.cell? ⟨P, 0, none⟩ = some (.int .i64 (runB o).x) := by rw [Lib.cell_of_heap hpl]; rfl
        have c1 : wr.cell? ⟨P, 1, none⟩ = some (.int .i64 (runB o).y) := by rw [Lib.cell_of_heap hpl]; rfl
        have c2 : wr.cell? ⟨P, 2, none⟩ = some (.int .i64 (runB o).turn) := by rw [Lib.cell_of_heap hpl]; rfl
        have hT2 := hTr
        have hk2 := hkr
        clear hpl hbi hTr hkr
        have k0 : wr.cell? ⟨w.heap.size, 0, none⟩ = some (.int .i64 0) := by rw [Lib.cell_of_heap hT2]; rfl
        have k1 : wr.cell? ⟨w.heap.size, 1, none⟩ = some (.int .i64 0) := by rw [Lib.cell_of_heap hT2]; rfl
        have z0 : wr.frozen? ⟨w.heap.size, 0, none⟩ = false := Lib.frozen_of_heap hT2 0
        have z1 : wr.frozen? ⟨w.heap.size, 1, none⟩ = false := Lib.frozen_of_heap hT2 1
        generalize wr = w2 at *
        go_wp2_with fail
        refine wp_region_held (S := fun W => W.cell? ⟨P, 0, none⟩ = some (.int .i64 (runB o).x) ∧ W.cell? ⟨P, 1, none⟩ = some (.int .i64 (runB o).y) ∧ W.cell? ⟨P, 2, none⟩ = some (.int .i64 (runB o).turn)) (by kernel_rfl) ?_
        change wpAnyH _ _ _ _ _ _ _ _ w2.drew
        have hS0 : w2.drew.cell? ⟨P, 0, none⟩ = some (.int .i64 (runB o).x) ∧ w2.drew.cell? ⟨P, 1, none⟩ = some (.int .i64 (runB o).y) ∧ w2.drew.cell? ⟨P, 2, none⟩ = some (.int .i64 (runB o).turn) := ⟨c0, c1, c2⟩
        refine wpAnyH_take (i := 0) (v := .pointer (some ⟨P, 0, none⟩)) rfl (by kernel_rfl) (by kernel_rfl) (by kernel_rfl) (fun _ _ _ h => h) (.inl ⟨by kernel_rfl, fun _ _ => by go_simp⟩) hS0 ?_
        refine wpAnyH_take (i := 1) (v := .pointer (some ⟨P, 0, none⟩)) rfl (by kernel_rfl) (by kernel_rfl) (by kernel_rfl) (fun _ _ _ h => h) (.inl ⟨by kernel_rfl, fun _ _ => by go_simp⟩) hS0 ?_
        refine wpAnyH_take (i := 2) (v := .pointer (some ⟨P, 0, none⟩)) rfl (by kernel_rfl) (by kernel_rfl) (by kernel_rfl) (fun _ _ _ h => h) (.inl ⟨by kernel_rfl, fun _ _ => by go_simp⟩) hS0 ?_
        refine wpAnyH_take (i := 3) (v := .agg #[.int .i64 (runB o).x, .int .i64 (runB o).y]) rfl (by kernel_rfl) (by kernel_rfl) (by kernel_rfl) (fun _ _ _ h => h) (.inl ⟨by kernel_rfl, fun W hW => by (obtain ⟨d0, d1, d3⟩ := hW; go_simp)⟩) hS0 ?_
        refine wpAnyH_take (i := 4) (v := .pointer (some ⟨P, 0, none⟩)) rfl (by kernel_rfl) (by kernel_rfl) (by kernel_rfl) (fun _ _ _ h => h) (.inl ⟨by kernel_rfl, fun _ _ => by go_simp⟩) hS0 ?_
        refine wpAnyH_take (i := 5) (v := .pointer (some ⟨P, 0, none⟩)) rfl (by kernel_rfl) (by kernel_rfl) (by kernel_rfl) (fun _ _ _ h => h) (.inl ⟨by kernel_rfl, fun _ _ => by go_simp⟩) hS0 ?_
        refine wpAnyH_take (i := 6) (v := .pointer (some ⟨P, 2, none⟩)) rfl (by kernel_rfl) (by kernel_rfl) (by kernel_rfl) (fun _ _ _ h => h) (.inl ⟨by kernel_rfl, fun _ _ => by go_simp⟩) hS0 ?_
        refine wpAnyH_take (i := 7) (v := .int .i64 (runB o).turn) rfl (by kernel_rfl) (by kernel_rfl) (by kernel_rfl) (fun _ _ _ h => h) (.inl ⟨by kernel_rfl, fun W hW => by (obtain ⟨d0, d1, d3⟩ := hW; go_simp)⟩) hS0 ?_
        refine wpAnyH_all (rs := [8]) (by kernel_rfl) (by simp) (List.forall_mem_cons.2 ⟨?_, List.forall_mem_nil _⟩)
        refine opH_store (w' := ((w2.drew.setCell ⟨w.heap.size, 0, none⟩ (.int .i64 (runB o).x)).setCell ⟨w.heap.size, 1, none⟩ (.int .i64 (runB o).y))) rfl (by kernel_rfl) (by go_simp) ?_
        have hS1 : ((w2.drew.setCell ⟨w.heap.size, 0, none⟩ (.int .i64 (runB o).x)).setCell ⟨w.heap.size, 1, none⟩ (.int .i64 (runB o).y)).cell? ⟨P, 0, none⟩ = some (.int .i64 (runB o).x) ∧ ((w2.drew.setCell ⟨w.heap.size, 0, none⟩ (.int .i64 (runB o).x)).setCell ⟨w.heap.size, 1, none⟩ (.int .i64 (runB o).y)).cell? ⟨P, 1, none⟩ = some (.int .i64 (runB o).y) ∧ ((w2.drew.setCell ⟨w.heap.size, 0, none⟩ (.int .i64 (runB o).x)).setCell ⟨w.heap.size, 1, none⟩ (.int .i64 (runB o).y)).cell? ⟨P, 2, none⟩ = some (.int .i64 (runB o).turn) := by
          refine ⟨?_, ?_, ?_⟩ <;> rw [World.cell?_setCell_other _ _ _ _ (by simp), World.cell?_setCell_other _ _ _ _ (by simp)]
          · exact hS0.1
          · exact hS0.2.1
          · exact hS0.2.2
        refine ⟨hS1, ?_⟩
        refine wpAnyH_take (i := 9) (v := .int .i64 (runB o).turn) rfl (by kernel_rfl) (by kernel_rfl) (by kernel_rfl) (fun _ _ _ h => h) (.inl ⟨by kernel_rfl, fun _ _ => by go_simp⟩) hS1 ?_
        refine wpAnyH_take (i := 10) (v := .bool true) rfl (by kernel_rfl) (by kernel_rfl) (by kernel_rfl) (fun _ _ _ h => h) (.inl ⟨by kernel_rfl, fun _ _ => by go_simp⟩) hS1 ?_
        refine wpAnyH_done (by kernel_rfl) ?_ _
        have hT3 := heap_set (heap_set (w := w2.drew) hT2 (.int .i64 (runB o).x) (j := 0)) (.int .i64 (runB o).y) (j := 1)
        have hb3 : Below w.heap.size w ((w2.drew.setCell ⟨w.heap.size, 0, none⟩ (.int .i64 (runB o).x)).setCell ⟨w.heap.size, 1, none⟩ (.int .i64 (runB o).y)) := kept_set (kept_set hk2.drew (Nat.le_refl _) _) (Nat.le_refl _) _
        go_simp
        generalize hW3 : ((w2.drew.setCell ⟨w.heap.size, 0, none⟩ (.int .i64 (runB o).x)).setCell ⟨w.heap.size, 1, none⟩ (.int .i64 (runB o).y)) = w3 at *
        have hW4 : ((w2.setCell ⟨w.heap.size, 0, none⟩ (.int .i64 (runB o).x)).setCell ⟨w.heap.size, 1, none⟩ (.int .i64 (runB o).y)).drew = w3 := hW3
        first | rw [hW4] | skip
        clear hW3 hW4
        have y0 : w3.cell? ⟨w.heap.size, 0, none⟩ = some (.int .i64 (runB o).x) := by rw [Lib.cell_of_heap hT3]; rfl
        have y1 : w3.cell? ⟨w.heap.size, 1, none⟩ = some (.int .i64 (runB o).y) := by rw [Lib.cell_of_heap hT3]; rfl
        go_wp2_with fail
        refine bodyPost_ret (v := .tuple #[.agg #[.int .i64 (runB o).x, .int .i64 (runB o).y], .int .i64 (runB o).turn, .bool true]) (by simp [results, Tryd.results23, go_sem, y0, y1]) rfl ⟨rfl, hb3⟩

theorem endV_form (r : Option (List UInt8)) : ∃ (x y k : Int) (b : Bool), endV r = .tuple #[.agg #[.int .i64 x, .int .i64 y], .int .i64 k, .bool b] := by
  unfold endV
  split
  · exact ⟨_, _, _, _, rfl⟩
  · exact ⟨_, _, _, _, rfl⟩

end Go.Proofs.YtincimgpgncomaaDoor
