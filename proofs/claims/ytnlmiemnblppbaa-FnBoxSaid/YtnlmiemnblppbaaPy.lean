/-
  MovesPath, the program's side.
-/
import Derived.Test.YtnlmiemnblppbaaPx
namespace Go.Proofs.Ytnlmiemnblppbaa
open Go.RowKit

theorem grownSet (w : World) (P j : Nat) (u : Value) : w.grownBy (w.setCell ⟨P, j, none⟩ u) (some P) :=
  ⟨rfl, rfl, rfl, by simp [World.setCell], fun k _ hk => Below.heap_setCell _ _ _ _ (fun e => hk (by simp [e]))⟩

theorem heapSet {w : World} {P j : Nat} {cs : Array Value} {T : TypeId} (h : w.heap[P]? = some (.cells cs T (0, 0))) (u : Value) : (w.setCell ⟨P, j, none⟩ u).heap[P]? = some (.cells (cs.setIfInBounds j u) T (0, 0)) := by
  simp [World.setCell, Array.getElem?_modify, h]

theorem own_ne {w : World} {B g n cap N size : Nat} {e T : TypeId} {xs : List Value} {cs : Array Value} {q : Nat × Nat} (h : w.ownsRow B e size (.slice (some ⟨g, 0, none⟩) n cap) n xs) (hN : w.heap[N]? = some (.cells cs T q)) (hT : e ≠ T) : g ≠ N := by
  rintro rfl
  rcases h.2 with ⟨h', _⟩ | ⟨g', cap', cur, h', _, h3, _⟩
  · simp at h'
  · simp only [Value.slice.injEq, Option.some.injEq, Addr.mk.injEq, and_true, true_and] at h'
    obtain ⟨rfl, rfl⟩ := h'
    rw [hN] at h3
    simp only [Option.some.injEq, Obj.cells.injEq] at h3
    exact hT h3.2.1.symm

theorem own_cap {w : World} {B : Nat} {e : TypeId} {size g n cap : Nat} {xs : List Value} (h : w.ownsRow B e size (.slice (some ⟨g, 0, none⟩) n cap) n xs) : n ≤ cap := by
  rcases h.2 with ⟨h', _⟩ | ⟨g', cap', cur, h', _, _, h3, _⟩
  · simp at h'
  · simp only [Value.slice.injEq, Option.some.injEq, Addr.mk.injEq, and_true, true_and] at h'
    omega

theorem gridValid_t (g : Int) (w : World) (h : 0 ≤ g ∧ g ≤ 8) : Calls Try.prog 46 #[.int .i64 g] w fun e w' => e = .returned (.bool true) ∧ w = w' := by
  have H := hide h
  clear h
  go_enter Try.func46, Try.ntmps46
  go_wp2_with fail
  refine (within_t _ _ _ _ H.out.1 H.out.2).mono ?_
  rintro e w1 ⟨rfl, rfl⟩
  go_wp2_with fail
  go_ret
  exact ⟨rfl, rfl⟩

theorem gridValid_f (g : Int) (w : World) (h : ¬ (0 ≤ g ∧ g ≤ 8)) : Calls Try.prog 46 #[.int .i64 g] w fun e w' => e = .returned (.bool false) ∧ w = w' := by
  have H := hide h
  clear h
  go_enter Try.func46, Try.ntmps46
  go_wp2_with fail
  refine (within_f _ _ _ _ H.out).mono ?_
  rintro e w1 ⟨rfl, rfl⟩
  go_wp2_with fail
  go_ret
  exact ⟨rfl, rfl⟩

theorem has_nil (w : World) (B : Nat) : Has w B 1 (.slice none 0 0) 0 (cCells []) := ⟨rfl, by decide, .inl ⟨rfl, rfl⟩⟩

set_option maxRecDepth 100000 in
set_option maxHeartbeats 2000000 in
theorem implMP_ok (v : Value) (ms : List (Int × Int)) (g : Int) (w : World) (hr : Reads w 2 v ms.length (mvCells ms)) :
    Calls Try.prog 11 #[v, .int .i64 g] w (MpPost (mpRes ms g) w) := by
  obtain ⟨i0, hi, hz0, hz1, hz2⟩ := info_parts Try.infoC
  have Hr := hide hr
  obtain ⟨_, hm, A, c, rfl, hc⟩ := hr
  by_cases h0 : ms.length = 0
  · have hnil : ms = [] := List.eq_nil_of_length_eq_zero h0
    have Hfin : Hid (mpRes ms g = ([], false)) := by simp [mpRes, hnil, Hid]
    have h0' : (ms.length : Int) = 0 := by omega
    clear hnil h0 hc hm Hr
    go_enter Try.func11, Try.ntmps11
    go_wp2_with fail
    go_ret2
    exact ⟨_, by rw [Hfin.out]; rfl, by rw [Hfin.out]; exact has_nil _ _, Below.refl _ _⟩
  · have h0' : ¬ (ms.length : Int) = 0 := by omega
    have h0b : ((ms.length : Int) == 0) = false := beq_eq_false_iff_ne.2 h0'
    cases hin : mvsIn ms with
    | false =>
      have Hfin : Hid (mpRes ms g = ([], false)) := by simp [mpRes, hin, Hid]
      have Hin := hide hin
      clear hin hc
      go_enter Try.func11, Try.ntmps11
      go_wp2_with fail
      refine (movesValid_ok _ ms _ Hr.out).mono ?_
      rintro e w1 ⟨rfl, hb1⟩
      rw [Hin.out]
      go_wp2_with fail
      go_ret2
      exact ⟨_, by rw [Hfin.out]; rfl, by rw [Hfin.out]; exact has_nil _ _, hb1⟩
    | true =>
      obtain ⟨hl, hup⟩ := mvsIn_parts hin
      have Hup := hide hup
      by_cases hg : 0 ≤ g ∧ g ≤ 8
      · obtain ⟨G, rfl⟩ : ∃ G : Nat, g = G := ⟨g.toNat, by omega⟩
        have hG8 : G ≤ 8 := by omega
        have Hfin : Hid (mpRes ms G = pathRes (mPts ms G ms.length)) := by
          rw [Hid, mpRes, if_pos ⟨hin, fun e => h0 (by rw [e]; rfl), by omega, by omega⟩]
          rfl
        have Hin := hide hin
        have Hg := hide hg
        have hw2 : IntKind.i64.wrap ((2 : Int) ^ G) = (2 : Int) ^ G := by
          have : ∀ G : Fin 9, IntKind.i64.wrap ((2 : Int) ^ G.1) = (2 : Int) ^ G.1 := by decide
          exact this ⟨G, by omega⟩
        clear hin hup hg
        go_enter Try.func11, Try.ntmps11
        go_wp2_with fail
        refine (movesValid_ok _ ms _ Hr.out).mono ?_
        rintro e w1 ⟨rfl, hb1⟩
        rw [Hin.out]
        go_wp2_with fail
        refine (gridValid_t _ _ Hg.out).mono ?_
        rintro e w1' ⟨rfl, rfl⟩
        go_wp2_with (at_make; refine wpList_make_own _ rfl _ _ 26 rfl w.heap.size 46 i0 _ 1 Try.underlying26 hi hz0 hz1 _ _ _ ms.length rfl rfl rfl (by rw [hz2]; omega) (by unfold maxLen; omega) hb1.size ?_)
        intro w2 hout hgr
        have hb2 := kept_trans hb1 (kept_of_grown hgr)
        clear hgr hb1
        have hpn : (w2.alloc (.cells #[.int .i64 0, .int .i64 0] 31)).heap[w2.heap.size]? = some (.cells #[.int .i64 (px ms 0), .int .i64 (py ms 0)] 31 (0, 0)) := heap_alloc_new _ _
        have hout2 := owns_kept hout (kept_new w2 (.cells #[.int .i64 0, .int .i64 0] 31))
        have hb3 := kept_alloc hb2 (.cells #[.int .i64 0, .int .i64 0] 31)
        have hNB := hb2.size
        clear hout hb2
        go_wp2_with fail
        generalize w2.heap.size = N at *
        go_loopw [7, 32] (fun v i wr => ∃ (t g cap : Nat), t ≤ ms.length ∧ i = .int .i64 t ∧ v = .slice (some ⟨g, 0, none⟩) t cap ∧ wr.heap[N]? = some (.cells #[.int .i64 (px ms t), .int .i64 (py ms t)] 31 (0, 0)) ∧ wr.ownsRow w.heap.size 46 1 (.slice (some ⟨g, 0, none⟩) t cap) t (cCells (mPts ms G t)) ∧ Below w.heap.size w wr) (fun _ i _ => ms.length - (intOf i).toNat)
        case atStart => exact ⟨0, _, _, by omega, rfl, rfl, hpn, hout2, hb3⟩
        case round =>
          obtain ⟨t, g, cap, ht, rfl, rfl, hN, ho, hb⟩ := hrel
          clear hpn hout2 hb3
          by_cases hlt : t < ms.length
          · obtain ⟨b, o, rfl, hbl, hcell⟩ := hc (by omega) (by omega)
            have h1 := (hb.cell (p := ⟨b, o + t * 2, none⟩) hbl).trans ((hcell (t * 2) (by omega)).trans (mvCells_x ms t hlt))
            have h2 : wr.cell? ⟨b, o + t * 2 + 1, none⟩ = _ := (hb.cell (p := ⟨b, o + t * 2 + 1, none⟩) hbl).trans ((hcell (t * 2 + 1) (by omega)).trans (mvCells_y ms t hlt))
            have hxs := px_succ ms t hlt
            have hys := py_succ ms t hlt
            have hbd := p_bd ms Hup.out t (by omega)
            have hbd2 := p_bd ms Hup.out (t + 1) (by omega)
            have hms := mPts_succ ms G t
            have hcl : (cCells (mPts ms G t)).length = t := by rw [cCells_len, mPts_len]
            rw [hxs, hys] at hbd2 hms
            clear hcell hc
            generalize ms[t] = p at h1 h2 hxs hys hbd2 hms
            obtain ⟨x, y⟩ := p
            dsimp only at h1 h2 hxs hys hbd2 hms
            have Hxs := hide hxs
            have Hys := hide hys
            have Hms := hide hms
            clear hxs hys hms
            generalize px ms t = X at *
            generalize py ms t = Y at *
            generalize cCells (mPts ms G t) = cs at *
            obtain ⟨⟨a1, a2⟩, a3, a4⟩ := hbd
            obtain ⟨⟨b1, b2⟩, b3, b4⟩ := hbd2
            have e1 := (q_ok (X + x) G (by omega) (by omega) hG8).1
            have e2 := (q_ok (Y + y) G (by omega) (by omega) hG8).1
            have d1 : ∀ W, (binOp .quo 55 (.float .f32 (floatOfInt .f32 (X + x))) (.float .f32 (floatOfInt .f32 ((2 : Int) ^ G)))).run Try.prog W = .ok (.float .f32 (qW (X + x) G)) W := fun W => run_float_arith W .quo _ .f32 _ _ _ e1
            have d2 : ∀ W, (binOp .quo 55 (.float .f32 (floatOfInt .f32 (Y + y))) (.float .f32 (floatOfInt .f32 ((2 : Int) ^ G)))).run Try.prog W = .ok (.float .f32 (qW (Y + y) G)) W := fun W => run_float_arith W .quo _ .f32 _ _ _ e2
            clear e1 e2
            generalize qW (X + x) G = rx at *
            generalize qW (Y + y) G = ry at *
            have hgN := own_ne ho hN (by decide)
            have hNl : N < wr.heap.size := (Array.getElem?_eq_some_iff.1 hN).1
            have hwsz : (wr.alloc (.cells #[.int .i64 x, .int .i64 y] 31)).heap.size = wr.heap.size + 1 := by simp
            have hN2 := (Below.heap_alloc wr (.cells #[.int .i64 x, .int .i64 y] 31) N hNl).trans hN
            have n0 : (wr.alloc (.cells #[.int .i64 x, .int .i64 y] 31)).cell? ⟨N, 0, none⟩ = some (.int .i64 X) := by rw [Lib.cell_of_heap hN2]; rfl
            have n1 : (wr.alloc (.cells #[.int .i64 x, .int .i64 y] 31)).cell? ⟨N, 1, none⟩ = some (.int .i64 Y) := by rw [Lib.cell_of_heap hN2]; rfl
            have f0 : (wr.alloc (.cells #[.int .i64 x, .int .i64 y] 31)).frozen? ⟨N, 0, none⟩ = false := Lib.frozen_of_heap hN2 0
            have f1 : (wr.alloc (.cells #[.int .i64 x, .int .i64 y] 31)).frozen? ⟨N, 1, none⟩ = false := Lib.frozen_of_heap hN2 1
            have m0 : (wr.alloc (.cells #[.int .i64 x, .int .i64 y] 31)).cell? ⟨wr.heap.size, 0, none⟩ = some (.int .i64 x) := by go_simp
            have m1 : (wr.alloc (.cells #[.int .i64 x, .int .i64 y] 31)).cell? ⟨wr.heap.size, 1, none⟩ = some (.int .i64 y) := by go_simp
            have hne : ¬ wr.heap.size = N := by omega
            have ho2 := owns_kept ho (kept_new wr (.cells #[.int .i64 x, .int .i64 y] 31))
            have hb2 := kept_alloc hb (.cells #[.int .i64 x, .int .i64 y] 31)
            generalize hwa : wr.alloc (.cells #[.int .i64 x, .int .i64 y] 31) = wa at *
            have ho3 := (ho2.kept (grownSet wa N 0 (.int .i64 (X + x))) (.inr (by simp [Value.ownBlock, hgN]))).kept (grownSet _ N 1 (.int .i64 (Y + y))) (.inr (by simp [Value.ownBlock, hgN]))
            have hb3 : Below w.heap.size w ((wa.setCell ⟨N, 0, none⟩ (.int .i64 (X + x))).setCell ⟨N, 1, none⟩ (.int .i64 (Y + y))) := kept_set (kept_set hb2 hNB _) hNB _
            have hN3 := heapSet (j := 1) (heapSet (j := 0) hN2 (.int .i64 (X + x))) (.int .i64 (Y + y))
            clear ho ho2 hb2 hN hN2
            go_wp2_with (at_builtin; refine wpList_append_one ((wa.setCell ⟨N, 0, none⟩ (.int .i64 (X + x))).setCell ⟨N, 1, none⟩ (.int .i64 (Y + y))) rfl _ _ 26 rfl w.heap.size 46 i0 _ 1 8 Try.underlying26 hi hz0 hz1 hz2 rfl (by decide) _ _ _ rfl ho3 [.complex .f32 rx ry] _ _ rfl rfl (by simp [Value.oneCell']) (by omega) (by decide) hb3.size rfl (by simp [hwsz]) ?_)
            intro g' cap' w3 ho4 hg4 hr4
            have hk4 := kept_grown hb3 hg4 hr4
            have hN4 := (hg4.block N (Array.getElem?_eq_some_iff.1 hN3).1 (by simp [Value.ownBlock, Ne.symm hgN])).trans hN3
            clear ho3 hg4 hN3
            go_wp2_with fail
            go_roundw
            case rel => exact ⟨t + 1, g', cap', by omega, by go_num, rfl, by rw [Hxs.out, Hys.out]; exact hN4, by rw [Hms.out]; exact ho4, hk4⟩
            case measure => simp [intOf]; omega
          · obtain rfl : t = ms.length := by omega
            have hlen := mPts_len ms G ms.length
            have ho' : Has wr w.heap.size 1 (.slice (some ⟨g, 0, none⟩) (mPts ms G ms.length).length cap) (mPts ms G ms.length).length (cCells (mPts ms G ms.length)) := by rw [hlen]; exact has_owns ho
            have hpm := fun W h => pathMade_ok w.heap.size g cap (mPts ms G ms.length) W h (by rw [hlen]; exact own_cap ho)
            rw [← Hfin.out] at hpm
            rw [hlen] at hpm ho'
            have Hpm := hide (hpm _ ho')
            clear hpm ho' ho hc hN
            generalize mpRes ms G = r at *
            go_wp2_with fail
            refine Hpm.out.mono ?_
            rintro e w1 ⟨⟨v', rfl, hh⟩, rfl⟩
            go_wp2_with fail
            go_ret2
            exact ⟨_, rfl, hh, hb⟩
      · have Hfin : Hid (mpRes ms g = ([], false)) := by
          rw [Hid, mpRes, if_neg (fun h => hg h.2.2)]
        have Hin := hide hin
        have Hg := hide hg
        clear hin hup hg hc
        go_enter Try.func11, Try.ntmps11
        go_wp2_with fail
        refine (movesValid_ok _ ms _ Hr.out).mono ?_
        rintro e w1 ⟨rfl, hb1⟩
        rw [Hin.out]
        go_wp2_with fail
        refine (gridValid_f _ _ Hg.out).mono ?_
        rintro e w1' ⟨rfl, rfl⟩
        go_wp2_with fail
        go_ret2
        exact ⟨_, by rw [Hfin.out]; rfl, by rw [Hfin.out]; exact has_nil _ _, hb1⟩

end Go.Proofs.Ytnlmiemnblppbaa
