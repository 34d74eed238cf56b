/-
  MovesTidy of the reference: it gives the same tidy moves.
-/
import Derived.Test.YtbaojldhbemcnaaTidyW
namespace Go.Proofs.Ytbaojldhbemcnaa
open Go.RowKit

theorem quiet_same {P : Program} {f : FuncId} {args : Array Value} {w : World} {n : Nat} {v : Value}
    (h : Calls P f args (w.drewN n) fun e w' => e = .returned v ∧ w.drewN n = w') : Calls P f args (w.drewN n) fun e w'' => e = .returned v ∧ ∃ m, w'' = w.drewN m :=
  h.mono fun _ _ ⟨he, hm⟩ => ⟨he, n, hm.symm⟩

theorem owns_cap {w : World} {base : Nat} {e : TypeId} {size g n cap : Nat} {xs : List Value} (h : w.ownsRow base e size (.slice (some ⟨g, 0, none⟩) n cap) n xs) : n ≤ cap ∧ cap ≤ 9223372036854775807 := by
  rcases h.2 with ⟨h', _⟩ | ⟨g', cap', cur, h', _, _, h3, h4, _⟩
  · simp at h'
  · simp only [Value.slice.injEq, Option.some.injEq, Addr.mk.injEq, and_true, true_and] at h'
    unfold maxLen at h4
    omega

set_option maxRecDepth 100000 in
set_option maxHeartbeats 2000000 in
theorem specTidy_ok (v : Value) (ms : List (Int × Int)) (w : World) (hr : Reads w 2 v ms.length (mvCells ms)) :
    Calls Try.prog 20 #[v] w (TidyPost ms w) := by
  obtain ⟨i0, hi, hz0, hz1, hz2⟩ := info_parts Try.infoMv
  have hrk := reads_kept hr (kept_new w (.cells #[] 32))
  have Hrk := hide hrk
  clear hrk
  have Hr := hide hr
  obtain ⟨_, hm, A, c, rfl, hc⟩ := hr
  have ho1 : (w.alloc (.cells #[] 32)).ownsRow w.heap.size 32 2 (.slice (some ⟨w.heap.size, 0, none⟩) 0 0) 0 [] := by
    simpa using World.ownsRow_lit (base := w.heap.size) (e := 32) (size := 2) w #[] 0 (Nat.le_refl _) (by decide) (by simp)
  have hb1 := kept_new w (.cells #[] 32)
  cases hin : mvsIn ms with
  | false =>
    have Hfin : Hid (tidyRes ms = ([], false)) := by simp [tidyRes, hin, Hid]
    have Hin := hide hin
    have Ho1 := hide (has_owns ho1)
    clear hin ho1
    go_enter Try.func20, Try.ntmps20
    go_wp2_with fail
    refine (l10Moves_ok _ ms _ Hrk.out).mono ?_
    rintro e w1 ⟨rfl, rfl⟩
    rw [Hin.out]
    go_wp2_with fail
    go_ret2
    exact ⟨_, by rw [Hfin.out]; rfl, by rw [Hfin.out]; exact Ho1.out, hb1⟩
  | true =>
    obtain ⟨hl, hup⟩ := mvsIn_parts hin
    have Hup := hide hup
    have Hin := hide hin
    clear hin hup
    go_enter Try.func20, Try.ntmps20
    go_wp2_with fail
    refine (l10Moves_ok _ ms _ Hrk.out).mono ?_
    rintro e w1 ⟨rfl, rfl⟩
    rw [Hin.out]
    go_wp2_with fail
    go_loopw [4, 5] (fun v i wr => ∃ (t g cap : Nat) (r : List (Int × Int)), t ≤ ms.length ∧ i = .int .i64 t ∧ r = Tidy.acc (ms.take t) ∧ v = .slice (some ⟨g, 0, none⟩) r.length cap ∧ wr.ownsRow w.heap.size 32 2 (.slice (some ⟨g, 0, none⟩) r.length cap) r.length (mvCells r.reverse) ∧ Below w.heap.size w wr) (fun _ i _ => ms.length - (intOf i).toNat)
    case atStart => exact ⟨0, _, _, [], by omega, rfl, by simp [Tidy.acc], rfl, ho1, hb1⟩
    case round =>
      obtain ⟨t, g, cap, r, ht, rfl, hrr, rfl, ho, hb⟩ := hrel
      have Hrr := hide hrr
      clear hrr hb1 ho1
      by_cases hlt : t < ms.length
      · obtain ⟨b, o, rfl, hbl, hcell⟩ := hc (by omega) (by omega)
        have h1 := (hb.cell (p := ⟨b, o + t * 2, none⟩) hbl).trans ((hcell (t * 2) (by omega)).trans (mvCells_x ms t hlt))
        have h2 : wr.cell? ⟨b, o + t * 2 + 1, none⟩ = _ := (hb.cell (p := ⟨b, o + t * 2 + 1, none⟩) hbl).trans ((hcell (t * 2 + 1) (by omega)).trans (mvCells_y ms t hlt))
        have hs := Tidy.acc_succ ms t hlt
        rw [← Hrr.out] at hs
        have hv := Hup.out t hlt hlt
        have hok : Tidy.Ok (10000000 * t) r := by rw [Hrr.out]; exact Tidy.ok_acc ms t (by omega) (fun i hi => Hup.out i hi hi)
        have hrl : r.length ≤ t := by rw [Hrr.out]; exact Tidy.acc_len ms t (by omega)
        clear hcell hc
        generalize ms[t] = p at h1 h2 hs hv
        obtain ⟨x, y⟩ := p
        obtain ⟨v1, v2, v3, v4⟩ := hv
        dsimp only at h1 h2 v1 v2 v3 v4
        have Hs := hide hs
        have Hok := hide hok
        clear hs hok
        by_cases hz : (x, y) = ((0 : Int), (0 : Int))
        · obtain ⟨rfl, rfl⟩ := Prod.mk.inj hz
          rw [Tidy.step_zero] at Hs
          go_wp2_with fail
          refine (l1Gcd_ok 0 0 _ (by decide) (by decide)).mono ?_
          rintro e w2 ⟨rfl, rfl⟩
          go_wp2_with fail
          go_roundw
          case rel => exact ⟨t + 1, _, _, r, by omega, by go_num, Hs.out.symm, rfl, ho.alloc _, kept_alloc hb _⟩
          case measure => simp [intOf]; omega
        · have hgp := Tidy.gc_pos hz
          have Hz := hide hz
          have hge : (Int.gcd x y : Int) = Tidy.gc (x, y) := rfl
          have Hge := hide hge
          have Hdm : Hid (Tidy.dir (x, y) = (x.tdiv (Tidy.gc (x, y)), y.tdiv (Tidy.gc (x, y)))) := rfl
          clear hz hge
          generalize Tidy.gc (x, y) = gm at hgp Hge Hdm
          have hgB0 := (ho.lt g rfl).1
          obtain ⟨m1, m2⟩ := tdiv_bd x gm 10000000 ⟨v1, v2⟩
          obtain ⟨m3, m4⟩ := tdiv_bd y gm 10000000 ⟨v3, v4⟩
          have hgm0 : ¬ gm = 0 := by omega
          go_wp2_with fail
          refine (l1Gcd_ok x y _ (by omega) (by omega)).mono ?_
          rintro e w2 ⟨rfl, rfl⟩
          rw [Hge.out]
          match r, hrl, ho, Hs, Hok with
          | [], hrl, ho, Hs, Hok =>
            simp only [List.length_nil] at ho ⊢
            have ho2 := ho.alloc (.cells #[.int .i64 x, .int .i64 y] 32)
            have hk2 := kept_alloc hb (.cells #[.int .i64 x, .int .i64 y] 32)
            go_wp2_with (at_builtin; refine wpList_append_one (wr.alloc (.cells #[.int .i64 x, .int .i64 y] 32)) rfl _ _ 25 rfl w.heap.size 32 i0 _ 2 16 Try.underlying25 hi hz0 hz1 hz2 rfl (by decide) _ _ _ rfl ho2 [.int .i64 x, .int .i64 y] _ _ rfl rfl (by simp [Value.oneCell']) (by omega) (by decide) hk2.size rfl (by simp) ?_)
            intro g' cap' w3 ho3 hg3 hr3
            have hk3 := kept_grown hk2 hg3 hr3
            clear ho2 hg3
            go_wp2_with fail
            go_roundw
            case rel => exact ⟨t + 1, g', cap', [(x, y)], by omega, by go_num, (Hs.out.trans (Tidy.step_first _ Hz.out)).symm, rfl, ho3, hk3⟩
            case measure => simp [intOf]; omega
          | l :: r, hrl, ho, Hs, Hok =>
            obtain ⟨lx, ly⟩ := l
            obtain ⟨⟨b1, b2, b3, b4⟩, hln⟩ := Hok.out _ (List.mem_cons_self ..)
            dsimp only at b1 b2 b3 b4
            have e0 : mvCells ((lx, ly) :: r).reverse = mvCells r.reverse ++ [.int .i64 lx, .int .i64 ly] := mvCells_cons _ _
            have hlen : (mvCells r.reverse).length = r.length * 2 := by rw [mvCells_len]; simp
            have k0 : wr.cell? ⟨g, r.length * 2, none⟩ = some (.int .i64 lx) := by
              rw [ho.cellAt _ (by simp), e0, List.getElem?_append_right (by omega), hlen]
              simp
            have k1 : wr.cell? ⟨g, r.length * 2 + 1, none⟩ = some (.int .i64 ly) := by
              rw [ho.cellAt _ (by simp; omega), e0, List.getElem?_append_right (by omega), hlen]
              simp [show r.length * 2 + 1 - r.length * 2 = 1 from by omega]
            have hglt := (ho.lt g rfl).2
            have hlp := Tidy.gc_pos hln
            have hle : (Int.gcd lx ly : Int) = Tidy.gc (lx, ly) := rfl
            have Hle := hide hle
            have Hdl : Hid (Tidy.dir (lx, ly) = (lx.tdiv (Tidy.gc (lx, ly)), ly.tdiv (Tidy.gc (lx, ly)))) := rfl
            clear hle
            generalize Tidy.gc (lx, ly) = gl at hlp Hle Hdl
            obtain ⟨l1, l2⟩ := tdiv_bd lx gl 1000000000 (by omega)
            obtain ⟨l3, l4⟩ := tdiv_bd ly gl 1000000000 (by omega)
            have hgl0 : ¬ gl = 0 := by omega
            have Hln := hide hln
            have He0 := hide e0
            clear e0 hln
            simp only [List.length_cons] at ho hrl ⊢
            obtain ⟨hcp1, hcp2⟩ := owns_cap ho
            have hcp3 : r.length ≤ cap := by omega
            have hcp4 : (r.length : Int) ≤ (cap : Int) := by omega
            have q1 : IntKind.i64.wrap (r.length : Int) = r.length := IntWalk.i64_in _ (by omega)
            have q2 : (0 : Int) ≤ (r.length : Int) := by omega
            have q3 : (r.length : Int) < (r.length : Int) + 1 := by omega
            have w1' : IntKind.i64.wrap (lx.tdiv gl) = lx.tdiv gl := IntWalk.i64_in _ (by omega)
            have w2' : IntKind.i64.wrap (ly.tdiv gl) = ly.tdiv gl := IntWalk.i64_in _ (by omega)
            have w3' : IntKind.i64.wrap (x.tdiv gm) = x.tdiv gm := IntWalk.i64_in _ (by omega)
            have w4' : IntKind.i64.wrap (y.tdiv gm) = y.tdiv gm := IntWalk.i64_in _ (by omega)
            have hq : ∀ m, Below wr.heap.size wr ((wr.alloc (.cells #[.int .i64 x, .int .i64 y] 32)).drewN m) ∧ ((wr.alloc (.cells #[.int .i64 x, .int .i64 y] 32)).drewN m).cell? ⟨g, r.length * 2, none⟩ = some (.int .i64 lx) ∧ ((wr.alloc (.cells #[.int .i64 x, .int .i64 y] 32)).drewN m).cell? ⟨g, r.length * 2 + 1, none⟩ = some (.int .i64 ly) ∧
                ((wr.alloc (.cells #[.int .i64 x, .int .i64 y] 32)).drewN m).cell? ⟨wr.heap.size, 0, none⟩ = some (.int .i64 x) ∧ ((wr.alloc (.cells #[.int .i64 x, .int .i64 y] 32)).drewN m).cell? ⟨wr.heap.size, 1, none⟩ = some (.int .i64 y) ∧
                ((wr.alloc (.cells #[.int .i64 x, .int .i64 y] 32)).drewN m).frozen? ⟨wr.heap.size, 0, none⟩ = false ∧ ((wr.alloc (.cells #[.int .i64 x, .int .i64 y] 32)).drewN m).frozen? ⟨wr.heap.size, 1, none⟩ = false :=
              fun m => have hkk := kept_trans (kept_new wr (.cells #[.int .i64 x, .int .i64 y] 32)) (kept_drewN _ m); ⟨hkk, kept_cell hkk k0, kept_cell hkk k1, by go_simp, by go_simp, by go_simp, by go_simp⟩
            have Hq := hide hq
            clear hq
            by_cases hd1 : lx.tdiv gl = x.tdiv gm
            · by_cases hd2 : ly.tdiv gl = y.tdiv gm
              · have Hd : Hid (Tidy.dir (lx, ly) = Tidy.dir (x, y)) := by rw [Hdl.out, Hdm.out, hd1, hd2]; rfl
                have t1' : (lx.tdiv gl == x.tdiv gm) = true := by simpa using hd1
                have t2' : (ly.tdiv gl == y.tdiv gm) = true := by simpa using hd2
                clear hd1 hd2
                go_wp2_with fail
                go_quiet ((go_at_call 45; exact quiet_same (l1Gcd_ok lx ly _ (by omega) (by omega))))
                rw [Hle.out]
                obtain ⟨hk, p0, p1, p2, p3, p4, p5⟩ := Hq.out nq
                clear Hq k0 k1
                generalize (wr.alloc (.cells #[.int .i64 x, .int .i64 y] 32)).drewN nq = wd at hk p0 p1 p2 p3 p4 p5 ⊢
                have ho2 := owns_kept ho hk
                have hk2 := kept_trans hb hk
                clear ho hk
                go_wp2_with fail
                go_quiet (fail)
                have ho3 : (wd.drewN nq).ownsRow w.heap.size 32 2 (.slice (some ⟨g, 0, none⟩) (r.length + 1) cap) (r.length + 1) (mvCells r.reverse ++ [.int .i64 lx, .int .i64 ly]) := by
                  have := owns_kept ho2 (kept_drewN wd nq)
                  rwa [He0.out] at this
                have hk3 := kept_trans hk2 (kept_drewN wd nq)
                replace p0 : (wd.drewN nq).cell? _ = _ := p0
                replace p1 : (wd.drewN nq).cell? _ = _ := p1
                replace p2 : (wd.drewN nq).cell? _ = _ := p2
                replace p3 : (wd.drewN nq).cell? _ = _ := p3
                replace p4 : (wd.drewN nq).frozen? _ = _ := p4
                replace p5 : (wd.drewN nq).frozen? _ = _ := p5
                clear ho2 hk2
                generalize wd.drewN nq = we at ho3 hk3 p0 p1 p2 p3 p4 p5 ⊢
                have q4 : IntKind.i64.wrap (x + lx) = x + lx := IntWalk.i64_in _ (by omega)
                have q5 : IntKind.i64.wrap (y + ly) = y + ly := IntWalk.i64_in _ (by omega)
                go_wp2_with fail
                have hst : ((we.setCell ⟨wr.heap.size, 0, none⟩ (.int .i64 (x + lx))).setCell ⟨wr.heap.size, 1, none⟩ (.int .i64 (y + ly))).drew.ownsRow w.heap.size 32 2 (.slice (some ⟨g, 0, none⟩) r.length cap) r.length (mvCells r.reverse) := by
                  have hne : ∀ j, (Value.slice (some ⟨g, 0, none⟩) r.length cap).ownBlock ≠ some (⟨wr.heap.size, j, none⟩ : Addr).block := fun j => by simp [Value.ownBlock]; omega
                  exact (ownsRow_setCell_other (ownsRow_setCell_other (ownsRow_pop hlen ho3) (hne 0) _) (hne 1) _).drew
                have hk4 : Below w.heap.size w ((we.setCell ⟨wr.heap.size, 0, none⟩ (.int .i64 (x + lx))).setCell ⟨wr.heap.size, 1, none⟩ (.int .i64 (y + ly))).drew := (kept_set (kept_set hk3 hb.size _) hb.size _).drew
                clear ho3 hk3
                go_still_tail 19, (by kernel_rfl)
                go_wp2_with (at_builtin; refine wpList_append_one ((we.setCell ⟨wr.heap.size, 0, none⟩ (.int .i64 (x + lx))).setCell ⟨wr.heap.size, 1, none⟩ (.int .i64 (y + ly))).drew rfl _ _ 25 rfl w.heap.size 32 i0 _ 2 16 Try.underlying25 hi hz0 hz1 hz2 rfl (by decide) _ _ _ rfl hst [.int .i64 (x + lx), .int .i64 (y + ly)] _ _ rfl rfl (by simp [Value.oneCell']) (by omega) (by decide) hk4.size rfl (by simp) ?_)
                intro g' cap' w3 ho4 hg3 hr3
                have hk5 := kept_grown hk4 hg3 hr3
                clear hst hg3
                go_wp2_with fail
                go_roundw
                case rel => exact ⟨t + 1, g', cap', (lx + x, ly + y) :: r, by omega, by go_num, (Hs.out.trans (Tidy.step_join _ _ _ Hz.out Hd.out)).symm, rfl, by rw [mvCells_cons]; dsimp only; rw [Int.add_comm lx, Int.add_comm ly]; exact ho4, hk5⟩
                case measure => simp [intOf]; omega
              · have Hd : Hid (Tidy.dir (lx, ly) ≠ Tidy.dir (x, y)) := by rw [Hdl.out, Hdm.out]; exact fun e => hd2 (Prod.mk.inj e).2
                have t1' : (lx.tdiv gl == x.tdiv gm) = true := by simpa using hd1
                have t2' : (ly.tdiv gl == y.tdiv gm) = false := by simpa using hd2
                clear hd1 hd2
                go_wp2_with fail
                go_quiet ((go_at_call 45; exact quiet_same (l1Gcd_ok lx ly _ (by omega) (by omega))))
                rw [Hle.out]
                obtain ⟨hk, p0, p1, p2, p3, p4, p5⟩ := Hq.out nq
                clear Hq k0 k1
                generalize (wr.alloc (.cells #[.int .i64 x, .int .i64 y] 32)).drewN nq = wd at hk p0 p1 p2 p3 p4 p5 ⊢
                have ho2 := owns_kept ho hk
                have hk2 := kept_trans hb hk
                clear ho hk
                go_wp2_with fail
                go_quiet (fail)
                have ho3 := owns_kept ho2 (kept_drewN wd nq)
                have hk3 := kept_trans hk2 (kept_drewN wd nq)
                replace p2 : (wd.drewN nq).cell? _ = _ := p2
                replace p3 : (wd.drewN nq).cell? _ = _ := p3
                clear ho2 hk2 p0 p1 p4 p5
                generalize wd.drewN nq = we at ho3 hk3 p2 p3 ⊢
                go_wp2_with (at_builtin; refine wpList_append_one we rfl _ _ 25 rfl w.heap.size 32 i0 _ 2 16 Try.underlying25 hi hz0 hz1 hz2 rfl (by decide) _ _ _ rfl ho3 [.int .i64 x, .int .i64 y] _ _ rfl rfl (by simp [Value.oneCell']) (by omega) (by decide) hk3.size rfl (by simp) ?_)
                intro g' cap' w3 ho4 hg3 hr3
                have hk5 := kept_grown hk3 hg3 hr3
                clear ho3 hg3
                go_wp2_with fail
                go_roundw
                case rel => exact ⟨t + 1, g', cap', (x, y) :: (lx, ly) :: r, by omega, by go_num, (Hs.out.trans (Tidy.step_next _ _ _ Hz.out Hd.out)).symm, rfl, by rw [mvCells_cons, List.reverse_cons]; exact ho4, hk5⟩
                case measure => simp [intOf]; omega
            · have Hd : Hid (Tidy.dir (lx, ly) ≠ Tidy.dir (x, y)) := by rw [Hdl.out, Hdm.out]; exact fun e => hd1 (Prod.mk.inj e).1
              have t1' : (lx.tdiv gl == x.tdiv gm) = false := by simpa using hd1
              clear hd1
              go_wp2_with fail
              go_quiet ((go_at_call 45; exact quiet_same (l1Gcd_ok lx ly _ (by omega) (by omega))))
              rw [Hle.out]
              obtain ⟨hk, p0, p1, p2, p3, p4, p5⟩ := Hq.out nq
              clear Hq k0 k1
              generalize (wr.alloc (.cells #[.int .i64 x, .int .i64 y] 32)).drewN nq = wd at hk p0 p1 p2 p3 p4 p5 ⊢
              have ho2 := owns_kept ho hk
              have hk2 := kept_trans hb hk
              clear ho hk
              go_wp2_with fail
              go_quiet (fail)
              have ho3 := owns_kept ho2 (kept_drewN wd nq)
              have hk3 := kept_trans hk2 (kept_drewN wd nq)
              replace p2 : (wd.drewN nq).cell? _ = _ := p2
              replace p3 : (wd.drewN nq).cell? _ = _ := p3
              clear ho2 hk2 p0 p1 p4 p5
              generalize wd.drewN nq = we at ho3 hk3 p2 p3 ⊢
              go_wp2_with (at_builtin; refine wpList_append_one we rfl _ _ 25 rfl w.heap.size 32 i0 _ 2 16 Try.underlying25 hi hz0 hz1 hz2 rfl (by decide) _ _ _ rfl ho3 [.int .i64 x, .int .i64 y] _ _ rfl rfl (by simp [Value.oneCell']) (by omega) (by decide) hk3.size rfl (by simp) ?_)
              intro g' cap' w3 ho4 hg3 hr3
              have hk5 := kept_grown hk3 hg3 hr3
              clear ho3 hg3
              go_wp2_with fail
              go_roundw
              case rel => exact ⟨t + 1, g', cap', (x, y) :: (lx, ly) :: r, by omega, by go_num, (Hs.out.trans (Tidy.step_next _ _ _ Hz.out Hd.out)).symm, rfl, by rw [mvCells_cons, List.reverse_cons]; exact ho4, hk5⟩
              case measure => simp [intOf]; omega
      · obtain rfl : t = ms.length := by omega
        rw [List.take_length] at Hrr
        have hrl : r.length ≤ 100 := by rw [Hrr.out]; have := Tidy.acc_len ms ms.length (Nat.le_refl _); rw [List.take_length] at this; omega
        have hrd : Reads wr 2 (.slice (some ⟨g, 0, none⟩) r.length cap) r.reverse.length (mvCells r.reverse) := by
          rw [List.length_reverse]; exact owns_reads ho
        have hh := has_owns ho
        have Hh := hide hh
        clear hh
        cases hin2 : mvsIn r.reverse with
        | false =>
          have Hfin : Hid (tidyRes ms = ([], false)) := by rw [Hrr.out] at hin2; simp [tidyRes, hin2, Hid]
          have Hin2 := hide hin2
          clear hin2
          go_wp2_with fail
          refine (l10Moves_ok _ r.reverse _ hrd).mono ?_
          rintro e w3 ⟨rfl, rfl⟩
          rw [Hin2.out]
          go_wp2_with fail
          go_ret2
          refine ⟨_, by rw [Hfin.out]; rfl, ?_, kept_alloc hb _⟩
          rw [Hfin.out]
          exact has_owns (owns_base (by simpa [mvCells] using World.ownsRow_lit (base := wr.heap.size) (e := 32) (size := 2) wr #[] 0 (Nat.le_refl _) (by decide) (by simp)) hb.size)
        | true =>
          have Hfin : Hid (tidyRes ms = (r.reverse, true)) := by
            have := Hin.out
            rw [Hrr.out] at hin2 ⊢
            simp [tidyRes, hin2, this, Hid]
          have Hin2 := hide hin2
          clear hin2
          go_wp2_with fail
          refine (l10Moves_ok _ r.reverse _ hrd).mono ?_
          rintro e w3 ⟨rfl, rfl⟩
          rw [Hin2.out]
          go_wp2_with fail
          go_ret2
          exact ⟨_, by rw [Hfin.out]; rfl, by rw [Hfin.out]; dsimp only; rw [List.length_reverse]; exact Hh.out, hb⟩
end Go.Proofs.Ytbaojldhbemcnaa
