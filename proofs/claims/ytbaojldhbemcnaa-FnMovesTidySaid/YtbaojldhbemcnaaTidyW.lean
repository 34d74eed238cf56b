/-
  MovesTidy of the program: it gives the tidy moves, in a slice of its own.
-/
import Derived.Test.YtbaojldhbemcnaaMv2
import Derived.Test.YtbaojldhbemcnaaGcd
import Derived.Test.YtbaojldhbemcnaaTidyP
import Derived.Deep.RegionHeld3
namespace Go.Proofs.Ytbaojldhbemcnaa
open Go.RowKit

/-- The quotient of a number by a positive one stays within a bound. -/
theorem tdiv_bd (x g M : Int) (h : -M ≤ x ∧ x ≤ M) : -M ≤ x.tdiv g ∧ x.tdiv g ≤ M := by
  have h1 : (x.tdiv g).natAbs ≤ x.natAbs := by
    rw [Int.natAbs_tdiv]
    exact Nat.div_le_self _ _
  omega

set_option maxHeartbeats 400000 in
theorem direction_ok (x y : Int) (w : World) (hx : -1000000000000 ≤ x ∧ x ≤ 1000000000000) (hy : -1000000000000 ≤ y ∧ y ≤ 1000000000000) (hz : (x, y) ≠ ((0 : Int), (0 : Int))) :
    Calls Try.prog 46 #[.agg #[.int .i64 x, .int .i64 y]] w fun e w' => e = .returned (.agg #[.int .i64 (Tidy.dir (x, y)).1, .int .i64 (Tidy.dir (x, y)).2]) ∧ Below w.heap.size w w' := by
  have hg := Tidy.gc_pos hz
  have Hz := hide hz
  have hd : Tidy.dir (x, y) = (x.tdiv (Tidy.gc (x, y)), y.tdiv (Tidy.gc (x, y))) := rfl
  have he : (Int.gcd x y : Int) = Tidy.gc (x, y) := rfl
  rw [hd]
  have He := hide he
  clear hd he hz
  generalize Tidy.gc (x, y) = g at hg He
  obtain ⟨a1, a2⟩ := tdiv_bd x g _ hx
  obtain ⟨b1, b2⟩ := tdiv_bd y g _ hy
  have Hx := hide hx
  have Hy := hide hy
  have hg0 : ¬ g = 0 := by omega
  have q1 : IntKind.i64.wrap (x.tdiv g) = x.tdiv g := IntWalk.i64_in _ (by omega)
  have q2 : IntKind.i64.wrap (y.tdiv g) = y.tdiv g := IntWalk.i64_in _ (by omega)
  clear hx hy
  go_enter Try.func46, Try.ntmps46
  go_wp2_with fail
  refine (divisor_b x y _ Hx.out Hy.out).mono ?_
  rintro e w1 ⟨rfl, hb⟩
  rw [He.out]
  obtain ⟨hc, hf⟩ := kept_cells hb
  have hz : w.heap.size + 1 < w1.heap.size := by have := hb.size; simp at this; omega
  go_wp2_with fail
  go_still_tail 9, (by kernel_rfl)
  go_wp2_with fail
  refine bodyPost_ret (v := .agg #[.int .i64 (x.tdiv g), .int .i64 (y.tdiv g)]) (by simp [results, Try.results46, go_sem, hc]) rfl ⟨rfl, ?_⟩
  exact (kept_set (kept_set (kept_trans (kept_alloc (kept_new w _) _) hb) (by simp) _) (by simp) _).drew


theorem eqlMv_t (a b : Int) (W : World) : (binOp .eql 32 (.agg #[.int .i64 a, .int .i64 b]) (.agg #[.int .i64 a, .int .i64 b])).run Try.prog W = .ok (.bool true) W := by
  go_simp

theorem eqlMv_f (a b c d : Int) (h : (a, b) ≠ (c, d)) (W : World) : (binOp .eql 32 (.agg #[.int .i64 a, .int .i64 b]) (.agg #[.int .i64 c, .int .i64 d])).run Try.prog W = .ok (.bool false) W := by
  by_cases h1 : a = c
  · subst h1
    have h2 : ¬ b = d := fun e => h (by rw [e])
    clear h
    go_simp
  · clear h
    go_simp

def tidyRes (ms : List (Int × Int)) : List (Int × Int) × Bool :=
  if mvsIn ms = true ∧ mvsIn (Tidy.acc ms).reverse = true then ((Tidy.acc ms).reverse, true) else ([], false)

def TidyPost (ms : List (Int × Int)) (w : World) (e : Ending) (w' : World) : Prop :=
  ∃ v, e = .returned (.tuple #[v, .bool (tidyRes ms).2]) ∧ Has w' w.heap.size 2 v (tidyRes ms).1.length (mvCells (tidyRes ms).1) ∧ Below w.heap.size w w'

theorem has_nil (w : World) (B size : Nat) : Has w B size (.slice none 0 0) 0 [] := ⟨by simp, by omega, .inl ⟨rfl, rfl⟩⟩

theorem mvCells_append (a b : List (Int × Int)) : mvCells (a ++ b) = mvCells a ++ mvCells b := by simp [mvCells]

theorem mvCells_cons (l : Int × Int) (r : List (Int × Int)) : mvCells (l :: r).reverse = mvCells r.reverse ++ [.int .i64 l.1, .int .i64 l.2] := by
  rw [List.reverse_cons, mvCells_append]
  rfl

set_option maxRecDepth 100000 in
set_option maxHeartbeats 2000000 in
theorem implTidy_ok (v : Value) (ms : List (Int × Int)) (w : World) (hr : Reads w 2 v ms.length (mvCells ms)) :
    Calls Try.prog 21 #[v] w (TidyPost ms w) := by
  obtain ⟨i0, hi, hz0, hz1, hz2⟩ := info_parts Try.infoMv
  have Hr := hide hr
  obtain ⟨_, hm, A, c, rfl, hc⟩ := hr
  cases hin : mvsIn ms with
  | false =>
    have Hfin : Hid (tidyRes ms = ([], false)) := by simp [tidyRes, hin, Hid]
    have Hin := hide hin
    clear hin
    go_enter Try.func21, Try.ntmps21
    go_wp2_with fail
    refine (movesValid_ok _ ms _ Hr.out).mono ?_
    rintro e w1 ⟨rfl, hb1⟩
    rw [Hin.out]
    go_wp2_with fail
    go_ret2
    exact ⟨_, by rw [Hfin.out]; rfl, by rw [Hfin.out]; exact has_nil _ _ _, hb1⟩
  | true =>
    obtain ⟨hl, hup⟩ := mvsIn_parts hin
    have Hup := hide hup
    have Hin := hide hin
    clear hin hup
    go_enter Try.func21, Try.ntmps21
    go_wp2_with fail
    refine (movesValid_ok _ ms _ Hr.out).mono ?_
    rintro e w1 ⟨rfl, hb1⟩
    rw [Hin.out]
    have ho1 : (w1.alloc (.cells #[] 32)).ownsRow w.heap.size 32 2 (.slice (some ⟨w1.heap.size, 0, none⟩) 0 0) 0 [] := by
      simpa using World.ownsRow_lit (base := w.heap.size) (e := 32) (size := 2) w1 #[] 0 hb1.size (by decide) (by simp)
    have hb1' := kept_alloc hb1 (.cells #[] 32)
    go_wp2_with fail
    go_loopw [4, 14] (fun v i wr => ∃ (t g cap : Nat) (r : List (Int × Int)), t ≤ ms.length ∧ i = .int .i64 t ∧ r = Tidy.acc (ms.take t) ∧ v = .slice (some ⟨g, 0, none⟩) r.length cap ∧ wr.ownsRow w.heap.size 32 2 (.slice (some ⟨g, 0, none⟩) r.length cap) r.length (mvCells r.reverse) ∧ Below w.heap.size w wr) (fun _ i _ => ms.length - (intOf i).toNat)
    case atStart => exact ⟨0, _, _, [], by omega, rfl, by simp [Tidy.acc], rfl, ho1, hb1'⟩
    case round =>
      obtain ⟨t, g, cap, r, ht, rfl, hrr, rfl, ho, hb⟩ := hrel
      have Hrr := hide hrr
      clear hrr hb1' ho1 hb1
      by_cases hlt : t < ms.length
      · obtain ⟨b, o, rfl, hbl, hcell⟩ := hc (by omega) (by omega)
        have h1 := (hb.cell (p := ⟨b, o + t * 2, none⟩) hbl).trans ((hcell (t * 2) (by omega)).trans (mvCells_x ms t hlt))
        have h2 : wr.cell? ⟨b, o + t * 2 + 1, none⟩ = _ := (hb.cell (p := ⟨b, o + t * 2 + 1, none⟩) hbl).trans ((hcell (t * 2 + 1) (by omega)).trans (mvCells_y ms t hlt))
        have hs := Tidy.acc_succ ms t hlt
        rw [← Hrr.out] at hs
        have hv := Hup.out t hlt hlt
        have hok : Tidy.Ok (10000000 * t) r := by rw [Hrr.out]; exact Tidy.ok_acc ms t (by omega) (fun i hi => Hup.out i hi hi)
        have hrl : r.length ≤ t := by rw [Hrr.out]; exact Tidy.acc_len ms t (by omega)
        clear hcell hc
        generalize ms[t] = p at h1 h2 hs hv
        obtain ⟨x, y⟩ := p
        obtain ⟨v1, v2, v3, v4⟩ := hv
        dsimp only at h1 h2 v1 v2 v3 v4
        have Hs := hide hs
        have Hok := hide hok
        clear hs hok
        by_cases hz : (x, y) = ((0 : Int), (0 : Int))
        · obtain ⟨rfl, rfl⟩ := Prod.mk.inj hz
          rw [Tidy.step_zero] at Hs
          go_wp2_with fail
          go_roundw
          case rel => exact ⟨t + 1, _, _, r, by omega, by go_num, Hs.out.symm, rfl, ho.alloc _, kept_alloc hb _⟩
          case measure => simp [intOf]; omega
        · have heq : ∀ W, (binOp .eql 32 (.agg #[.int .i64 x, .int .i64 y]) (.agg #[.int .i64 0, .int .i64 0])).run Try.prog W = .ok (.bool false) W := eqlMv_f x y 0 0 hz
          have Hz := hide hz
          clear hz
          have hgB0 := (ho.lt g rfl).1
          match r, hrl, ho, Hs, Hok with
          | [], hrl, ho, Hs, Hok =>
            simp only [List.length_nil] at ho ⊢
            have hq : ∀ m, Below wr.heap.size wr ((wr.alloc (.cells #[.int .i64 x, .int .i64 y] 32)).drewN m) ∧ ((wr.alloc (.cells #[.int .i64 x, .int .i64 y] 32)).drewN m).cell? ⟨wr.heap.size, 0, none⟩ = some (.int .i64 x) ∧ ((wr.alloc (.cells #[.int .i64 x, .int .i64 y] 32)).drewN m).cell? ⟨wr.heap.size, 1, none⟩ = some (.int .i64 y) :=
              fun m => ⟨kept_trans (kept_new _ _) (kept_drewN _ _), by go_simp, by go_simp⟩
            have Hq := hide hq
            clear hq
            go_wp2_with fail
            go_quiet (fail)
            rename_i nq
            obtain ⟨hk, p2, p3⟩ := Hq.out nq
            clear Hq
            generalize (wr.alloc (.cells #[.int .i64 x, .int .i64 y] 32)).drewN nq = wd2 at hk p2 p3 ⊢
            have ho2 := owns_kept ho hk
            have hk2 := kept_trans hb hk
            clear ho hk
            go_wp2_with (at_builtin; refine wpList_append_one wd2 rfl _ _ 25 rfl w.heap.size 32 i0 _ 2 16 Try.underlying25 hi hz0 hz1 hz2 rfl (by decide) _ _ _ rfl ho2 [.int .i64 x, .int .i64 y] _ _ rfl rfl (by simp [Value.oneCell']) (by omega) (by decide) hk2.size rfl (by simp) ?_)
            intro g' cap' w3 ho3 hg3 hr3
            have hk3 := kept_grown hk2 hg3 hr3
            clear ho2 hg3
            go_wp2_with fail
            go_roundw
            case rel => exact ⟨t + 1, g', cap', [(x, y)], by omega, by go_num, (Hs.out.trans (Tidy.step_first _ Hz.out)).symm, rfl, ho3, hk3⟩
            case measure => simp [intOf]; omega
          | l :: r, hrl, ho, Hs, Hok =>
            obtain ⟨lx, ly⟩ := l
            obtain ⟨⟨b1, b2, b3, b4⟩, hln⟩ := Hok.out _ (List.mem_cons_self ..)
            dsimp only at b1 b2 b3 b4
            have e0 : mvCells ((lx, ly) :: r).reverse = mvCells r.reverse ++ [.int .i64 lx, .int .i64 ly] := mvCells_cons _ _
            have hlen : (mvCells r.reverse).length = r.length * 2 := by rw [mvCells_len]; simp
            have k0 : wr.cell? ⟨g, r.length * 2, none⟩ = some (.int .i64 lx) := by
              rw [ho.cellAt _ (by simp), e0, List.getElem?_append_right (by omega), hlen]
              simp
            have k1 : wr.cell? ⟨g, r.length * 2 + 1, none⟩ = some (.int .i64 ly) := by
              rw [ho.cellAt _ (by simp; omega), e0, List.getElem?_append_right (by omega), hlen]
              simp [show r.length * 2 + 1 - r.length * 2 = 1 from by omega]
            have Hln := hide hln
            have He0 := hide e0
            clear e0 hln
            simp only [List.length_cons] at ho hrl ⊢
            have q1 : IntKind.i64.wrap (r.length : Int) = r.length := IntWalk.i64_in _ (by omega)
            have q2 : (0 : Int) ≤ (r.length : Int) := by omega
            have q3 : (r.length : Int) < (r.length : Int) + 1 := by omega
            by_cases hd : Tidy.dir (lx, ly) = Tidy.dir (x, y)
            · have hed : ∀ W, (binOp .eql 32 (.agg #[.int .i64 (Tidy.dir (lx, ly)).1, .int .i64 (Tidy.dir (lx, ly)).2]) (.agg #[.int .i64 (Tidy.dir (x, y)).1, .int .i64 (Tidy.dir (x, y)).2])).run Try.prog W = .ok (.bool true) W := by
                rw [hd]; exact eqlMv_t _ _
              have Hd := hide hd
              clear hd
              go_wp2_with fail
              go_region_held3 (fun w' => w'.cell? ⟨g, r.length * 2, none⟩ = some (.int .i64 lx) ∧ w'.cell? ⟨g, r.length * 2 + 1, none⟩ = some (.int .i64 ly) ∧ w'.cell? ⟨wr.heap.size, 0, none⟩ = some (.int .i64 x) ∧ w'.cell? ⟨wr.heap.size, 1, none⟩ = some (.int .i64 y))
                (first | go_keep | (go_split_ands; exact ⟨kept_cell hbd2 ‹_›, kept_cell hbd2 ‹_›, kept_cell hbd2 ‹_›, kept_cell hbd2 ‹_›⟩) | (go_split_ands; exact ⟨kept_cell hbd ‹_›, kept_cell hbd ‹_›, kept_cell hbd ‹_›, kept_cell hbd ‹_›⟩))
                (first
                  | (go_at_call_of 46 lx; refine (direction_ok lx ly _ ?_ ?_ Hln.out).mono ?_; (omega); (omega); rintro e wd ⟨rfl, hbd⟩)
                  | (go_at_call_of 46 x; refine (direction_ok x y _ ?_ ?_ Hz.out).mono ?_; (omega); (omega); rintro e wd2 ⟨rfl, hbd2⟩))
              have hk : Below wr.heap.size wr wd2 := kept_trans (kept_trans (kept_new _ _).drew hbd) hbd2
              have ho2 := owns_kept ho hk
              have p0 := kept_cell hk k0
              have p1 := kept_cell hk k1
              have p2 : wd2.cell? ⟨wr.heap.size, 0, none⟩ = some (.int .i64 x) := kept_cell hbd2 (kept_cell hbd (by go_simp))
              have p3 : wd2.cell? ⟨wr.heap.size, 1, none⟩ = some (.int .i64 y) := kept_cell hbd2 (kept_cell hbd (by go_simp))
              have f0 := ho2.frozenAt (r.length * 2)
              have f1 := ho2.frozenAt (r.length * 2 + 1)
              have q4 : IntKind.i64.wrap (lx + x) = lx + x := IntWalk.i64_in _ (by omega)
              have q5 : IntKind.i64.wrap (ly + y) = ly + y := IntWalk.i64_in _ (by omega)
              have s1 := (ho2.stored (r.length * 2) (.int .i64 (lx + x))).1
              have s2 := (s1.stored (r.length * 2 + 1) (.int .i64 (ly + y))).1
              rw [He0.out, set_two (mvCells r.reverse) [] _ _ _ _ _ hlen.symm] at s2
              have hk2 := kept_trans hb hk
              clear k0 k1 hbd hbd2 ho ho2 s1 hk
              go_wp2_with fail
              go_still_tail 23, (by kernel_rfl)
              go_wp2_with fail
              have hgB : w.heap.size ≤ g := hgB0
              go_roundw
              case rel => exact ⟨t + 1, g, cap, (lx + x, ly + y) :: r, by omega, by go_num, (Hs.out.trans (Tidy.step_join _ _ _ Hz.out Hd.out)).symm, rfl, by rw [mvCells_cons]; exact (by simpa using s2 : World.ownsRow _ _ _ _ _ _ _), (kept_set (kept_set hk2 hgB _) hgB _).drew⟩
              case measure => simp [intOf]; omega
            · have hed : ∀ W, (binOp .eql 32 (.agg #[.int .i64 (Tidy.dir (lx, ly)).1, .int .i64 (Tidy.dir (lx, ly)).2]) (.agg #[.int .i64 (Tidy.dir (x, y)).1, .int .i64 (Tidy.dir (x, y)).2])).run Try.prog W = .ok (.bool false) W := eqlMv_f _ _ _ _ hd
              have Hd := hide hd
              clear hd
              go_wp2_with fail
              go_region_held3 (fun w' => w'.cell? ⟨g, r.length * 2, none⟩ = some (.int .i64 lx) ∧ w'.cell? ⟨g, r.length * 2 + 1, none⟩ = some (.int .i64 ly) ∧ w'.cell? ⟨wr.heap.size, 0, none⟩ = some (.int .i64 x) ∧ w'.cell? ⟨wr.heap.size, 1, none⟩ = some (.int .i64 y))
                (first | go_keep | (go_split_ands; exact ⟨kept_cell hbd2 ‹_›, kept_cell hbd2 ‹_›, kept_cell hbd2 ‹_›, kept_cell hbd2 ‹_›⟩) | (go_split_ands; exact ⟨kept_cell hbd ‹_›, kept_cell hbd ‹_›, kept_cell hbd ‹_›, kept_cell hbd ‹_›⟩))
                (first
                  | (go_at_call_of 46 lx; refine (direction_ok lx ly _ ?_ ?_ Hln.out).mono ?_; (omega); (omega); rintro e wd ⟨rfl, hbd⟩)
                  | (go_at_call_of 46 x; refine (direction_ok x y _ ?_ ?_ Hz.out).mono ?_; (omega); (omega); rintro e wd2 ⟨rfl, hbd2⟩))
              have hk : Below wr.heap.size wr wd2 := kept_trans (kept_trans (kept_new _ _).drew hbd) hbd2
              have ho2 := owns_kept ho hk
              have p2 : wd2.cell? ⟨wr.heap.size, 0, none⟩ = some (.int .i64 x) := kept_cell hbd2 (kept_cell hbd (by go_simp))
              have p3 : wd2.cell? ⟨wr.heap.size, 1, none⟩ = some (.int .i64 y) := kept_cell hbd2 (kept_cell hbd (by go_simp))
              have hk2 := kept_trans hb hk
              clear k0 k1 hbd hbd2 ho hk
              go_wp2_with (at_builtin; go_loud (refine wpList_append_one wd2 rfl _ _ 25 rfl w.heap.size 32 i0 _ 2 16 Try.underlying25 hi hz0 hz1 hz2 rfl (by decide) _ _ _ rfl ho2 [.int .i64 x, .int .i64 y] _ _ rfl rfl (by simp [Value.oneCell']) (by omega) (by decide) hk2.size rfl (by simp) ?_))
              intro g' cap' w3 ho3 hg3 hr3
              have hk3 := kept_grown hk2 hg3 hr3
              clear ho2 hg3
              go_wp2_with fail
              go_roundw
              case rel => exact ⟨t + 1, g', cap', (x, y) :: (lx, ly) :: r, by omega, by go_num, (Hs.out.trans (Tidy.step_next _ _ _ Hz.out Hd.out)).symm, rfl, by rw [mvCells_cons, List.reverse_cons]; exact ho3, hk3⟩
              case measure => simp [intOf]; omega
      · obtain rfl : t = ms.length := by omega
        rw [List.take_length] at Hrr
        have hrl : r.length ≤ 100 := by rw [Hrr.out]; have := Tidy.acc_len ms ms.length (Nat.le_refl _); rw [List.take_length] at this; omega
        have hrd : Reads wr 2 (.slice (some ⟨g, 0, none⟩) r.length cap) r.reverse.length (mvCells r.reverse) := by
          rw [List.length_reverse]; exact owns_reads ho
        have hcap : r.length ≤ cap := by
          rcases ho.2 with ⟨h', _⟩ | ⟨g', cap', cur, h', _, _, h3, _⟩
          · simp at h'
          · simp only [Value.slice.injEq, Option.some.injEq, Addr.mk.injEq, and_true, true_and] at h'
            omega
        have hh := has_clip (has_owns ho) r.length
        have Hh := hide hh
        clear hh
        cases hin2 : mvsIn r.reverse with
        | false =>
          have Hfin : Hid (tidyRes ms = ([], false)) := by rw [Hrr.out] at hin2; simp [tidyRes, hin2, Hid]
          have Hin2 := hide hin2
          clear hin2
          go_wp2_with fail
          refine (movesValid_ok _ r.reverse _ hrd).mono ?_
          rintro e w3 ⟨rfl, hb3⟩
          rw [Hin2.out]
          go_wp2_with fail
          go_ret2
          exact ⟨_, by rw [Hfin.out]; rfl, by rw [Hfin.out]; exact has_nil _ _ _, kept_trans hb hb3⟩
        | true =>
          have Hfin : Hid (tidyRes ms = (r.reverse, true)) := by
            have := Hin.out
            rw [Hrr.out] at hin2 ⊢
            simp [tidyRes, hin2, this, Hid]
          have Hin2 := hide hin2
          clear hin2
          go_wp2_with fail
          refine (movesValid_ok _ r.reverse _ hrd).mono ?_
          rintro e w3 ⟨rfl, hb3⟩
          rw [Hin2.out]
          go_wp2_with (first | (go_at_call 47; go_in) | fail)
          go_ret2
          exact ⟨_, by rw [Hfin.out]; rfl, by rw [Hfin.out]; dsimp only; rw [List.length_reverse]; exact has_kept Hh.out hb3, kept_trans hb hb3⟩
end Go.Proofs.Ytbaojldhbemcnaa
