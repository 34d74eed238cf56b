/-
  A point of a design, a row of a design: some points, as many as asked if there are any.
-/
import Derived.Test.YtnlmiemnblppbaaRw
namespace Go.Proofs.Ytnlmiemnblppbaa
open Go.RowKit

set_option maxRecDepth 100000 in
set_option maxHeartbeats 2000000 in
theorem designAt_some (v : Value) (ws : List W9) (T : Int) (w : World) (hr : Reads w 9 v ws.length (wlCells ws)) (hok : designB ws = true) (hT : 0 ≤ T ∧ T ≤ 23) :
    Calls Try.prog 102 #[v, .int .i64 T] w (SomeCB w) := by
  have hn : ws.length ≤ 1048576 := by
    simp only [designB, Bool.and_eq_true, decide_eq_true_eq] at hok
    omega
  have hz := hide (blk_new w zero8 51)
  have hk0 := kept_new w (.cells zero8.arr 51)
  have Hd := hide (fun W hr => designSpec_ok v ws W hr hn)
  rw [hok] at Hd
  have Hi := hide (fun W => l1Is_ok T W)
  rw [show decide (0 ≤ T ∧ T ≤ 23) = true from decide_eq_true hT] at Hi
  have Ha := hide (fun W hr => l5At_some v ws T W hr hok hT)
  have Hr := hide (reads_kept hr hk0)
  clear hr hok hT
  go_enter Try.func102, Try.ntmps102
  go_wp2_with fail
  refine (Hd.out _ Hr.out).mono ?_
  rintro e w1 ⟨rfl, hb1⟩
  have Hr1 := hide (reads_kept Hr.out hb1)
  have hz1 := hide (blk_kept hz.out hb1)
  have hk1 := kept_trans hk0 hb1
  clear hb1 Hr hz hk0
  go_wp2_with fail
  refine (Hi.out _).mono ?_
  rintro e w2 ⟨rfl, rfl⟩
  go_wp2_with fail
  refine (Ha.out _ Hr1.out).mono ?_
  rintro e w3 ⟨d, rfl, hb3⟩
  have hz3 := hide (blk_kept hz1.out hb3)
  have hk3 := kept_trans hk1 hb3
  clear hb3 hk1 hz1 Hr1
  have Hdn := hide (fun W => l2Done_some d W)
  go_wp2_with fail
  refine (Hdn.out _).mono ?_
  rintro e w4 ⟨d2, ok, rfl, hb4⟩
  have hz4 := blk_kept hz3.out hb4
  have hk4 := kept_trans hk3 hb4
  obtain ⟨q0, q1, q2, q3, q4, q5, q6, q7⟩ := blk_cells hz4
  obtain ⟨f0, f1, f2, f3, f4, f5, f6, f7⟩ := blk_frees hz4
  have hZ := hide (blk_set8 hz4 d2)
  have hB := hide (kept_set8 hk4 (g := w.heap.size) (Nat.le_refl _) d2)
  simp only [zero8] at q0 q1 q2 q3 q4 q5 q6 q7
  rw [val_spell]
  clear hb4 hk3 hz3 hz4 hk4
  go_wp2_with fail
  change bodyPost _ _ _ _ _ (set8w w4 w.heap.size d2)
  generalize set8w w4 w.heap.size d2 = wz at *
  obtain ⟨z0, z1, z2, z3, z4, z5, z6, z7⟩ := blk_cells hZ.out
  exact bodyPost_ret (v := .tuple #[d2.val, .bool ok]) (by simp [results, Try.results102, go_sem, val_spell, z0, z1, z2, z3, z4, z5, z6, z7]) rfl ⟨_, _, rfl, hB.out⟩

/-- A row of a design. -/
def AnyRow (n : Nat) (w : World) (e : Ending) (w' : World) : Prop :=
  ∃ (v : Value) (cs : List C8) (ok : Bool), e = .returned (.tuple #[v, .bool ok]) ∧ w'.ownsRow w.heap.size 51 8 v cs.length (cyCells cs) ∧ cs.length ≤ 24 ∧ (ok = true → cs.length = n) ∧ Below w.heap.size w w'

theorem ro_app (a b : List C8) : cyCells (a ++ b) = cyCells a ++ cyCells b := by simp [cyCells]
theorem ro_one (c : C8) : cyCells [c] = c.cells := by simp [cyCells]

set_option maxRecDepth 100000 in
set_option maxHeartbeats 4000000 in
theorem rowOf_any (v : Value) (ws : List W9) (n : Nat) (w : World) (hr : Reads w 9 v ws.length (wlCells ws)) (hl : ws.length ≤ 1048576) (hn : divB n = true) :
    Calls Try.prog 92 #[v, .int .i64 n] w (AnyRow n w) := by
  obtain ⟨i0, hi, hz0, hz1, hz2⟩ := info_parts Try.infoCy
  have hb0 := kept_new w (.cells #[] 51)
  have ho0 : (w.alloc (.cells #[] 51)).ownsRow w.heap.size 51 8 (.slice (some ⟨w.heap.size, 0, none⟩) 0 0) 0 [] := by
    simpa using World.ownsRow_lit (base := w.heap.size) (e := 51) (size := 8) w #[] 0 (Nat.le_refl _) (by decide) (by simp)
  have Hr0 := hide (reads_kept hr hb0)
  have Hr := hide hr
  have hdn : 1 ≤ n ∧ n ≤ 24 ∧ 24 % n = 0 := of_decide_eq_true hn
  obtain ⟨hn1, hn2, hn3⟩ := hdn
  have Hl := hide (fun W => l6rLength_ok n W (by omega))
  rw [hn] at Hl
  have Hd := hide (fun W hr => designSpec_ok v ws W hr hl)
  cases hok : designB ws with
  | false =>
    rw [hok] at Hd
    have Ho0 := hide ho0
    clear hok ho0 hr hn
    go_enter Try.func92, Try.ntmps92
    go_wp2_with fail
    refine (Hl.out _).mono ?_
    rintro e w1 ⟨rfl, rfl⟩
    go_wp2_with fail
    refine (Hd.out _ Hr0.out).mono ?_
    rintro e w1 ⟨rfl, hb1⟩
    go_wp2_with fail
    go_ret2
    exact ⟨_, [], _, rfl, owns_kept Ho0.out hb1, by simp, by simp, kept_trans hb0 hb1⟩
  | true =>
    rw [hok] at Hd
    have Ha := hide (fun T W hr hT => designAt_some v ws T W hr hok hT)
    obtain ⟨Q, hQ⟩ : ∃ Q : Nat, 24 / n = Q := ⟨_, rfl⟩
    have hQn : n * Q = 24 := by rw [← hQ]; exact Nat.mul_div_cancel' (Nat.dvd_of_mod_eq_zero hn3)
    have hq1 : (24 : Int).tdiv (n : Int) = Q := by rw [← hQ]; rfl
    have hQ24 : Q ≤ 24 := by rw [← hQ]; exact Nat.div_le_self _ _
    have hq2 : IntKind.i64.wrap ((24 : Int).tdiv (n : Int)) = Q := by rw [hq1]; exact IntWalk.i64_in _ (by omega)
    have hn0 : ¬ (n : Int) = 0 := by omega
    clear hok hr hn hn3 hQ
    go_enter Try.func92, Try.ntmps92
    go_wp2_with fail
    refine (Hl.out _).mono ?_
    rintro e w1 ⟨rfl, rfl⟩
    go_wp2_with fail
    refine (Hd.out _ Hr0.out).mono ?_
    rintro e w1 ⟨rfl, hb1⟩
    have ho1 := owns_kept ho0 hb1
    have hb01 := kept_trans hb0 hb1
    clear ho0 hb0 hb1 Hr0 Hd
    go_wp2_with fail
    go_loopw [6, 7] (fun u i wr => ∃ (t g cap : Nat) (cs : List C8), t ≤ n ∧ i = .int .i64 t ∧ u = .slice (some ⟨g, 0, none⟩) t cap ∧ cs.length = t ∧ wr.ownsRow w.heap.size 51 8 (.slice (some ⟨g, 0, none⟩) t cap) t (cyCells cs) ∧ Below w.heap.size w wr) (fun _ i _ => n - (intOf i).toNat)
    case atStart => exact ⟨0, _, _, [], by omega, rfl, rfl, rfl, ho1, hb01⟩
    case round =>
      obtain ⟨t, g, cap, cs, ht, rfl, rfl, hcl, ho, hb⟩ := hrel
      clear ho1 hb01
      by_cases hlt : t < n
      · have hlt' : (t : Int) < (n : Int) := by omega
        have hTb : t * Q ≤ 23 := by
          have h2 : (t + 1) * Q ≤ n * Q := Nat.mul_le_mul_right _ hlt
          rw [hQn, Nat.add_mul] at h2
          have hQ1 : 1 ≤ Q := by
            rcases Nat.eq_zero_or_pos Q with h | h
            · rw [h] at hQn; omega
            · exact h
          omega
        obtain ⟨T, hT⟩ : ∃ T : Nat, t * Q = T := ⟨_, rfl⟩
        rw [hT] at hTb
        have hm : ((t : Int) * (Q : Int)) = (T : Int) := by rw [← hT]; simp
        have hm2 : IntKind.i64.wrap ((t : Int) * (Q : Int)) = (T : Int) := by rw [hm]; exact IntWalk.i64_in _ (by omega)
        have HaT := hide (fun W hr => Ha.out (T : Int) W hr (by omega))
        have Hrr := hide (reads_kept Hr.out hb)
        clear hT
        go_wp2_with fail
        refine (HaT.out _ Hrr.out).mono ?_
        rintro e w2 ⟨d, ok, rfl, hb2⟩
        have ho2 := owns_kept ho hb2
        have hb02 := kept_trans hb hb2
        have hbox := boxed w2 d 51
        have b0 : (w2.alloc (.cells #[.int .i64 d.a0, .int .i64 d.a1, .int .i64 d.a2, .int .i64 d.a3, .int .i64 d.a4, .int .i64 d.a5, .int .i64 d.a6, .int .i64 d.a7] 51)).cell? ⟨w2.heap.size, 0, none⟩ = some (.int .i64 d.a0) := hbox 0 (by decide)
        have b1 : (w2.alloc (.cells #[.int .i64 d.a0, .int .i64 d.a1, .int .i64 d.a2, .int .i64 d.a3, .int .i64 d.a4, .int .i64 d.a5, .int .i64 d.a6, .int .i64 d.a7] 51)).cell? ⟨w2.heap.size, 1, none⟩ = some (.int .i64 d.a1) := hbox 1 (by decide)
        have b2 : (w2.alloc (.cells #[.int .i64 d.a0, .int .i64 d.a1, .int .i64 d.a2, .int .i64 d.a3, .int .i64 d.a4, .int .i64 d.a5, .int .i64 d.a6, .int .i64 d.a7] 51)).cell? ⟨w2.heap.size, 2, none⟩ = some (.int .i64 d.a2) := hbox 2 (by decide)
        have b3 : (w2.alloc (.cells #[.int .i64 d.a0, .int .i64 d.a1, .int .i64 d.a2, .int .i64 d.a3, .int .i64 d.a4, .int .i64 d.a5, .int .i64 d.a6, .int .i64 d.a7] 51)).cell? ⟨w2.heap.size, 3, none⟩ = some (.int .i64 d.a3) := hbox 3 (by decide)
        have b4 : (w2.alloc (.cells #[.int .i64 d.a0, .int .i64 d.a1, .int .i64 d.a2, .int .i64 d.a3, .int .i64 d.a4, .int .i64 d.a5, .int .i64 d.a6, .int .i64 d.a7] 51)).cell? ⟨w2.heap.size, 4, none⟩ = some (.int .i64 d.a4) := hbox 4 (by decide)
        have b5 : (w2.alloc (.cells #[.int .i64 d.a0, .int .i64 d.a1, .int .i64 d.a2, .int .i64 d.a3, .int .i64 d.a4, .int .i64 d.a5, .int .i64 d.a6, .int .i64 d.a7] 51)).cell? ⟨w2.heap.size, 5, none⟩ = some (.int .i64 d.a5) := hbox 5 (by decide)
        have b6 : (w2.alloc (.cells #[.int .i64 d.a0, .int .i64 d.a1, .int .i64 d.a2, .int .i64 d.a3, .int .i64 d.a4, .int .i64 d.a5, .int .i64 d.a6, .int .i64 d.a7] 51)).cell? ⟨w2.heap.size, 6, none⟩ = some (.int .i64 d.a6) := hbox 6 (by decide)
        have b7 : (w2.alloc (.cells #[.int .i64 d.a0, .int .i64 d.a1, .int .i64 d.a2, .int .i64 d.a3, .int .i64 d.a4, .int .i64 d.a5, .int .i64 d.a6, .int .i64 d.a7] 51)).cell? ⟨w2.heap.size, 7, none⟩ = some (.int .i64 d.a7) := hbox 7 (by decide)
        have hka := kept_new w2 (.cells #[.int .i64 d.a0, .int .i64 d.a1, .int .i64 d.a2, .int .i64 d.a3, .int .i64 d.a4, .int .i64 d.a5, .int .i64 d.a6, .int .i64 d.a7] 51)
        have hka0 := kept_trans hb02 hka
        have hoa := owns_kept ho2 hka
        clear hbox ho hb hb2 Hrr HaT hm
        rw [val_spell]
        cases ok with
        | false =>
          have hoe := World.ownsRow_lit (base := w.heap.size) (e := 51) (size := 8) (w2.alloc (.cells #[.int .i64 d.a0, .int .i64 d.a1, .int .i64 d.a2, .int .i64 d.a3, .int .i64 d.a4, .int .i64 d.a5, .int .i64 d.a6, .int .i64 d.a7] 51)) #[] 0 hka0.size (by decide) (by simp)
          have hke := kept_alloc hka0 (.cells #[] 51)
          rw [show (w2.alloc (.cells #[.int .i64 d.a0, .int .i64 d.a1, .int .i64 d.a2, .int .i64 d.a3, .int .i64 d.a4, .int .i64 d.a5, .int .i64 d.a6, .int .i64 d.a7] 51)).heap.size = w2.heap.size + 1 from by simp] at hoe
          clear hoa b0 b1 b2 b3 b4 b5 b6 b7
          go_wp2_with fail
          go_ret2
          exact ⟨_, [], _, rfl, hoe, by simp, by simp, hke⟩
        | true =>
          generalize hwa : w2.alloc (.cells #[.int .i64 d.a0, .int .i64 d.a1, .int .i64 d.a2, .int .i64 d.a3, .int .i64 d.a4, .int .i64 d.a5, .int .i64 d.a6, .int .i64 d.a7] 51) = wa at *
          go_wp2_with (at_builtin; refine wpList_append_one wa rfl _ _ 39 rfl w.heap.size 51 i0 _ 8 64 Try.underlying39 hi hz0 hz1 hz2 rfl (by decide) _ _ _ rfl hoa d.cells _ _ rfl rfl (by simp [Value.oneCell', C8.cells]) (by omega) (by decide) hka0.size rfl (by simp) ?_)
          intro g' cap' w3 ho3 hg3 hr3
          have hk3 := kept_grown hka0 hg3 hr3
          clear hoa hg3
          go_wp2_with fail
          go_roundw
          case rel => exact ⟨t + 1, g', cap', cs ++ [d], by omega, by go_num, rfl, by simp [hcl], by rw [ro_app, ro_one]; exact ho3, hk3⟩
          case measure => simp [intOf]; omega
      · obtain rfl : t = n := by omega
        go_wp2_with fail
        go_ret2
        exact ⟨_, cs, _, rfl, by rw [hcl]; exact ho, by omega, fun _ => hcl, hb⟩

end Go.Proofs.Ytnlmiemnblppbaa
