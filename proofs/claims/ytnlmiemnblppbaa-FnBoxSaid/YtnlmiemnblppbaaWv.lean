/-
  DesignValid, of the program and of the reference.
-/
import Derived.Test.YtnlmiemnblppbaaWl
import Derived.Test.YtnlmiemnblppbaaWm
import Derived.Test.YtnlmiemnblppbaaWc
namespace Go.Proofs.Ytnlmiemnblppbaa
open Go.RowKit

theorem okB_t {x : W9} (h : x.okB = true) : -1000 ≤ x.s ∧ x.s ≤ 1000 ∧ x.c.smallB 1000000 = true := by
  simp only [W9.okB, Bool.and_eq_true, decide_eq_true_eq] at h
  exact ⟨h.1.1, h.1.2, h.2⟩

def okUpto (ws : List W9) (t : Nat) : Prop := ∀ i (h : i < ws.length), i < t → (ws[i]).okB = true

theorem allW_no {ws : List W9} {t : Nat} (h : t < ws.length) (hn : (ws[t]).okB = false) : ws.all W9.okB = false := by
  cases hh : ws.all W9.okB with
  | false => rfl
  | true =>
    rw [List.all_eq_true] at hh
    rw [hh _ (List.getElem_mem h)] at hn
    cases hn

theorem allW_yes {ws : List W9} (h : okUpto ws ws.length) : ws.all W9.okB = true := by
  rw [List.all_eq_true]
  intro m hm
  obtain ⟨i, hi, rfl⟩ := List.getElem_of_mem hm
  exact h i hi hi

theorem okUpto_succ {ws : List W9} {t : Nat} (h : okUpto ws t) (hn : ∀ h : t < ws.length, (ws[t]).okB = true) : okUpto ws (t + 1) := by
  intro i hi hit
  rcases Nat.lt_or_ge i t with hlt | hge
  · exact h i hi hlt
  · obtain rfl : i = t := by omega
    exact hn hi

set_option maxHeartbeats 800000 in
theorem designSpec_ok (v : Value) (ws : List W9) (w : World) (hr : Reads w 9 v ws.length (wlCells ws)) (hn : ws.length ≤ 1048576) :
    Calls Try.prog 101 #[v] w fun e w' => e = .returned (.bool (designB ws)) ∧ Below w.heap.size w w' := by
  obtain ⟨_, hm, A, c, rfl, hc⟩ := hr
  by_cases hl : ws.length ≤ 12
  · have E : Hid (designB ws = ws.all W9.okB) := by simp [designB, hl, Hid]
    go_enter Try.func101, Try.ntmps101
    go_wp2_with fail
    go_loopw [3] (fun i wr => ∃ t : Nat, t ≤ ws.length ∧ i = .int .i64 t ∧ okUpto ws t ∧ Below w.heap.size w wr) (fun i _ => ws.length - (intOf i).toNat)
    case atStart => exact ⟨0, by omega, rfl, fun _ _ h => absurd h (by omega), Below.refl _ _⟩
    case round =>
      obtain ⟨t, ht, rfl, hup, hb⟩ := hrel
      by_cases hlt : t < ws.length
      · obtain ⟨b, o, rfl, hbl, hcell⟩ := hc (by omega) (by omega)
        have hA := wl_cells (below_cells hb hbl hcell) t hlt
        have Hyes := hide (okUpto_succ hup)
        have Hno := hide (allW_no hlt)
        clear hcell hc hup
        generalize hmt : ws[t] = m at hA Hyes Hno
        have Hmt := hide hmt
        clear hmt
        obtain ⟨p0, p1, p2, p3, p4, p5, p6, p7, p8⟩ := hA
        by_cases hs : -1000 ≤ m.s ∧ m.s ≤ 1000
        · have Ev : Hid (m.okB = m.c.smallB 1000000) := by simp [W9.okB, hs, Hid]
          have Hs := hide hs
          clear hs
          cases hv : m.c.smallB 1000000
          · have Hv := hide hv
            clear hv
            go_wp2_with fail
            refine (l6In_t _ _ _ _ Hs.out.1 Hs.out.2).mono ?_
            rintro e w1 ⟨rfl, rfl⟩
            go_wp2_with fail
            refine (cycValid_ok' m.c _).mono ?_
            rintro e w1 ⟨rfl, hb1⟩
            rw [Hv.out]
            go_wp2_with fail
            go_ret
            exact ⟨by rw [E.out, Hno.out (by rw [Ev.out]; exact Hv.out)]; rfl, kept_trans hb hb1⟩
          · have Hv := hide hv
            clear hv
            go_wp2_with fail
            refine (l6In_t _ _ _ _ Hs.out.1 Hs.out.2).mono ?_
            rintro e w1 ⟨rfl, rfl⟩
            go_wp2_with fail
            refine (cycValid_ok' m.c _).mono ?_
            rintro e w1 ⟨rfl, hb1⟩
            rw [Hv.out]
            go_wp2_with fail
            go_roundw
            case rel => exact ⟨t + 1, by omega, by go_num, Hyes.out fun _ => by rw [Hmt.out, Ev.out]; exact Hv.out, kept_trans hb hb1⟩
            case measure => simp [intOf]; omega
        · have Ev : Hid (m.okB = false) := by simp [W9.okB, hs, Hid]
          have Hs := hide hs
          clear hs
          go_wp2_with fail
          refine (l6In_f _ _ _ _ Hs.out).mono ?_
          rintro e w1 ⟨rfl, rfl⟩
          go_wp2_with fail
          go_ret
          exact ⟨by rw [E.out, Hno.out Ev.out]; rfl, hb⟩
      · obtain rfl : t = ws.length := by omega
        have Ha := hide (allW_yes hup)
        clear hup
        go_wp2_with fail
        go_ret
        exact ⟨by rw [E.out, Ha.out]; rfl, hb⟩
  · have E : Hid (designB ws = false) := by simp [designB, hl, Hid]
    go_enter Try.func101, Try.ntmps101
    go_wp2_with fail
    go_ret
    exact ⟨by rw [E.out]; rfl, Below.refl _ _⟩

end Go.Proofs.Ytnlmiemnblppbaa
