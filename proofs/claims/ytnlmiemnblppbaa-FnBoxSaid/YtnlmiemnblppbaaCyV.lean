/-
  PolyValid and RowValid, of the program and of the reference.
-/
import Derived.Test.YtnlmiemnblppbaaCy4
namespace Go.Proofs.Ytnlmiemnblppbaa
open Go.RowKit

def allSmall (cs : List C8) (n : Int) : Bool := cs.all fun c => c.smallB n
def smallUpto (cs : List C8) (n : Int) (t : Nat) : Prop := ∀ i (h : i < cs.length), i < t → (cs[i]).smallB n = true
def polyB (cs : List C8) : Bool := allSmall cs 100 && decide (1 ≤ cs.length ∧ cs.length ≤ 48)
def divB (n : Nat) : Bool := decide (1 ≤ n ∧ n ≤ 24 ∧ 24 % n = 0)
def rowB (cs : List C8) : Bool := allSmall cs 1000000 && divB cs.length

theorem all_no {cs : List C8} {n : Int} {t : Nat} (h : t < cs.length) (hn : (cs[t]).smallB n = false) : allSmall cs n = false := by
  cases hh : allSmall cs n with
  | false => rfl
  | true =>
    simp only [allSmall, List.all_eq_true] at hh
    rw [hh _ (List.getElem_mem h)] at hn
    cases hn

theorem all_yes {cs : List C8} {n : Int} (h : smallUpto cs n cs.length) : allSmall cs n = true := by
  simp only [allSmall, List.all_eq_true]
  intro m hm
  obtain ⟨i, hi, rfl⟩ := List.getElem_of_mem hm
  exact h i hi hi

theorem upto_succ {cs : List C8} {n : Int} {t : Nat} (h : smallUpto cs n t) (hn : ∀ h : t < cs.length, (cs[t]).smallB n = true) : smallUpto cs n (t + 1) := by
  intro i hi hit
  rcases Nat.lt_or_ge i t with hlt | hge
  · exact h i hi hlt
  · obtain rfl : i = t := by omega
    exact hn hi

theorem tmod24 (n : Nat) : (24 : Int).tmod n = (24 % n : Nat) := rfl

theorem mod24 (n : Nat) (_h : 1 ≤ n) : IntKind.i64.wrap ((24 : Int).tmod n) = (24 : Int).tmod n := by
  have := Nat.mod_le 24 n
  rw [tmod24]
  generalize 24 % n = m at this
  exact IntWalk.i64_in _ (by omega)

theorem l6rLength_ok (n : Nat) (w : World) (hn : n ≤ 1048576) :
    Calls Try.prog 78 #[.int .i64 n] w fun e w' => e = .returned (.bool (divB n)) ∧ w = w' := by
  by_cases h1 : 1 ≤ n
  · have h0 : (1 : Int) ≤ n := by omega
    by_cases h2 : n ≤ 24
    · have e : divB n = decide ((24 : Int).tmod n = 0) := by
        unfold divB
        rw [tmod24]
        exact decide_eq_decide.2 ⟨fun h => by omega, fun h => ⟨h1, h2, by omega⟩⟩
      have E := hide e
      clear e
      have hz : ¬ (n : Int) = 0 := by omega
      have hw := mod24 n h1
      go_enter Try.func78, Try.ntmps78
      go_wp2_with fail
      go_ret
      exact ⟨by rw [E.out]; rfl, rfl⟩
    · have E : Hid (divB n = false) := hide (decide_eq_false (by omega))
      go_enter Try.func78, Try.ntmps78
      go_wp2_with fail
      go_ret
      exact ⟨by rw [E.out]; rfl, rfl⟩
  · have E : Hid (divB n = false) := hide (decide_eq_false (by omega))
    go_enter Try.func78, Try.ntmps78
    go_wp2_with fail
    go_ret
    exact ⟨by rw [E.out]; rfl, rfl⟩

theorem divides_ok (n : Nat) (w : World) (hn : n ≤ 1048576) :
    Calls Try.prog 81 #[.int .i64 n] w fun e w' => e = .returned (.bool (divB n)) ∧ w = w' := by
  by_cases h1 : 1 ≤ n
  · have h0 : (1 : Int) ≤ n := by omega
    have e : divB n = decide ((24 : Int).tmod n = 0) := by
      unfold divB
      rw [tmod24]
      refine decide_eq_decide.2 ⟨fun h => by omega, fun h => ⟨h1, ?_, by omega⟩⟩
      by_cases h2 : n ≤ 24
      · exact h2
      · rw [Nat.mod_eq_of_lt (by omega)] at h
        cases h
    have E := hide e
    clear e
    have hz : ¬ (n : Int) = 0 := by omega
    have hw := mod24 n h1
    go_enter Try.func81, Try.ntmps81
    go_wp2_with fail
    go_ret
    exact ⟨by rw [E.out]; rfl, rfl⟩
  · have E : Hid (divB n = false) := hide (decide_eq_false (by omega))
    go_enter Try.func81, Try.ntmps81
    go_wp2_with fail
    go_ret
    exact ⟨by rw [E.out]; rfl, rfl⟩

set_option maxRecDepth 100000 in
set_option maxHeartbeats 800000 in
theorem rowIdx_ok (v : Value) (cs : List C8) (w : World) (hr : Reads w 8 v cs.length (cyCells cs)) :
    Calls Try.prog 99 #[v, .func (.func 83) #[] #[]] w fun e w' => ∃ k : Int, e = .returned (.int .i64 k) ∧ (decide (0 ≤ k) = !allSmall cs 1000000) ∧ Below w.heap.size w w' := by
  obtain ⟨_, hm, A, c, rfl, hc⟩ := hr
  go_enter Try.func99, Try.ntmps99
  go_wp2_with fail
  go_loopw [8] (fun i wr => ∃ t : Nat, t ≤ cs.length ∧ i = .int .i64 t ∧ smallUpto cs 1000000 t ∧ Below w.heap.size w wr) (fun i _ => cs.length - (intOf i).toNat)
  case atStart => exact ⟨0, by omega, rfl, fun _ _ h => absurd h (by omega), Below.refl _ _⟩
  case round =>
    obtain ⟨t, ht, rfl, hup, hb⟩ := hrel
    by_cases hlt : t < cs.length
    · obtain ⟨b, o, rfl, hbl, hcell⟩ := hc (by omega) (by omega)
      have hA := cyc_cells (below_cells hb hbl hcell) t hlt
      have Hyes := hide (upto_succ hup)
      have Hno := hide (all_no (n := 1000000) hlt)
      clear hcell hc hup
      generalize hmt : cs[t] = m at hA Hyes Hno
      have Hmt := hide hmt
      clear hmt
      obtain ⟨p0, p1, p2, p3, p4, p5, p6, p7⟩ := hA
      cases hv : m.smallB 1000000
      · have Hv := hide hv
        clear hv
        go_wp2_with fail
        refine (rowNot_ok m _).mono ?_
        rintro e w1 ⟨rfl, hb1⟩
        rw [Hv.out]
        go_wp2_with fail
        go_ret
        exact ⟨t, rfl, by rw [Hno.out Hv.out]; simp, kept_trans hb hb1⟩
      · have Hv := hide hv
        clear hv
        go_wp2_with fail
        refine (rowNot_ok m _).mono ?_
        rintro e w1 ⟨rfl, hb1⟩
        rw [Hv.out]
        go_wp2_with fail
        go_roundw
        case rel => exact ⟨t + 1, by omega, by go_num, Hyes.out fun _ => by rw [Hmt.out]; exact Hv.out, kept_trans hb hb1⟩
        case measure => simp [intOf]; omega
    · obtain rfl : t = cs.length := by omega
      have Ha := hide (all_yes hup)
      clear hup
      go_wp2_with fail
      go_ret
      exact ⟨-1, rfl, by rw [Ha.out]; rfl, hb⟩

theorem rowHas_ok (v : Value) (cs : List C8) (w : World) (hr : Reads w 8 v cs.length (cyCells cs)) :
    Calls Try.prog 82 #[v, .func (.func 83) #[] #[]] w fun e w' => e = .returned (.bool (!allSmall cs 1000000)) ∧ Below w.heap.size w w' := by
  go_enter Try.func82, Try.ntmps82
  go_wp2_with fail
  refine (rowIdx_ok v cs w hr).mono ?_
  rintro e w1 ⟨k, rfl, hk, hb1⟩
  have Hk := hide hk
  clear hk
  go_wp2_with fail
  go_ret
  exact ⟨by rw [← Hk.out]; rfl, hb1⟩

set_option maxRecDepth 100000 in
set_option maxHeartbeats 800000 in
theorem rowImpl_ok (v : Value) (cs : List C8) (w : World) (hr : Reads w 8 v cs.length (cyCells cs)) (hn : cs.length ≤ 1048576) :
    Calls Try.prog 54 #[v] w fun e w' => e = .returned (.bool (rowB cs)) ∧ Below w.heap.size w w' := by
  have Hr := hide hr
  obtain ⟨_, hm, A, c, rfl, _⟩ := hr
  cases hl : divB cs.length
  · have E : Hid (rowB cs = false) := by simp [rowB, hl, Hid]
    have Hl := hide hl
    clear hl
    go_enter Try.func54, Try.ntmps54
    go_wp2_with fail
    refine (divides_ok _ _ hn).mono ?_
    rintro e w1 ⟨rfl, rfl⟩
    rw [Hl.out]
    go_wp2_with fail
    go_ret
    exact ⟨by rw [E.out]; rfl, Below.refl _ _⟩
  · have E : Hid (rowB cs = allSmall cs 1000000) := by simp [rowB, hl, Hid]
    have Hl := hide hl
    clear hl
    go_enter Try.func54, Try.ntmps54
    go_wp2_with fail
    refine (divides_ok _ _ hn).mono ?_
    rintro e w1 ⟨rfl, rfl⟩
    rw [Hl.out]
    go_wp2_with fail
    refine (rowHas_ok _ cs _ Hr.out).mono ?_
    rintro e w1 ⟨rfl, hb1⟩
    go_wp2_with fail
    go_ret
    exact ⟨by rw [E.out]; rfl, hb1⟩

set_option maxRecDepth 100000 in
set_option maxHeartbeats 800000 in
theorem rowSpec_ok (v : Value) (cs : List C8) (w : World) (hr : Reads w 8 v cs.length (cyCells cs)) (hn : cs.length ≤ 1048576) :
    Calls Try.prog 51 #[v] w fun e w' => e = .returned (.bool (rowB cs)) ∧ Below w.heap.size w w' := by
  obtain ⟨_, hm, A, c, rfl, hc⟩ := hr
  go_enter Try.func51, Try.ntmps51
  go_wp2_with fail
  go_loopw [3] (fun i wr => ∃ t : Nat, t ≤ cs.length ∧ i = .int .i64 t ∧ smallUpto cs 1000000 t ∧ Below w.heap.size w wr) (fun i _ => cs.length - (intOf i).toNat)
  case atStart => exact ⟨0, by omega, rfl, fun _ _ h => absurd h (by omega), Below.refl _ _⟩
  case round =>
    obtain ⟨t, ht, rfl, hup, hb⟩ := hrel
    by_cases hlt : t < cs.length
    · obtain ⟨b, o, rfl, hbl, hcell⟩ := hc (by omega) (by omega)
      have hA := cyc_cells (below_cells hb hbl hcell) t hlt
      have Hyes := hide (upto_succ hup)
      have Hno := hide (all_no (n := 1000000) hlt)
      clear hcell hc hup
      generalize hmt : cs[t] = m at hA Hyes Hno
      have Hmt := hide hmt
      clear hmt
      obtain ⟨p0, p1, p2, p3, p4, p5, p6, p7⟩ := hA
      cases hv : m.smallB 1000000
      · have Hv := hide hv
        clear hv
        go_wp2_with fail
        refine (cycValid_ok' m _).mono ?_
        rintro e w1 ⟨rfl, hb1⟩
        rw [Hv.out]
        go_wp2_with fail
        go_ret
        exact ⟨by rw [show rowB cs = false from by simp [rowB, Hno.out Hv.out]]; rfl, kept_trans hb hb1⟩
      · have Hv := hide hv
        clear hv
        go_wp2_with fail
        refine (cycValid_ok' m _).mono ?_
        rintro e w1 ⟨rfl, hb1⟩
        rw [Hv.out]
        go_wp2_with fail
        go_roundw
        case rel => exact ⟨t + 1, by omega, by go_num, Hyes.out fun _ => by rw [Hmt.out]; exact Hv.out, kept_trans hb hb1⟩
        case measure => simp [intOf]; omega
    · obtain rfl : t = cs.length := by omega
      have Ha := hide (all_yes hup)
      clear hup
      have E : Hid (rowB cs = divB cs.length) := by simp [rowB, Ha.out, Hid]
      go_wp2_with fail
      refine (l6rLength_ok _ _ hn).mono ?_
      rintro e w1 ⟨rfl, rfl⟩
      go_wp2_with fail
      go_ret
      exact ⟨by rw [E.out]; rfl, hb⟩

end Go.Proofs.Ytnlmiemnblppbaa
