/-
  Moves: lists of pairs of numbers as they lie in memory; the tests on moves; copies and comparisons.
-/
import Derived.Test.YtnlmiemnblppbaaRows
import Derived.Test.YtnlmiemnblppbaaBase
import Derived.Test.YtnlmiemnblppbaaIn
import Derived.Deep.QuietTactic
import Derived.BigQuiet
import Derived.StillTailTactics
namespace Go.Proofs.Ytnlmiemnblppbaa
open Go.RowKit

/-- The cells of a list of moves. -/
def mvCells (ms : List (Int × Int)) : List Value := ms.flatMap fun m => [.int .i64 m.1, .int .i64 m.2]

theorem mvCells_len (ms : List (Int × Int)) : (mvCells ms).length = ms.length * 2 := by
  induction ms with
  | nil => rfl
  | cons m ms ih => simp [mvCells] at ih ⊢; omega

theorem mvCells_x (ms : List (Int × Int)) (t : Nat) (h : t < ms.length) : (mvCells ms)[t * 2]? = some (.int .i64 (ms[t]).1) := by
  induction ms generalizing t with
  | nil => simp at h
  | cons m ms ih =>
    cases t with
    | zero => simp [mvCells]
    | succ t =>
      have := ih t (by simpa using h)
      rw [show (t + 1) * 2 = t * 2 + 1 + 1 from by omega]
      simpa [mvCells] using this

theorem mvCells_y (ms : List (Int × Int)) (t : Nat) (h : t < ms.length) : (mvCells ms)[t * 2 + 1]? = some (.int .i64 (ms[t]).2) := by
  induction ms generalizing t with
  | nil => simp at h
  | cons m ms ih =>
    cases t with
    | zero => simp [mvCells]
    | succ t =>
      have := ih t (by simpa using h)
      rw [show (t + 1) * 2 + 1 = t * 2 + 1 + 1 + 1 from by omega]
      simpa [mvCells] using this

def mvIn (m : Int × Int) : Prop := -10000000 ≤ m.1 ∧ m.1 ≤ 10000000 ∧ -10000000 ≤ m.2 ∧ m.2 ≤ 10000000
instance (m : Int × Int) : Decidable (mvIn m) := by unfold mvIn; infer_instance
def mvsIn (ms : List (Int × Int)) : Bool := decide (ms.length ≤ 100) && ms.all fun m => decide (mvIn m)
def mvsUpto (ms : List (Int × Int)) (t : Nat) : Prop := ∀ i (h : i < ms.length), i < t → mvIn ms[i]

theorem mvsIn_no {ms : List (Int × Int)} {t : Nat} (h : t < ms.length) (hn : ¬ mvIn ms[t]) : mvsIn ms = false := by
  cases hh : mvsIn ms with
  | false => rfl
  | true =>
    simp only [mvsIn, Bool.and_eq_true, List.all_eq_true, decide_eq_true_eq] at hh
    exact absurd (hh.2 _ (List.getElem_mem h)) hn

theorem mvsIn_yes {ms : List (Int × Int)} (h : mvsUpto ms ms.length) : mvsIn ms = decide (ms.length ≤ 100) := by
  have : (ms.all fun m => decide (mvIn m)) = true := by
    simp only [List.all_eq_true, decide_eq_true_eq]
    intro m hm
    obtain ⟨i, hi, rfl⟩ := List.getElem_of_mem hm
    exact h i hi hi
  simp [mvsIn, this]

theorem mvsUpto_succ {ms : List (Int × Int)} {t : Nat} (h : mvsUpto ms t) (hn : ∀ h : t < ms.length, mvIn ms[t]) : mvsUpto ms (t + 1) := by
  intro i hi hit
  rcases Nat.lt_or_ge i t with hlt | hge
  · exact h i hi hlt
  · obtain rfl : i = t := by omega
    exact hn hi

set_option maxHeartbeats 800000 in
theorem l10Moves_ok (v : Value) (ms : List (Int × Int)) (w : World) (hr : Reads w 2 v ms.length (mvCells ms)) :
    Calls Try.prog 48 #[v] w fun e w' => e = .returned (.bool (mvsIn ms)) ∧ w = w' := by
  obtain ⟨_, hm, A, c, rfl, hc⟩ := hr
  go_enter Try.func48, Try.ntmps48
  go_wp2_with fail
  go_loop [3] (fun i => ∃ t : Nat, t ≤ ms.length ∧ i = .int .i64 t ∧ mvsUpto ms t) (fun i => ms.length - (intOf i).toNat)
  case atStart => exact ⟨0, by omega, rfl, fun _ _ h => absurd h (by omega)⟩
  case round =>
    obtain ⟨t, ht, rfl, hup⟩ := hrel
    by_cases hlt : t < ms.length
    · obtain ⟨b, o, rfl, _, hcell⟩ := hc (by omega) (by omega)
      have h1 := (hcell (t * 2) (by omega)).trans (mvCells_x ms t hlt)
      have h2 : w.cell? ⟨b, o + t * 2 + 1, none⟩ = _ := (hcell (t * 2 + 1) (by omega)).trans (mvCells_y ms t hlt)
      have Hno := hide (mvsIn_no (ms := ms) hlt)
      have Hyes := hide (mvsUpto_succ hup)
      clear hcell hc
      generalize hmt : ms[t] = m at h1 h2 Hno Hyes
      have Hmt := hide hmt
      clear hmt
      obtain ⟨x, y⟩ := m
      dsimp only at h1 h2
      by_cases hx : -10000000 ≤ x ∧ x ≤ 10000000
      · by_cases hy : -10000000 ≤ y ∧ y ≤ 10000000
        · have Hx := hide hx
          have Hy := hide hy
          clear hx hy
          go_wp2_with fail
          refine (l6In_t x _ _ _ Hx.out.1 Hx.out.2).mono ?_
          rintro e w' ⟨rfl, rfl⟩
          go_wp2_with fail
          refine (l6In_t y _ _ _ Hy.out.1 Hy.out.2).mono ?_
          rintro e w' ⟨rfl, rfl⟩
          go_wp2_with fail
          go_round
          case rel => exact ⟨t + 1, by omega, by go_num, Hyes.out fun _ => by rw [Hmt.out]; exact ⟨Hx.out.1, Hx.out.2, Hy.out.1, Hy.out.2⟩⟩
          case measure => simp [intOf]; omega
        · have Hx := hide hx
          have Hy := hide hy
          clear hx hy
          go_wp2_with fail
          refine (l6In_t x _ _ _ Hx.out.1 Hx.out.2).mono ?_
          rintro e w' ⟨rfl, rfl⟩
          go_wp2_with fail
          refine (l6In_f y _ _ _ Hy.out).mono ?_
          rintro e w' ⟨rfl, rfl⟩
          go_wp2_with fail
          go_ret
          exact ⟨by rw [Hno.out fun h => Hy.out ⟨h.2.2.1, h.2.2.2⟩]; rfl, rfl⟩
      · have Hx := hide hx
        clear hx
        go_wp2_with (go_at_call 49; refine (l6In_f x _ _ _ Hx.out).mono ?_; rintro e w' ⟨rfl, rfl⟩)
        go_ret
        exact ⟨by rw [Hno.out fun h => Hx.out ⟨h.1, h.2.1⟩]; rfl, rfl⟩
    · obtain rfl : t = ms.length := by omega
      have Hup := hide (mvsIn_yes hup)
      go_wp2_with fail
      go_ret
      exact ⟨by rw [Hup.out]; exact congrArg (fun b => Ending.returned (.bool b)) (decide_eq_decide.2 (by omega)), rfl⟩

theorem moveValid_t (x y : Int) (w : World) (h : mvIn (x, y)) :
    Calls Try.prog 75 #[.agg #[.int .i64 x, .int .i64 y]] w fun e w' => e = .returned (.bool true) ∧ Below w.heap.size w w' := by
  have H := hide h
  clear h
  go_enter Try.func75, Try.ntmps75
  go_wp2_with fail
  refine (within_t x _ _ _ H.out.1 H.out.2.1).mono ?_
  rintro e w' ⟨rfl, rfl⟩
  go_wp2_with fail
  refine (within_t y _ _ _ H.out.2.2.1 H.out.2.2.2).mono ?_
  rintro e w' ⟨rfl, rfl⟩
  go_wp2_with fail
  go_ret
  exact ⟨rfl, kept_new _ _⟩

theorem moveValid_f (x y : Int) (w : World) (h : ¬ mvIn (x, y)) :
    Calls Try.prog 75 #[.agg #[.int .i64 x, .int .i64 y]] w fun e w' => e = .returned (.bool false) ∧ Below w.heap.size w w' := by
  have H := hide h
  clear h
  by_cases hx : -10000000 ≤ x ∧ x ≤ 10000000
  · have Hx := hide hx
    have Hy : Hid (¬ (-10000000 ≤ y ∧ y ≤ 10000000)) := fun h => H.out ⟨hx.1, hx.2, h.1, h.2⟩
    clear hx
    go_enter Try.func75, Try.ntmps75
    go_wp2_with fail
    refine (within_t x _ _ _ Hx.out.1 Hx.out.2).mono ?_
    rintro e w' ⟨rfl, rfl⟩
    go_wp2_with fail
    refine (within_f y _ _ _ Hy.out).mono ?_
    rintro e w' ⟨rfl, rfl⟩
    go_wp2_with fail
    go_ret
    exact ⟨rfl, kept_new _ _⟩
  · have Hx := hide hx
    clear hx
    go_enter Try.func75, Try.ntmps75
    go_wp2_with fail
    refine (within_f x _ _ _ Hx.out).mono ?_
    rintro e w' ⟨rfl, rfl⟩
    go_wp2_with fail
    go_ret
    exact ⟨rfl, kept_new _ _⟩

theorem notValid_f (x y : Int) (w : World) (h : mvIn (x, y)) :
    Calls Try.prog 74 #[.agg #[.int .i64 x, .int .i64 y]] w fun e w' => e = .returned (.bool false) ∧ Below w.heap.size w w' := by
  have H := hide h
  clear h
  go_enter Try.func74, Try.ntmps74
  go_wp2_with fail
  refine (moveValid_t x y _ H.out).mono ?_
  rintro e w' ⟨rfl, hb⟩
  go_wp2_with fail
  go_ret
  exact ⟨rfl, kept_trans (kept_new _ _) hb⟩

theorem notValid_t (x y : Int) (w : World) (h : ¬ mvIn (x, y)) :
    Calls Try.prog 74 #[.agg #[.int .i64 x, .int .i64 y]] w fun e w' => e = .returned (.bool true) ∧ Below w.heap.size w w' := by
  have H := hide h
  clear h
  go_enter Try.func74, Try.ntmps74
  go_wp2_with fail
  refine (moveValid_f x y _ H.out).mono ?_
  rintro e w' ⟨rfl, hb⟩
  go_wp2_with fail
  go_ret
  exact ⟨rfl, kept_trans (kept_new _ _) hb⟩

/-- What the search for an invalid move answers: a place, or -1 if there is none. -/
def IdxPost (ms : List (Int × Int)) (w : World) (e : Ending) (w' : World) : Prop :=
  ∃ k : Int, e = .returned (.int .i64 k) ∧ (k < 0 ↔ mvsUpto ms ms.length) ∧ Below w.heap.size w w'

set_option maxHeartbeats 800000 in
theorem idxMoves_ok (v : Value) (ms : List (Int × Int)) (w : World) (hr : Reads w 2 v ms.length (mvCells ms)) :
    Calls Try.prog 97 #[v, .func (.func 74) #[] #[]] w (IdxPost ms w) := by
  obtain ⟨_, hm, A, c, rfl, hc⟩ := hr
  go_enter Try.func97, Try.ntmps97
  go_wp2_with fail
  go_loopw [8] (fun i wr => ∃ t : Nat, t ≤ ms.length ∧ i = .int .i64 t ∧ mvsUpto ms t ∧ Below w.heap.size w wr) (fun i _ => ms.length - (intOf i).toNat)
  case atStart => exact ⟨0, by omega, rfl, fun _ _ h => absurd h (by omega), Below.refl _ _⟩
  case round =>
    obtain ⟨t, ht, rfl, hup, hb⟩ := hrel
    by_cases hlt : t < ms.length
    · obtain ⟨b, o, rfl, hbl, hcell⟩ := hc (by omega) (by omega)
      have h1 := (hb.cell (p := ⟨b, o + t * 2, none⟩) hbl).trans ((hcell (t * 2) (by omega)).trans (mvCells_x ms t hlt))
      have h2 : wr.cell? ⟨b, o + t * 2 + 1, none⟩ = _ := (hb.cell (p := ⟨b, o + t * 2 + 1, none⟩) hbl).trans ((hcell (t * 2 + 1) (by omega)).trans (mvCells_y ms t hlt))
      have Hyes := hide (mvsUpto_succ hup)
      have Hno : Hid (¬ mvIn ms[t] → ¬ mvsUpto ms ms.length) := fun hn h => hn (h t hlt hlt)
      clear hcell hc
      generalize hmt : ms[t] = m at h1 h2 Hyes Hno
      have Hmt := hide hmt
      clear hmt
      obtain ⟨x, y⟩ := m
      dsimp only at h1 h2
      by_cases hv : mvIn (x, y)
      · have Hv := hide hv
        clear hv
        go_wp2_with fail
        refine (notValid_f x y _ Hv.out).mono ?_
        rintro e w1 ⟨rfl, hb1⟩
        go_wp2_with fail
        go_roundw
        case rel => exact ⟨t + 1, by omega, by go_num, Hyes.out fun _ => by rw [Hmt.out]; exact Hv.out, kept_trans hb hb1⟩
        case measure => simp [intOf]; omega
      · have Hv := hide hv
        clear hv
        go_wp2_with fail
        refine (notValid_t x y _ Hv.out).mono ?_
        rintro e w1 ⟨rfl, hb1⟩
        go_wp2_with fail
        go_ret
        exact ⟨t, rfl, ⟨fun h => absurd h (by omega), fun h => absurd h (Hno.out Hv.out)⟩, kept_trans hb hb1⟩
    · obtain rfl : t = ms.length := by omega
      go_wp2_with fail
      go_ret
      exact ⟨-1, rfl, ⟨fun _ => hup, fun _ => by decide⟩, hb⟩

theorem hasMoves_ok (v : Value) (ms : List (Int × Int)) (w : World) (hr : Reads w 2 v ms.length (mvCells ms)) :
    Calls Try.prog 73 #[v, .func (.func 74) #[] #[]] w fun e w' => (∃ b, e = .returned (.bool b) ∧ (b = false ↔ mvsUpto ms ms.length)) ∧ Below w.heap.size w w' := by
  go_enter Try.func73, Try.ntmps73
  go_wp2_with fail
  refine (idxMoves_ok v ms w hr).mono ?_
  rintro e w1 ⟨k, rfl, hk, hb1⟩
  have Hk := hide hk
  clear hk
  go_wp2_with fail
  go_ret
  exact ⟨⟨_, rfl, by rw [← Hk.out]; simp⟩, hb1⟩

set_option maxHeartbeats 800000 in
theorem movesValid_ok (v : Value) (ms : List (Int × Int)) (w : World) (hr : Reads w 2 v ms.length (mvCells ms)) :
    Calls Try.prog 45 #[v] w fun e w' => e = .returned (.bool (mvsIn ms)) ∧ Below w.heap.size w w' := by
  have Hr := hide hr
  obtain ⟨_, hm, A, c, rfl, _⟩ := hr
  by_cases hl : ms.length ≤ 100
  · go_enter Try.func45, Try.ntmps45
    go_wp2_with fail
    refine (hasMoves_ok _ ms w Hr.out).mono ?_
    rintro e w1 ⟨⟨b, rfl, hb⟩, hb1⟩
    have e1 : mvsIn ms = !b := by
      cases b with
      | false => rw [mvsIn_yes (hb.1 rfl)]; simp [hl]
      | true =>
        cases hh : mvsIn ms with
        | false => rfl
        | true =>
          refine absurd (hb.2 ?_) (by simp)
          simp only [mvsIn, Bool.and_eq_true, List.all_eq_true, decide_eq_true_eq] at hh
          exact fun i h _ => hh.2 _ (List.getElem_mem h)
    have E1 := hide e1
    clear hb e1
    go_wp2_with fail
    go_ret
    exact ⟨by rw [E1.out]; rfl, hb1⟩
  · have e1 : mvsIn ms = false := by simp [mvsIn, hl]
    have E1 := hide e1
    clear e1
    go_enter Try.func45, Try.ntmps45
    go_wp2_with fail
    go_ret
    exact ⟨by rw [E1.out]; rfl, Below.refl _ _⟩
end Go.Proofs.Ytnlmiemnblppbaa
