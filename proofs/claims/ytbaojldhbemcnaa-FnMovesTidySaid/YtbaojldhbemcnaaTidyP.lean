/-
  Tidy moves, in plain words: the fold over a list of moves that joins neighbours of one direction; what it keeps.
-/
import Derived.WalkKit
namespace Go.Proofs.Ytbaojldhbemcnaa.Tidy

def gc (m : Int × Int) : Int := Int.gcd m.1 m.2
def dir (m : Int × Int) : Int × Int := (m.1.tdiv (gc m), m.2.tdiv (gc m))

/-- One move more; the list stands in reverse. -/
def step (r : List (Int × Int)) (m : Int × Int) : List (Int × Int) :=
  if m = (0, 0) then r else
  match r with
  | [] => [m]
  | l :: r => if dir l = dir m then (l.1 + m.1, l.2 + m.2) :: r else m :: l :: r

def acc (ms : List (Int × Int)) : List (Int × Int) := ms.foldl step []

theorem acc_succ (ms : List (Int × Int)) (t : Nat) (h : t < ms.length) : acc (ms.take (t + 1)) = step (acc (ms.take t)) ms[t] := by
  unfold acc
  rw [List.take_succ_eq_append_getElem h, List.foldl_append]
  rfl

theorem step_zero (r : List (Int × Int)) : step r (0, 0) = r := by simp [step]
theorem step_first (m : Int × Int) (h : m ≠ (0, 0)) : step [] m = [m] := by simp [step, h]
theorem step_join (l m : Int × Int) (r : List (Int × Int)) (h : m ≠ (0, 0)) (hd : dir l = dir m) : step (l :: r) m = (l.1 + m.1, l.2 + m.2) :: r := by simp [step, h, hd]
theorem step_next (l m : Int × Int) (r : List (Int × Int)) (h : m ≠ (0, 0)) (hd : dir l ≠ dir m) : step (l :: r) m = m :: l :: r := by simp [step, h, hd]

/-- All are within a bound, and none is 0. -/
def Ok (M : Int) (r : List (Int × Int)) : Prop := ∀ m ∈ r, (-M ≤ m.1 ∧ m.1 ≤ M ∧ -M ≤ m.2 ∧ m.2 ≤ M) ∧ m ≠ (0, 0)

theorem ok_mono {M M' : Int} {r : List (Int × Int)} (h : Ok M r) (hM : M ≤ M') : Ok M' r := fun m hm => by
  obtain ⟨⟨a, b, c, d⟩, e⟩ := h m hm
  exact ⟨⟨by omega, by omega, by omega, by omega⟩, e⟩

theorem gc_pos {m : Int × Int} (h : m ≠ (0, 0)) : 0 < gc m := by
  unfold gc
  rcases Nat.eq_zero_or_pos (Int.gcd m.1 m.2) with h0 | h0
  · rw [Int.gcd_eq_zero_iff] at h0
    exact absurd (Prod.ext h0.1 h0.2) h
  · omega

theorem dir_eq (m : Int × Int) : m.1 = gc m * (dir m).1 ∧ m.2 = gc m * (dir m).2 := by
  have h1 : gc m ∣ m.1 := Int.gcd_dvd_left ..
  have h2 : gc m ∣ m.2 := Int.gcd_dvd_right ..
  exact ⟨(Int.mul_tdiv_cancel' h1).symm, (Int.mul_tdiv_cancel' h2).symm⟩

theorem dir_nz {m : Int × Int} (h : m ≠ (0, 0)) : dir m ≠ (0, 0) := by
  intro e
  obtain ⟨a, b⟩ := dir_eq m
  rw [e] at a b
  exact h (Prod.ext (by simpa using a) (by simpa using b))

/-- Two moves of one direction: the sum has that direction, and is not 0. -/
theorem join_nz {l m : Int × Int} (hl : l ≠ (0, 0)) (hm : m ≠ (0, 0)) (hd : dir l = dir m) : (l.1 + m.1, l.2 + m.2) ≠ ((0 : Int), (0 : Int)) := by
  intro e
  obtain ⟨a, b⟩ := dir_eq l
  obtain ⟨c, d⟩ := dir_eq m
  have p := gc_pos hl
  have q := gc_pos hm
  rw [← hd] at c d
  have e1 : l.1 + m.1 = 0 := congrArg Prod.fst e
  have e2 : l.2 + m.2 = 0 := congrArg Prod.snd e
  rw [a, c, ← Int.add_mul] at e1
  rw [b, d, ← Int.add_mul] at e2
  rcases Int.mul_eq_zero.1 e1 with h | h
  · omega
  rcases Int.mul_eq_zero.1 e2 with h' | h'
  · omega
  exact dir_nz hl (Prod.ext h h')

theorem ok_step {M K : Int} {r : List (Int × Int)} {m : Int × Int} (h : Ok M r) (hM : 0 ≤ M) (hm : -K ≤ m.1 ∧ m.1 ≤ K ∧ -K ≤ m.2 ∧ m.2 ≤ K) : Ok (M + K) (step r m) := by
  by_cases hz : m = (0, 0)
  · rw [hz, step_zero]; exact ok_mono h (by omega)
  · match r with
    | [] =>
      rw [step_first m hz]
      intro x hx
      obtain rfl : x = m := by simpa using hx
      exact ⟨⟨by omega, by omega, by omega, by omega⟩, hz⟩
    | l :: r =>
      obtain ⟨⟨a, b, c, d⟩, e⟩ := h l (List.mem_cons_self ..)
      by_cases hd : dir l = dir m
      · rw [step_join l m r hz hd]
        intro x hx
        rcases List.mem_cons.1 hx with rfl | hx
        · exact ⟨⟨by dsimp only; omega, by dsimp only; omega, by dsimp only; omega, by dsimp only; omega⟩, join_nz e hz hd⟩
        · exact ok_mono h (by omega) x (List.mem_cons_of_mem _ hx)
      · rw [step_next l m r hz hd]
        intro x hx
        rcases List.mem_cons.1 hx with rfl | hx
        · exact ⟨⟨by omega, by omega, by omega, by omega⟩, hz⟩
        · exact ok_mono h (by omega) x hx

theorem ok_acc (ms : List (Int × Int)) (t : Nat) (ht : t ≤ ms.length) (h : ∀ i (hi : i < ms.length), -10000000 ≤ (ms[i]).1 ∧ (ms[i]).1 ≤ 10000000 ∧ -10000000 ≤ (ms[i]).2 ∧ (ms[i]).2 ≤ 10000000) : Ok (10000000 * t) (acc (ms.take t)) := by
  induction t with
  | zero => intro m hm; simp [acc] at hm
  | succ t ih =>
    rw [acc_succ ms t (by omega)]
    have := ok_step (K := 10000000) (ih (by omega)) (by omega) (h t (by omega))
    exact ok_mono this (by omega)

theorem acc_len (ms : List (Int × Int)) (t : Nat) (ht : t ≤ ms.length) : (acc (ms.take t)).length ≤ t := by
  induction t with
  | zero => simp [acc]
  | succ t ih =>
    rw [acc_succ ms t (by omega)]
    have h := ih (by omega)
    generalize acc (ms.take t) = r at h
    unfold step
    split
    · omega
    · split
      · simp
      · split <;> simp at h ⊢ <;> omega

end Go.Proofs.Ytbaojldhbemcnaa.Tidy
