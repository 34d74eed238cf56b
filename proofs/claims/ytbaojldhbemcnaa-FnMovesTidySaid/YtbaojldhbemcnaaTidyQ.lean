/-
  Tidy moves, in plain words: what is tidy stays as it is; the place reached and the length are kept.
-/
import Derived.Test.YtbaojldhbemcnaaTidyP
namespace Go.Proofs.Ytbaojldhbemcnaa.Tidy

theorem gcd_dir {m : Int × Int} (h : m ≠ (0, 0)) : Int.gcd (dir m).1 (dir m).2 = 1 := by
  have hp := gc_pos h
  obtain ⟨a, b⟩ := dir_eq m
  have e : gc m = gc m * (Int.gcd (dir m).1 (dir m).2 : Int) := by
    have : Int.gcd m.1 m.2 = (gc m).natAbs * Int.gcd (dir m).1 (dir m).2 := by
      conv => lhs; rw [a, b]
      rw [Int.gcd_mul_left]
    have e2 : gc m = ((Int.gcd m.1 m.2 : Nat) : Int) := rfl
    calc gc m = ((Int.gcd m.1 m.2 : Nat) : Int) := rfl
      _ = (((gc m).natAbs * Int.gcd (dir m).1 (dir m).2 : Nat) : Int) := by rw [this]
      _ = gc m * (Int.gcd (dir m).1 (dir m).2 : Int) := by rw [Int.natCast_mul, Int.natAbs_of_nonneg (by omega)]
  have e3 : gc m * 1 = gc m * (Int.gcd (dir m).1 (dir m).2 : Int) := by rw [Int.mul_one]; exact e
  have := Int.eq_of_mul_eq_mul_left (by omega) e3
  omega

/-- A positive multiple of a primitive direction has that direction. -/
theorem dir_mul (k a b : Int) (hk : 0 < k) (hg : Int.gcd a b = 1) : dir (k * a, k * b) = (a, b) := by
  have e : gc (k * a, k * b) = k := by
    unfold gc
    dsimp only
    rw [Int.gcd_mul_left, hg]
    omega
  unfold dir
  rw [e]
  dsimp only
  rw [Int.mul_tdiv_cancel_left _ (by omega), Int.mul_tdiv_cancel_left _ (by omega)]

theorem dir_join {l m : Int × Int} (hl : l ≠ (0, 0)) (hm : m ≠ (0, 0)) (hd : dir l = dir m) : dir (l.1 + m.1, l.2 + m.2) = dir l := by
  obtain ⟨a, b⟩ := dir_eq l
  obtain ⟨c, d⟩ := dir_eq m
  rw [← hd] at c d
  have e : (l.1 + m.1, l.2 + m.2) = ((gc l + gc m) * (dir l).1, (gc l + gc m) * (dir l).2) := by
    rw [Int.add_mul, Int.add_mul, ← a, ← b, ← c, ← d]
  rw [e]
  have p := gc_pos hl
  have q := gc_pos hm
  exact dir_mul _ _ _ (by omega) (gcd_dir hl)

/-- Neighbours have different directions. -/
def Sep : List (Int × Int) → Prop
  | [] => True
  | [_] => True
  | m :: l :: r => dir l ≠ dir m ∧ Sep (l :: r)

def NoZero (r : List (Int × Int)) : Prop := ∀ m ∈ r, m ≠ (0, 0)

theorem sep_step {r : List (Int × Int)} {m : Int × Int} (h : Sep r) (hz : NoZero r) : Sep (step r m) ∧ NoZero (step r m) := by
  by_cases hm : m = (0, 0)
  · rw [hm, step_zero]; exact ⟨h, hz⟩
  · match r, h, hz with
    | [], _, _ =>
      rw [step_first m hm]
      refine ⟨trivial, fun x hx => ?_⟩
      rw [List.mem_singleton.1 hx]
      exact hm
    | l :: r, h, hz =>
      have hl := hz l (List.mem_cons_self ..)
      by_cases hd : dir l = dir m
      · rw [step_join l m r hm hd]
        refine ⟨?_, fun x hx => ?_⟩
        · match r, h with
          | [], _ => trivial
          | k :: r, h => exact ⟨by rw [dir_join hl hm hd]; exact h.1, h.2⟩
        · rcases List.mem_cons.1 hx with rfl | hx
          · exact join_nz hl hm hd
          · exact hz x (List.mem_cons_of_mem _ hx)
      · rw [step_next l m r hm hd]
        refine ⟨⟨hd, h⟩, fun x hx => ?_⟩
        rcases List.mem_cons.1 hx with rfl | hx
        · exact hm
        · exact hz x hx

theorem sep_fold (ms : List (Int × Int)) : ∀ r, Sep r → NoZero r → Sep (ms.foldl step r) ∧ NoZero (ms.foldl step r) := by
  induction ms with
  | nil => exact fun r h hz => ⟨h, hz⟩
  | cons m ms ih => exact fun r h hz => ih _ (sep_step h hz).1 (sep_step (m := m) h hz).2

theorem sep_acc (ms : List (Int × Int)) : Sep (acc ms) ∧ NoZero (acc ms) := sep_fold ms [] trivial (fun m hm => by simp at hm)

theorem acc_tidy : ∀ r : List (Int × Int), Sep r → NoZero r → acc r.reverse = r
  | [], _, _ => rfl
  | [m], _, hz => by
    have := hz m (List.mem_cons_self ..)
    show step [] m = [m]
    exact step_first m this
  | m :: l :: r, h, hz => by
    have ih := acc_tidy (l :: r) h.2 (fun x hx => hz x (List.mem_cons_of_mem _ hx))
    rw [List.reverse_cons]
    unfold acc at ih ⊢
    rw [List.foldl_append, ih]
    exact step_next l m r (hz m (List.mem_cons_self ..)) h.1

theorem acc_idem (ms : List (Int × Int)) : acc (acc ms).reverse = acc ms := acc_tidy _ (sep_acc ms).1 (sep_acc ms).2

/-- A sum over moves that adds up over what is joined is kept. -/
theorem fold_sum (f : Int × Int → Int) (h0 : f (0, 0) = 0) (hj : ∀ l m : Int × Int, l ≠ (0, 0) → m ≠ (0, 0) → dir l = dir m → f (l.1 + m.1, l.2 + m.2) = f l + f m) (ms : List (Int × Int)) :
    ∀ r, NoZero r → Sep r → ((ms.foldl step r).map f).sum = (r.map f).sum + (ms.map f).sum := by
  induction ms with
  | nil => intro r _ _; simp
  | cons m ms ih =>
    intro r hz hs
    have hstep : ((step r m).map f).sum = (r.map f).sum + f m := by
      by_cases hm : m = (0, 0)
      · rw [hm, step_zero, h0]; omega
      · match r, hz with
        | [], _ => rw [step_first m hm]; simp
        | l :: r, hz =>
          have hl := hz l (List.mem_cons_self ..)
          by_cases hd : dir l = dir m
          · rw [step_join l m r hm hd]
            simp only [List.map_cons, List.sum_cons, hj l m hl hm hd]
            omega
          · rw [step_next l m r hm hd]
            simp only [List.map_cons, List.sum_cons]
            omega
    have hn := sep_step (m := m) hs hz
    show (((ms.foldl step (step r m))).map f).sum = _
    rw [ih _ hn.2 hn.1, hstep]
    simp only [List.map_cons, List.sum_cons]
    omega

theorem acc_sum (f : Int × Int → Int) (h0 : f (0, 0) = 0) (hj : ∀ l m : Int × Int, l ≠ (0, 0) → m ≠ (0, 0) → dir l = dir m → f (l.1 + m.1, l.2 + m.2) = f l + f m) (ms : List (Int × Int)) :
    ((acc ms).map f).sum = (ms.map f).sum := by
  have := fold_sum f h0 hj ms [] (fun m hm => by simp at hm) trivial
  simpa [acc] using this

theorem abs_join (g h d : Int) (hg : 0 < g) (hh : 0 < h) : max (g * d + h * d) (-(g * d + h * d)) = max (g * d) (-(g * d)) + max (h * d) (-(h * d)) := by
  rcases Int.le_total 0 d with hd | hd
  · have a := Int.mul_nonneg (by omega : 0 ≤ g) hd
    have b := Int.mul_nonneg (by omega : 0 ≤ h) hd
    omega
  · have a := Int.mul_nonpos_of_nonneg_of_nonpos (by omega : 0 ≤ g) hd
    have b := Int.mul_nonpos_of_nonneg_of_nonpos (by omega : 0 ≤ h) hd
    omega

theorem len_join (l m : Int × Int) (hl : l ≠ (0, 0)) (hm : m ≠ (0, 0)) (hd : dir l = dir m) :
    max (l.1 + m.1) (-(l.1 + m.1)) + max (l.2 + m.2) (-(l.2 + m.2)) = (max l.1 (-l.1) + max l.2 (-l.2)) + (max m.1 (-m.1) + max m.2 (-m.2)) := by
  obtain ⟨a, b⟩ := dir_eq l
  obtain ⟨c, d⟩ := dir_eq m
  rw [← hd] at c d
  have p := gc_pos hl
  have q := gc_pos hm
  have x := abs_join (gc l) (gc m) (dir l).1 p q
  have y := abs_join (gc l) (gc m) (dir l).2 p q
  rw [← a, ← c] at x
  rw [← b, ← d] at y
  omega

end Go.Proofs.Ytbaojldhbemcnaa.Tidy
