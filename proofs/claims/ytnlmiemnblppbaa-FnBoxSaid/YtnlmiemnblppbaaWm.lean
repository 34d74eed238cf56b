/-
  Tidy designs as plain lists: the reference keeps wheels in the order of their speeds, the program sorts them at the end; both give the same list.
-/
import Derived.Test.YtnlmiemnblppbaaW9
import Derived.Test.YtnlmiemnblppbaaCEq
namespace Go.Proofs.Ytnlmiemnblppbaa
open Go.RowKit

def C8.add (a b : C8) : C8 := ⟨a.a0 + b.a0, a.a1 + b.a1, a.a2 + b.a2, a.a3 + b.a3, a.a4 + b.a4, a.a5 + b.a5, a.a6 + b.a6, a.a7 + b.a7⟩
theorem C8.zero_add (a : C8) : zero8.add a = a := by cases a; simp [C8.add, zero8]

def W9.okB (x : W9) : Bool := decide (-1000 ≤ x.s ∧ x.s ≤ 1000) && x.c.smallB 1000000
def designB (ws : List W9) : Bool := decide (ws.length ≤ 12) && ws.all W9.okB

/-- The reference adds a wheel: the speeds ascend. -/
def addW : List W9 → W9 → List W9
  | [], w => [w]
  | x :: xs, w => if x.s < w.s then x :: addW xs w else if x.s = w.s then ⟨x.s, x.c.add w.c⟩ :: xs else w :: x :: xs
/-- The program adds a wheel: a new speed goes to the end. -/
def putW : List W9 → W9 → List W9
  | [], w => [w]
  | x :: xs, w => if x.s = w.s then ⟨x.s, x.c.add w.c⟩ :: xs else x :: putW xs w
/-- The radius that a wheel's speed has then. -/
def radW : List W9 → W9 → C8
  | [], w => w.c
  | x :: xs, w => if x.s = w.s then x.c.add w.c else radW xs w

def nonzero (ws : List W9) : List W9 := ws.filter fun x => !x.c.eqB zero8

def foldW (f : List W9 → W9 → List W9) : List W9 → List W9 → List W9 × Bool
  | acc, [] => (acc, true)
  | acc, w :: ws => if (radW acc w).smallB 1000000 = true then foldW f (f acc w) ws else ([], false)

def doneW (r : List W9 × Bool) : List W9 × Bool := if r.2 = true ∧ designB (nonzero r.1) = true then (nonzero r.1, true) else ([], false)
def tidyRes (ws : List W9) : List W9 × Bool := doneW (foldW addW [] ws)
def tidyDes (ws : List W9) : List W9 × Bool := if designB ws = true then tidyRes ws else ([], false)

def Asc (ws : List W9) : Prop := ws.Pairwise fun x y => x.s < y.s

theorem addW_mem {ws : List W9} {w y : W9} (h : y ∈ addW ws w) : y.s = w.s ∨ ∃ x ∈ ws, y.s = x.s := by
  induction ws with
  | nil => simp [addW] at h; exact .inl (by rw [h])
  | cons x xs ih =>
    unfold addW at h
    split at h
    · rcases List.mem_cons.1 h with rfl | h
      · exact .inr ⟨y, by simp, rfl⟩
      · rcases ih h with h | ⟨z, hz, e⟩
        · exact .inl h
        · exact .inr ⟨z, by simp [hz], e⟩
    · split at h
      · rcases List.mem_cons.1 h with rfl | h
        · exact .inr ⟨x, by simp, rfl⟩
        · exact .inr ⟨y, by simp [h], rfl⟩
      · rcases List.mem_cons.1 h with rfl | h
        · exact .inl rfl
        · exact .inr ⟨y, h, rfl⟩

theorem addW_asc {ws : List W9} (h : Asc ws) (w : W9) : Asc (addW ws w) := by
  induction ws with
  | nil => simp [addW, Asc]
  | cons x xs ih =>
    obtain ⟨h1, h2⟩ := List.pairwise_cons.1 h
    unfold addW
    split
    · rename_i hlt
      refine List.pairwise_cons.2 ⟨fun y hy => ?_, ih h2⟩
      rcases addW_mem hy with e | ⟨z, hz, e⟩
      · omega
      · have := h1 z hz; omega
    · split
      · exact List.pairwise_cons.2 ⟨fun y hy => h1 y hy, h2⟩
      · refine List.pairwise_cons.2 ⟨fun y hy => ?_, h⟩
        rcases List.mem_cons.1 hy with rfl | hy
        · omega
        · have := h1 y hy; omega

theorem putW_none {ws : List W9} {w : W9} (h : ∀ x ∈ ws, x.s ≠ w.s) : putW ws w = ws ++ [w] ∧ radW ws w = w.c := by
  induction ws with
  | nil => exact ⟨rfl, rfl⟩
  | cons x xs ih =>
    obtain ⟨h1, h2⟩ := ih fun y hy => h y (by simp [hy])
    have := h x (by simp)
    exact ⟨by rw [putW, if_neg this, h1]; rfl, by rw [radW, if_neg this, h2]⟩

theorem putW_some {ws : List W9} {w : W9} {i : Nat} (hi : i < ws.length) (he : (ws[i]).s = w.s) (hb : ∀ j (h : j < ws.length), j < i → (ws[j]).s ≠ w.s) :
    putW ws w = ws.set i ⟨w.s, (ws[i]).c.add w.c⟩ ∧ radW ws w = (ws[i]).c.add w.c := by
  induction ws generalizing i with
  | nil => simp at hi
  | cons x xs ih =>
    cases i with
    | zero =>
      have he' : x.s = w.s := he
      exact ⟨by rw [putW, if_pos he', he']; rfl, by rw [radW, if_pos he']; rfl⟩
    | succ i =>
      have h0 : x.s ≠ w.s := hb 0 (by simp) (by omega)
      obtain ⟨h1, h2⟩ := ih (i := i) (by simpa using hi) (by simpa using he) fun j h hj => hb (j + 1) (by simpa using h) (by omega)
      exact ⟨by rw [putW, if_neg h0, h1]; rfl, by rw [radW, if_neg h0, h2]; rfl⟩

theorem addW_at {ws : List W9} {w : W9} {k : Nat} (hk : k ≤ ws.length) (hb : ∀ j (h : j < ws.length), j < k → (ws[j]).s < w.s) (hn : ∀ h : k < ws.length, w.s ≤ (ws[k]).s) (ha : Asc ws) :
    (∀ h : k < ws.length, (ws[k]).s = w.s → addW ws w = ws.set k ⟨w.s, (ws[k]).c.add w.c⟩ ∧ radW ws w = (ws[k]).c.add w.c) ∧
    ((∀ h : k < ws.length, (ws[k]).s ≠ w.s) → addW ws w = ws.take k ++ w :: ws.drop k ∧ radW ws w = w.c) := by
  induction ws generalizing k with
  | nil => 
    obtain rfl : k = 0 := by simpa using hk
    exact ⟨fun h => by simp at h, fun _ => ⟨rfl, rfl⟩⟩
  | cons x xs ih =>
    obtain ⟨a1, a2⟩ := List.pairwise_cons.1 ha
    cases k with
    | zero =>
      have h0 : w.s ≤ x.s := hn (by simp)
      refine ⟨fun _ he => ?_, fun h => ?_⟩
      · have he' : x.s = w.s := he
        exact ⟨by rw [addW, if_neg (by omega), if_pos he', he']; rfl, by rw [radW, if_pos he']; rfl⟩
      · have hne : x.s ≠ w.s := h (by simp)
        refine ⟨by rw [addW, if_neg (by omega), if_neg hne]; rfl, ?_⟩
        exact (putW_none (ws := x :: xs) fun y hy => by
          rcases List.mem_cons.1 hy with rfl | hy
          · exact hne
          · have := a1 y hy; omega).2
    | succ k =>
      have h0 : x.s < w.s := hb 0 (by simp) (by omega)
      obtain ⟨h1, h2⟩ := ih (k := k) (by simpa using hk) (fun j h hj => hb (j + 1) (by simpa using h) (by omega)) (fun h => hn (by simpa using h)) a2
      refine ⟨fun h he => ?_, fun h => ?_⟩
      · obtain ⟨h3, h4⟩ := h1 (by simpa using h) (by simpa using he)
        exact ⟨by rw [addW, if_pos h0, h3]; rfl, by rw [radW, if_neg (by omega), h4]; rfl⟩
      · obtain ⟨h3, h4⟩ := h2 fun h' => h (by simpa using h')
        exact ⟨by rw [addW, if_pos h0, h3]; rfl, by rw [radW, if_neg (by omega), h4]⟩

/-- Lists with the same wheels, one of them in order. -/
theorem rad_perm {ws us : List W9} (hp : us.Perm ws) (ha : Asc ws) (w : W9) : radW us w = radW ws w ∧ (putW us w).Perm (addW ws w) := by
  have hd : us.Pairwise fun x y => x.s ≠ y.s := (hp.pairwise_iff (R := fun x y : W9 => x.s ≠ y.s) (fun {x y} h => Ne.symm h)).2 (ha.imp fun h => by omega)
  obtain ⟨k, hk, hb, hn⟩ : ∃ k, k ≤ ws.length ∧ (∀ j (h : j < ws.length), j < k → (ws[j]).s < w.s) ∧ ∀ h : k < ws.length, w.s ≤ (ws[k]).s := by
    clear hp hd
    induction ws with
    | nil => exact ⟨0, by simp, fun _ h => by simp at h, fun h => by simp at h⟩
    | cons x xs ih =>
      by_cases h0 : x.s < w.s
      · obtain ⟨k, hk, hb, hn⟩ := ih (List.pairwise_cons.1 ha).2
        refine ⟨k + 1, by simpa using hk, fun j h hj => ?_, fun h => by simpa using hn (by simpa using h)⟩
        cases j with
        | zero => exact h0
        | succ j => simpa using hb j (by simpa using h) (by omega)
      · exact ⟨0, by omega, fun _ _ h => absurd h (by omega), fun _ => by show w.s ≤ x.s; omega⟩
  obtain ⟨hA, hB⟩ := addW_at hk hb hn ha
  by_cases hf : ∃ x ∈ us, x.s = w.s
  · obtain ⟨x, hx, he⟩ := hf
    obtain ⟨i, hi, rfl⟩ := List.getElem_of_mem hx
    have hbu : ∀ j (h : j < us.length), j < i → (us[j]).s ≠ w.s := fun j h hj => by
      have := List.pairwise_iff_getElem.1 hd j i h hi hj
      rwa [he] at this
    obtain ⟨p1, p2⟩ := putW_some hi he hbu
    have hmem : us[i] ∈ ws := hp.mem_iff.1 hx
    obtain ⟨q, hq, heq⟩ := List.getElem_of_mem hmem
    have hkq : q = k := by
      have hs : (ws[q]).s = w.s := by rw [heq, he]
      rcases Nat.lt_trichotomy q k with h | h | h
      · have := hb q hq h; omega
      · exact h
      · have h1 := hn (by omega)
        have h2 := List.pairwise_iff_getElem.1 ha k q (by omega) hq h
        omega
    subst hkq
    obtain ⟨h3, h4⟩ := hA hq (by rw [heq, he])
    rw [p1, p2, h3, h4, heq]
    refine ⟨rfl, ?_⟩
    have e1 : us.set i ⟨w.s, (us[i]).c.add w.c⟩ = us.take i ++ ⟨w.s, (us[i]).c.add w.c⟩ :: us.drop (i + 1) := List.set_eq_take_append_cons_drop ▸ if_pos hi
    have e2 : ws.set q ⟨w.s, (us[i]).c.add w.c⟩ = ws.take q ++ ⟨w.s, (us[i]).c.add w.c⟩ :: ws.drop (q + 1) := List.set_eq_take_append_cons_drop ▸ if_pos hq
    rw [e1, e2]
    refine List.perm_middle.trans (List.Perm.trans (List.Perm.cons _ ?_) List.perm_middle.symm)
    have f1 : us.Perm (us[i] :: (us.take i ++ us.drop (i + 1))) := by
      conv => lhs; rw [← List.take_append_drop i us, List.drop_eq_getElem_cons hi]
      exact List.perm_middle
    have f2 : ws.Perm (us[i] :: (ws.take q ++ ws.drop (q + 1))) := by
      conv => lhs; rw [← List.take_append_drop q ws, List.drop_eq_getElem_cons hq, heq]
      exact List.perm_middle
    exact List.Perm.cons_inv (f1.symm.trans (hp.trans f2))
  · have hfu : ∀ x ∈ us, x.s ≠ w.s := fun x hx e => hf ⟨x, hx, e⟩
    obtain ⟨p1, p2⟩ := putW_none hfu
    obtain ⟨h3, h4⟩ := hB fun h => hfu _ (hp.mem_iff.2 (List.getElem_mem h))
    rw [p1, p2, h3, h4]
    refine ⟨rfl, ?_⟩
    refine (List.perm_append_comm (l₁ := us) (l₂ := [w])).trans ?_
    refine List.Perm.trans (List.Perm.cons _ ?_) List.perm_middle.symm
    rw [List.take_append_drop]
    exact hp

theorem fold_perm (ds : List W9) : ∀ {ws us : List W9}, us.Perm ws → Asc ws → (foldW putW us ds).2 = (foldW addW ws ds).2 ∧ ((foldW addW ws ds).2 = true → (foldW putW us ds).1.Perm (foldW addW ws ds).1 ∧ Asc (foldW addW ws ds).1) := by
  induction ds with
  | nil => exact fun hp ha => ⟨rfl, fun _ => ⟨hp, ha⟩⟩
  | cons d ds ih =>
    intro ws us hp ha
    obtain ⟨h1, h2⟩ := rad_perm hp ha d
    unfold foldW
    rw [h1]
    split
    · exact ih h2 (addW_asc ha d)
    · exact ⟨rfl, fun h => by cases h⟩

theorem perm_asc_eq {ws us : List W9} (hp : us.Perm ws) (ha : Asc ws) (hu : Asc us) : us = ws := by
  refine List.Perm.eq_of_pairwise (le := fun x y : W9 => x.s < y.s) ?_ hu ha hp
  intro a b _ _ h1 h2
  omega

theorem designB_perm {ws us : List W9} (hp : us.Perm ws) : designB us = designB ws := by
  unfold designB
  rw [hp.length_eq]
  congr 1
  rw [Bool.eq_iff_iff, List.all_eq_true, List.all_eq_true]
  exact ⟨fun h x hx => h x (hp.mem_iff.2 hx), fun h x hx => h x (hp.mem_iff.1 hx)⟩

/-- What the program's list gives, sorted: the reference's list. -/
theorem tidy_same (ds : List W9) {us : List W9} (h : foldW putW [] ds = (us, true)) :
    (designB (nonzero us) = true → ∀ srt, srt.Perm (nonzero us) → (srt.Pairwise fun x y => ¬ y.s < x.s) → tidyRes ds = (srt, true)) ∧ (designB (nonzero us) = false → tidyRes ds = ([], false)) := by
  obtain ⟨h1, h2⟩ := fold_perm ds (List.Perm.refl []) (by simp [Asc])
  rw [h] at h1 h2
  obtain ⟨h3, h4⟩ := h2 h1.symm
  have hp : (nonzero us).Perm (nonzero (foldW addW [] ds).1) := h3.filter _
  have ha : Asc (nonzero (foldW addW [] ds).1) := List.Pairwise.filter _ h4
  have hd := designB_perm hp
  refine ⟨fun hd1 srt hs hsw => ?_, fun hd0 => ?_⟩
  · have hpp := hs.trans hp
    have hne : srt.Pairwise fun x y => x.s ≠ y.s := (hpp.pairwise_iff (R := fun x y : W9 => x.s ≠ y.s) (fun {x y} h => Ne.symm h)).2 (ha.imp fun h => by omega)
    have hu : Asc srt := by
      refine List.Pairwise.imp₂ (fun x y a b => ?_) hsw hne
      omega
    rw [tidyRes, doneW, if_pos ⟨h1.symm, by rw [← hd]; exact hd1⟩, perm_asc_eq hpp ha hu]
  · rw [tidyRes, doneW, if_neg]
    rintro ⟨-, h5⟩
    rw [← hd, hd0] at h5
    cases h5

theorem tidy_fail (ds : List W9) (h : (foldW putW [] ds).2 = false) : tidyRes ds = ([], false) := by
  obtain ⟨h1, _⟩ := fold_perm ds (List.Perm.refl []) (by simp [Asc])
  rw [tidyRes, doneW, if_neg]
  rintro ⟨h2, -⟩
  rw [← h1, h] at h2
  cases h2

end Go.Proofs.Ytnlmiemnblppbaa
