/-
  The reference's PlotValid, PlotSteps.
-/
import Derived.Test.YtincimgpgncomaaDoorPf
namespace Go.Proofs.YtincimgpgncomaaDoor
open Go.RowKit

theorem wordsL_len (l : List UInt8) : (wordsL l).length ≤ l.length + 1 := by
  induction l with
  | nil => simp [wordsL]
  | cons c l ih =>
    have hn := wordsL_ne l
    rw [wordsL]
    split
    · simpa using ih
    · cases e : wordsL l with
      | nil => exact absurd e hn
      | cons a t => rw [e] at ih; simp at ih ⊢; omega

def wordsB (s : ByteArray) : List ByteArray := (wordsL s.data.toList).map fun l => ⟨⟨l⟩⟩

theorem words_of {s : ByteArray} {xs : List ByteArray} (h : dats xs = wordsL s.data.toList) : xs = wordsB s := by
  unfold wordsB
  rw [← h, dats, List.map_map]
  exact (List.map_id' xs).symm.trans (List.map_congr_left fun x _ => rfl)

/-- The steps of a text that is a program. -/
def progB (s : ByteArray) : Option (List UInt8) := if 400 < s.size then none else (flat (wordsB s) false []).map (·.1)

theorem progB_len {s : ByteArray} {o : List UInt8} (h : progB s = some o) : o.length ≤ 500 := by
  unfold progB at h
  split at h
  · cases h
  · cases hf : flat (wordsB s) false [] with
    | none => rw [hf] at h; cases h
    | some x => rw [hf] at h; cases h; exact flat_len hf

theorem progB_steps {s : ByteArray} {o : List UInt8} (h : progB s = some o) : ∀ b ∈ o, isStepB b := by
  unfold progB at h
  split at h
  · cases h
  · cases hf : flat (wordsB s) false [] with
    | none => rw [hf] at h; cases h
    | some x => rw [hf] at h; cases h; exact flat_steps hf

theorem progB_ne {s : ByteArray} {o : List UInt8} (h : progB s = some o) : o ≠ [] := by
  unfold progB at h
  split at h
  · cases h
  · cases hf : flat (wordsB s) false [] with
    | none => rw [hf] at h; cases h
    | some x => rw [hf] at h; cases h; exact flat_ne hf

/-- The steps that were read, and whether. -/
def ProgPost (r : Option (List UInt8)) (w : World) (e : Ending) (w' : World) : Prop :=
  ∃ (g cap : Nat) (o : List UInt8) (ok : Bool), e = .returned (.tuple #[.slice (some ⟨g, 0, none⟩) o.length cap, .bool ok]) ∧ w'.ownsRow w.heap.size 9 1 (.slice (some ⟨g, 0, none⟩) o.length cap) o.length (ones o) ∧ o.length ≤ 10000 ∧ Below w.heap.size w w' ∧
    (match r with
      | none => ok = false
      | some s => o = s ∧ ok = true)

set_option maxRecDepth 100000 in
set_option maxHeartbeats 2000000 in
theorem l12Program_ok (s : ByteArray) (w : World) : Calls Tryd.prog 40 #[.string s] w (ProgPost (progB s) w) := by
  by_cases hbig : 400 < s.size
  · have hres : progB s = none := if_pos hbig
    rw [hres]
    have h1 : (s.size : Int) > 400 := by omega
    go_enter Tryd.func40, Tryd.ntmps40
    go_wp2_with fail
    go_ret2
    exact ⟨_, 0, [], false, rfl, by simpa [ones] using World.ownsRow_lit (base := w.heap.size) (e := 9) (size := 1) w #[] 0 (Nat.le_refl _) (by decide) (by simp), by simp, kept_new _ _, rfl⟩
  · have hres : progB s = (flat (wordsB s) false []).map (·.1) := if_neg hbig
    have h1 : ¬ (s.size : Int) > 400 := by omega
    obtain ⟨r, hr⟩ : ∃ r, flat (wordsB s) false [] = r := ⟨_, rfl⟩
    rw [hres, hr]
    have Hr := hide hr
    clear hr hres
    go_enter Tryd.func40, Tryd.ntmps40
    go_wp2_with fail
    refine (l12Words_ok s _ (by omega)).mono ?_
    rintro e w1 ⟨v, xs, rfl, ho, hxs, hb1⟩
    have hl : xs.length ≤ 1000000 := by
      have e1 : xs.length = (dats xs).length := by simp [dats]
      have e2 := wordsL_len s.data.toList
      have e3 : s.data.toList.length = s.size := rfl
      rw [e1, hxs]; omega
    obtain rfl := words_of hxs
    clear hxs
    have hf := l12Flat_ok (wordsB s).length (wordsB s) v 0 false w1 (by omega) (by omega) hl (owns_reads ho)
    rw [List.drop_zero] at hf
    have hout : ∀ o rest, flat (wordsB s) false [] = some (o, rest) → rest = [] := fun o rest h => flatN_out _ _ _ _ _ h
    rw [Hr.out] at hf hout
    clear Hr
    generalize (wordsB s).length = n at *
    unfold FlatPost at hf
    cases r with
    | none =>
      dsimp only at hf
      go_wp2_with fail
      refine hf.mono ?_
      rintro e w2 ⟨g2, cap2, o2, k2, rfl, ho2, hl2, hb2, rfl⟩
      have ho2 := owns_base ho2 hb1.size
      go_wp2_with fail
      go_ret2
      exact ⟨g2, cap2, o2, false, rfl, ho2, hl2, kept_trans hb1 hb2, rfl⟩
    | some r =>
      obtain ⟨o, rest⟩ := r
      obtain rfl := hout o rest rfl
      dsimp only at hf
      go_wp2_with fail
      refine hf.mono ?_
      rintro e w2 ⟨g2, cap2, o2, k2, rfl, ho2, hl2, hb2, rfl, rfl⟩
      have ho2 := owns_base ho2 hb1.size
      go_wp2_with fail
      go_ret2
      exact ⟨g2, cap2, o2, true, rfl, ho2, hl2, kept_trans hb1 hb2, rfl, rfl⟩

set_option maxHeartbeats 1000000 in
theorem validSpec_ok (s : ByteArray) (w : World) : Calls Tryd.prog 15 #[.string s] w fun e w' => e = .returned (.bool (progB s).isSome) ∧ Below w.heap.size w w' := by
  have hp := l12Program_ok s w
  generalize progB s = r at hp ⊢
  unfold ProgPost at hp
  go_enter Tryd.func15, Tryd.ntmps15
  go_wp2_with fail
  refine hp.mono ?_
  rintro e w1 ⟨g, cap, o, ok, rfl, ho, hl, hb, hr⟩
  cases r with
  | none =>
    obtain rfl := hr
    go_wp2_with fail
    go_ret
    exact ⟨rfl, hb⟩
  | some r =>
    obtain ⟨rfl, rfl⟩ := hr
    go_wp2_with fail
    go_ret
    exact ⟨rfl, hb⟩

/-- The number of steps, or -1. -/
def stepsB (s : ByteArray) : Int := match progB s with
  | none => -1
  | some o => o.length

set_option maxHeartbeats 1000000 in
theorem stepsSpec_ok (s : ByteArray) (w : World) : Calls Tryd.prog 17 #[.string s] w fun e w' => e = .returned (.int .i64 (stepsB s)) ∧ Below w.heap.size w w' := by
  have hp := l12Program_ok s w
  unfold stepsB
  generalize progB s = r at hp ⊢
  unfold ProgPost at hp
  go_enter Tryd.func17, Tryd.ntmps17
  go_wp2_with fail
  refine hp.mono ?_
  rintro e w1 ⟨g, cap, o, ok, rfl, ho, hl, hb, hr⟩
  cases r with
  | none =>
    obtain rfl := hr
    go_wp2_with fail
    go_ret
    exact ⟨rfl, hb⟩
  | some r =>
    obtain ⟨rfl, rfl⟩ := hr
    go_wp2_with fail
    go_ret
    exact ⟨rfl, hb⟩

end Go.Proofs.YtincimgpgncomaaDoor
