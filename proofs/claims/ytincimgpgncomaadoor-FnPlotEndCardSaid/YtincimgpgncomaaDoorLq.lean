/-
  Flat programs, ends and moves of programs, in plain Lean.
-/
import Derived.Test.YtincimgpgncomaaDoorLp
import Derived.Test.YtincimgpgncomaaDoorDo
import Derived.Test.YtincimgpgncomaaDoorRc
namespace Go.Proofs.YtincimgpgncomaaDoor
open Go.RowKit

theorem flat_plain : ∀ (o out : List UInt8), (∀ b ∈ o, isStepB b) → (out ++ o).length ≤ 500 → out ++ o ≠ [] → flat (o.map fun b => (⟨#[b]⟩ : ByteArray)) false out = some (out ++ o, []) := by
  intro o
  induction o with
  | nil =>
    intro out _ _ h
    rw [List.append_nil] at h ⊢
    rw [List.map_nil, flat_nil, if_neg (by simp [h])]
  | cons b o ih =>
    intro out hs hl h
    have hb : stepB ⟨#[b]⟩ = some b := by rw [stepB_one, if_pos (hs b (List.mem_cons_self ..))]
    rw [List.map_cons, flat_step hb, if_pos (by simp at hl ⊢; omega)]
    have e : out ++ b :: o = (out ++ [b]) ++ o := by simp
    rw [e] at hl h ⊢
    exact ih _ (fun c hc => hs c (List.mem_cons_of_mem _ hc)) hl h

theorem words_join : ∀ (o : List UInt8), o ≠ [] → (∀ b ∈ o, b ≠ 32) → wordsL (joinB o) = o.map fun b => [b] := by
  intro o
  induction o with
  | nil => intro h; exact absurd rfl h
  | cons b o ih =>
    intro _ hs
    have hb := hs b (List.mem_cons_self ..)
    cases o with
    | nil => simp [joinB, wordsL, hb]
    | cons c l =>
      have e : joinB (b :: c :: l) = [b] ++ 32 :: joinB (c :: l) := by simp [joinB]
      rw [e, wordsL_app, ih (by simp) (fun d hd => hs d (List.mem_cons_of_mem _ hd))]
      simp [wordsL, hb]

theorem step_space {b : UInt8} (h : isStepB b) : b ≠ 32 := by
  rcases h with rfl | rfl | rfl | rfl | rfl | rfl | rfl <;> decide

theorem prog_flat {o : List UInt8} (hs : ∀ b ∈ o, isStepB b) (hl : o.length ≤ 500) (h0 : o ≠ []) (h4 : (joinB o).length ≤ 400) : progB ⟨(joinB o).toArray⟩ = some o := by
  have hsz : (⟨(joinB o).toArray⟩ : ByteArray).size = (joinB o).length := List.size_toArray
  have hw : wordsB ⟨(joinB o).toArray⟩ = o.map fun b => (⟨#[b]⟩ : ByteArray) := by
    unfold wordsB
    have e : (⟨(joinB o).toArray⟩ : ByteArray).data.toList = joinB o := rfl
    rw [e, words_join o h0 (fun b hb => step_space (hs b hb)), List.map_map]
    rfl
  unfold progB
  rw [if_neg (by rw [hsz]; omega), hw, flat_plain o [] hs (by simpa using hl) (by simpa using h0)]
  rfl

/-- The moves lead to the pen's place. -/
theorem run_place (o : List UInt8) : mvX (runB o).moves (runB o).moves.length = (runB o).x ∧ mvY (runB o).moves (runB o).moves.length = (runB o).y := by
  have h : ∀ (l : List UInt8) (r : Run), (r.moves.map Prod.fst).sum = r.x ∧ (r.moves.map Prod.snd).sum = r.y → ((l.foldl stepR r).moves.map Prod.fst).sum = (l.foldl stepR r).x ∧ ((l.foldl stepR r).moves.map Prod.snd).sum = (l.foldl stepR r).y := by
    intro l
    induction l with
    | nil => intro r h; exact h
    | cons b l ih =>
      intro r h
      rw [List.foldl_cons]
      refine ih _ ?_
      obtain ⟨h1, h2⟩ := h
      unfold stepR
      split
      · exact ⟨h1, h2⟩
      · split
        · exact ⟨h1, h2⟩
        · split
          · exact ⟨h1, h2⟩
          · cases dirB b with
            | none => exact ⟨h1, h2⟩
            | some d => simp [goB, h1, h2]
  have := h o run0 ⟨rfl, rfl⟩
  unfold mvX mvY
  rw [List.take_length]
  exact this

theorem run_units (o : List UInt8) : ∀ m ∈ (runB o).moves, m = (1, 0) ∨ m = (0, 1) ∨ m = (-1, 0) ∨ m = (0, -1) := by
  have h : ∀ (l : List UInt8) (r : Run), (∀ m ∈ r.moves, m = (1, 0) ∨ m = (0, 1) ∨ m = (-1, 0) ∨ m = (0, -1)) → ∀ m ∈ (l.foldl stepR r).moves, m = (1, 0) ∨ m = (0, 1) ∨ m = (-1, 0) ∨ m = (0, -1) := by
    intro l
    induction l with
    | nil => intro r h; exact h
    | cons b l ih =>
      intro r h
      rw [List.foldl_cons]
      refine ih _ ?_
      rw [step_moves]
      intro m hm
      rcases List.mem_append.1 hm with hm | hm
      · exact h m hm
      · unfold moveB at hm
        split at hm
        · cases hm
        · cases hd : dirB b with
          | none => rw [hd] at hm; cases hm
          | some d =>
            rw [hd] at hm
            simp only [Option.map_some, Option.toList_some, List.mem_singleton] at hm
            subst hm
            exact way_cases _
  exact h o run0 (fun m hm => by cases hm)

theorem mvs_of_run (o : List UInt8) : mvsUpto (runB o).moves (runB o).moves.length := by
  intro i h _
  have := run_units o _ (List.getElem_mem h)
  unfold mvIn
  rcases this with e | e | e | e <;> rw [e] <;> decide

theorem len_unit {m : Int × Int} (h : m = (1, 0) ∨ m = (0, 1) ∨ m = (-1, 0) ∨ m = (0, -1)) : movesLen [m] = 1 := by
  rcases h with rfl | rfl | rfl | rfl <;> decide

end Go.Proofs.YtincimgpgncomaaDoor
