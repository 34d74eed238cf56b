/-
  A program in a loop, in plain Lean.
-/
import Derived.Test.YtincimgpgncomaaDoorFl
namespace Go.Proofs.YtincimgpgncomaaDoor
open Go.RowKit

theorem wordsL_app (a b : List UInt8) : wordsL (a ++ 32 :: b) = wordsL a ++ wordsL b := by
  induction a with
  | nil => simp [wordsL]
  | cons c a ih =>
    by_cases h : c = 32
    · subst h
      simp [wordsL, ih]
    · have hn := wordsL_ne a
      rw [List.cons_append, wordsL, if_neg h, wordsL, if_neg h, ih]
      cases e : wordsL a with
      | nil => exact absurd e hn
      | cons x t => rfl

theorem flat_app (L : Nat) : ∀ (ws : List ByteArray) (out o : List UInt8) (rest tail : List ByteArray), ws.length ≤ L → flat ws true out = some (o, rest) → flat (ws ++ tail) true out = some (o, rest ++ tail) := by
  induction L with
  | zero =>
    intro ws out o rest tail hL h
    obtain rfl : ws = [] := List.eq_nil_of_length_eq_zero (by omega)
    rw [flat_nil, if_pos (.inl rfl)] at h
    cases h
  | succ L ih =>
    intro ws out o rest tail hL h
    cases ws with
    | nil =>
      rw [flat_nil, if_pos (.inl rfl)] at h
      cases h
    | cons w ws =>
      have hL : ws.length ≤ L := by simpa using hL
      rw [List.cons_append]
      cases hs : stepB w with
      | some b =>
        rw [flat_step hs] at h ⊢
        split at h
        · rename_i h5
          rw [if_pos h5]
          exact ih _ _ _ _ _ hL h
        · cases h
      | none =>
        by_cases hk : 0 < loopB w
        · rw [flat_loop hs hk] at h ⊢
          cases hb : flat ws true [] with
          | none => rw [hb] at h; cases h
          | some x =>
            obtain ⟨body, rest'⟩ := x
            rw [hb] at h
            rw [ih _ _ _ _ tail hL hb]
            dsimp only at h ⊢
            split at h
            · rename_i h5
              rw [if_pos h5]
              have := flat_rest hb
              exact ih _ _ _ _ _ (by omega) h
            · cases h
        · rw [flat_else hs hk] at h ⊢
          split at h
          · rename_i hc
            rw [if_pos hc]
            cases h
            rfl
          · cases h

def closeW : ByteArray := ⟨#[93]⟩

theorem flat_close (L : Nat) : ∀ (ws : List ByteArray) (out o : List UInt8) (rest : List ByteArray), ws.length ≤ L → flat ws false out = some (o, rest) → flat (ws ++ [closeW]) true out = some (o, []) := by
  induction L with
  | zero =>
    intro ws out o rest hL h
    obtain rfl : ws = [] := List.eq_nil_of_length_eq_zero (by omega)
    rw [flat_nil] at h
    split at h
    · cases h
    · rename_i hn
      cases h
      rw [List.nil_append, flat_else (w := closeW) rfl (by decide), if_pos ⟨rfl, rfl, fun e => hn (.inr e)⟩]
  | succ L ih =>
    intro ws out o rest hL h
    cases ws with
    | nil =>
      rw [flat_nil] at h
      split at h
      · cases h
      · rename_i hn
        cases h
        rw [List.nil_append, flat_else (w := closeW) rfl (by decide), if_pos ⟨rfl, rfl, fun e => hn (.inr e)⟩]
    | cons w ws =>
      have hL : ws.length ≤ L := by simpa using hL
      rw [List.cons_append]
      cases hs : stepB w with
      | some b =>
        rw [flat_step hs] at h ⊢
        split at h
        · rename_i h5
          rw [if_pos h5]
          exact ih _ _ _ _ hL h
        · cases h
      | none =>
        by_cases hk : 0 < loopB w
        · rw [flat_loop hs hk] at h ⊢
          cases hb : flat ws true [] with
          | none => rw [hb] at h; cases h
          | some x =>
            obtain ⟨body, rest'⟩ := x
            rw [hb] at h
            rw [flat_app _ _ _ _ _ [closeW] (Nat.le_refl _) hb]
            dsimp only at h ⊢
            split at h
            · rename_i h5
              rw [if_pos h5]
              have := flat_rest hb
              exact ih _ _ _ _ (by omega) h
            · cases h
        · rw [flat_else hs hk, if_neg (by simp)] at h
          cases h

def loopW (d : UInt8) : ByteArray := ⟨#[114, d]⟩

theorem loopW_loop {d : UInt8} (h : 49 ≤ d ∧ d ≤ 57) : loopB (loopW d) = d.toNat - 48 := by
  show (if (114 : UInt8) = 114 ∧ 49 ≤ d ∧ d ≤ 57 then d.toNat - 48 else 0) = _
  rw [if_pos ⟨rfl, h⟩]

theorem loop_flat {d : UInt8} (hd : 49 ≤ d ∧ d ≤ 57) {ws : List ByteArray} {o : List UInt8} {rest : List ByteArray} (h : flat ws false [] = some (o, rest)) :
    flat (loopW d :: (ws ++ [closeW])) false [] = if (repB (d.toNat - 48) o).length ≤ 500 then some (repB (d.toNat - 48) o, []) else none := by
  have h1 := UInt8.le_iff_toNat_le.1 hd.1
  have e1 : (49 : UInt8).toNat = 49 := rfl
  have hk : 0 < loopB (loopW d) := by rw [loopW_loop hd]; omega
  rw [flat_loop (w := loopW d) rfl hk, flat_close _ _ _ _ _ (Nat.le_refl _) h, loopW_loop hd]
  dsimp only
  rw [List.nil_append]
  split
  · rename_i h5
    rw [flat_nil, if_neg]
    rintro (h0 | h0)
    · cases h0
    · have hne : o ≠ [] := flat_ne (by assumption)
      have hl := repB_len (d.toNat - 48) o
      rw [h0] at hl
      have : 0 < (d.toNat - 48) * o.length := Nat.mul_pos (by omega) (List.length_pos_iff.2 hne)
      simp only [List.length_nil] at hl
      omega
  · rfl

/-- The program s in a loop. -/
def loopT (d : UInt8) (s : ByteArray) : ByteArray := ⟨#[114, d, 32]⟩ ++ s ++ ⟨#[32, 93]⟩

theorem loopT_list (d : UInt8) (s : ByteArray) : (loopT d s).data.toList = [114, d] ++ 32 :: (s.data.toList ++ 32 :: [93]) := by
  unfold loopT
  rw [ByteArray.data_append, ByteArray.data_append]
  simp

theorem wordsB_loop {d : UInt8} (hd : d ≠ 32) (s : ByteArray) : wordsB (loopT d s) = loopW d :: (wordsB s ++ [closeW]) := by
  unfold wordsB
  rw [loopT_list, wordsL_app, wordsL_app]
  have e1 : wordsL [114, d] = [[114, d]] := by simp [wordsL, hd]
  have e2 : wordsL [93] = [[93]] := by simp [wordsL]
  rw [e1, e2, List.map_append, List.map_append]
  rfl

theorem progB_flat {s : ByteArray} {o : List UInt8} (h : progB s = some o) : ∃ rest, flat (wordsB s) false [] = some (o, rest) := by
  unfold progB at h
  split at h
  · cases h
  · cases hf : flat (wordsB s) false [] with
    | none => rw [hf] at h; cases h
    | some x => rw [hf] at h; cases h; exact ⟨x.2, rfl⟩

theorem prog_loop {d : UInt8} (hd : 49 ≤ d ∧ d ≤ 57) (hd2 : d ≠ 32) {s : ByteArray} {o : List UInt8} (h : progB s = some o) : progB (loopT d s) = none ∨ progB (loopT d s) = some (repB (d.toNat - 48) o) := by
  obtain ⟨rest, hf⟩ := progB_flat h
  unfold progB
  split
  · exact .inl rfl
  · rw [wordsB_loop hd2, loop_flat hd hf]
    split
    · exact .inr rfl
    · exact .inl rfl

end Go.Proofs.YtincimgpgncomaaDoor
