/-
  The edges of a program done twice with the pen up first, in plain Lean.
-/
import Derived.Test.YtincimgpgncomaaDoorLq
import Derived.Test.YtincimgpgncomaaDoorMp
namespace Go.Proofs.YtincimgpgncomaaDoor
open Go.RowKit

theorem flat_pre (b : UInt8) (L : Nat) : ∀ (ws : List ByteArray) (out o : List UInt8) (rest : List ByteArray), ws.length ≤ L → flat ws false out = some (o, rest) →
    flat (ws ++ [closeW]) true (b :: out) = some (b :: o, []) ∨ flat (ws ++ [closeW]) true (b :: out) = none := by
  induction L with
  | zero =>
    intro ws out o rest hL h
    obtain rfl : ws = [] := List.eq_nil_of_length_eq_zero (by omega)
    rw [flat_nil] at h
    split at h
    · cases h
    · cases h
      rw [List.nil_append, flat_else (w := closeW) rfl (by decide), if_pos ⟨rfl, rfl, by simp⟩]
      exact .inl rfl
  | succ L ih =>
    intro ws out o rest hL h
    cases ws with
    | nil =>
      rw [flat_nil] at h
      split at h
      · cases h
      · cases h
        rw [List.nil_append, flat_else (w := closeW) rfl (by decide), if_pos ⟨rfl, rfl, by simp⟩]
        exact .inl rfl
    | cons w ws =>
      have hL : ws.length ≤ L := by simpa using hL
      rw [List.cons_append]
      cases hs : stepB w with
      | some c =>
        rw [flat_step hs] at h ⊢
        split at h
        · split
          · exact ih _ _ _ _ hL h
          · exact .inr rfl
        · cases h
      | none =>
        by_cases hk : 0 < loopB w
        · rw [flat_loop hs hk] at h ⊢
          cases hb : flat ws true [] with
          | none => rw [hb] at h; cases h
          | some x =>
            obtain ⟨body, rest'⟩ := x
            rw [hb] at h
            rw [flat_app _ _ _ _ _ [closeW] (Nat.le_refl _) hb]
            dsimp only at h ⊢
            split at h
            · have := flat_rest hb
              split
              · exact ih _ _ _ _ (by omega) h
              · exact .inr rfl
            · cases h
        · rw [flat_else hs hk, if_neg (by simp)] at h
          cases h

def upW : ByteArray := ⟨#[117]⟩

/-- The program s done twice, each time from a pen that is up. -/
def twiceT (s : ByteArray) : ByteArray := ⟨#[114, 50, 32, 117, 32]⟩ ++ s ++ ⟨#[32, 93]⟩

theorem wordsB_twice (s : ByteArray) : wordsB (twiceT s) = loopW 50 :: upW :: (wordsB s ++ [closeW]) := by
  have e : (twiceT s).data.toList = [114, 50] ++ 32 :: ([117] ++ 32 :: (s.data.toList ++ 32 :: [93])) := by
    unfold twiceT
    rw [ByteArray.data_append, ByteArray.data_append]
    simp
  unfold wordsB
  rw [e, wordsL_app, wordsL_app, wordsL_app]
  have e1 : wordsL [114, 50] = [[114, 50]] := by simp [wordsL]
  have e2 : wordsL [93] = [[93]] := by simp [wordsL]
  have e3 : wordsL [117] = [[117]] := by simp [wordsL]
  rw [e1, e2, e3, List.map_append, List.map_append, List.map_append]
  rfl

theorem prog_twice {s : ByteArray} {o : List UInt8} (h : progB s = some o) : progB (twiceT s) = none ∨ progB (twiceT s) = some ((117 :: o) ++ (117 :: o)) := by
  obtain ⟨rest, hf⟩ := progB_flat h
  unfold progB
  split
  · exact .inl rfl
  · rw [wordsB_twice, flat_loop (w := loopW 50) rfl (by decide), flat_step (w := upW) (b := 117) rfl, if_pos (by simp), List.nil_append]
    rcases flat_pre 117 _ _ _ _ _ (Nat.le_refl _) hf with h1 | h1
    · rw [h1]
      dsimp only
      split
      · rw [flat_nil, if_neg (by
          rintro (h0 | h0)
          · cases h0
          · have hl := repB_len (loopB (loopW 50)) (117 :: o)
            have h2 : loopB (loopW 50) = 2 := rfl
            rw [List.nil_append] at h0
            rw [h0, h2] at hl
            simp only [List.length_nil, List.length_cons] at hl
            omega)]
        refine .inr ?_
        show some ([] ++ repB 2 (117 :: o)) = _
        simp [repB]
      · exact .inl rfl
    · rw [h1]
      exact .inl rfl

theorem edges_more (l : List UInt8) : ∀ r : Run, ∃ t, (l.foldl stepR r).edges = r.edges ++ t := by
  induction l with
  | nil => intro r; exact ⟨[], by simp⟩
  | cons b l ih =>
    intro r
    obtain ⟨t, ht⟩ := ih (stepR r b)
    rw [List.foldl_cons, ht]
    unfold stepR
    split
    · exact ⟨t, rfl⟩
    · split
      · exact ⟨t, rfl⟩
      · split
        · exact ⟨t, rfl⟩
        · cases dirB b with
          | none => exact ⟨t, rfl⟩
          | some d =>
            unfold goB
            dsimp only
            split
            · exact ⟨_ :: t, by simp; rfl⟩
            · exact ⟨t, rfl⟩

theorem edges_alike (l : List UInt8) : ∀ r r' : Run, r.down = r'.down → (l.foldl stepR r).edges.length + r'.edges.length = (l.foldl stepR r').edges.length + r.edges.length := by
  induction l with
  | nil => intro r r' _; simp [Nat.add_comm]
  | cons b l ih =>
    intro r r' h
    rw [List.foldl_cons, List.foldl_cons]
    have hd : (stepR r b).down = (stepR r' b).down ∧ (stepR r b).edges.length + r'.edges.length = (stepR r' b).edges.length + r.edges.length := by
      unfold stepR
      split
      · exact ⟨rfl, Nat.add_comm _ _⟩
      · split
        · exact ⟨rfl, Nat.add_comm _ _⟩
        · split
          · exact ⟨h, Nat.add_comm _ _⟩
          · cases dirB b with
            | none => exact ⟨h, Nat.add_comm _ _⟩
            | some d =>
              refine ⟨h, ?_⟩
              unfold goB
              dsimp only
              rw [h]
              split
              · simp; omega
              · exact Nat.add_comm _ _
    have := ih _ _ hd.1
    omega

theorem run_up (o : List UInt8) : runB (117 :: o) = runB o := rfl

theorem twice_len (o : List UInt8) : (runB ((117 :: o) ++ (117 :: o))).edges.length = 2 * (runB o).edges.length := by
  have e : runB ((117 :: o) ++ (117 :: o)) = o.foldl stepR { runB o with down := false } := by
    unfold runB
    rw [List.foldl_append]
    rfl
  have h2 : (o.foldl stepR { runB o with down := false }).edges.length + 0 = (runB o).edges.length + (runB o).edges.length := edges_alike o { runB o with down := false } run0 rfl
  rw [e]
  generalize (o.foldl stepR { runB o with down := false }).edges.length = k at *
  omega

theorem addE_len (es : List (Int × Int × Int × Int)) : ∀ dl, dl.length ≤ (es.foldl addE dl).length := by
  induction es with
  | nil => intro dl; exact Nat.le_refl _
  | cons e es ih =>
    intro dl
    rw [List.foldl_cons]
    refine Nat.le_trans ?_ (ih _)
    unfold addE
    split
    · exact Nat.le_refl _
    · simp

theorem twice_diff (o : List UInt8) : (diffE (runB o).edges).length ≤ (diffE (runB ((117 :: o) ++ (117 :: o))).edges).length := by
  have e : runB ((117 :: o) ++ (117 :: o)) = (117 :: o).foldl stepR (runB o) := by
    unfold runB
    rw [List.foldl_append]
    rfl
  obtain ⟨t, ht⟩ := edges_more (117 :: o) (runB o)
  rw [e, ht]
  unfold diffE
  rw [List.foldl_append]
  exact addE_len _ _

end Go.Proofs.YtincimgpgncomaaDoor
