/-
  Programs of the plotter, in plain Lean: words, loops, the steps.
-/
import Derived.Test.YtincimgpgncomaaDoorBase
namespace Go.Proofs.YtincimgpgncomaaDoor

/-- The step that a word is. -/
def stepB (w : ByteArray) : Option UInt8 :=
  match w.data.toList with
  | [b] => if b = 117 ∨ b = 100 ∨ b = 110 ∨ b = 101 ∨ b = 115 ∨ b = 119 ∨ b = 116 then some b else none
  | _ => none
/-- How often a word repeats, or 0. -/
def loopB (w : ByteArray) : Nat :=
  match w.data.toList with
  | [r, d] => if r = 114 ∧ 49 ≤ d ∧ d ≤ 57 then d.toNat - 48 else 0
  | _ => 0
def closeB (w : ByteArray) : Bool := decide (w.data.toList = [93])
def repB (n : Nat) (l : List UInt8) : List UInt8 := (List.replicate n l).flatten

theorem repB_len (n : Nat) (l : List UInt8) : (repB n l).length = n * l.length := by simp [repB]

/-- The steps of words up to the end or up to a bracket, and the words behind; n: as many words as there are. -/
def flatN : Nat → List ByteArray → Bool → List UInt8 → Option (List UInt8 × List ByteArray)
  | _, [], inside, out => if inside = true ∨ out = [] then none else some (out, [])
  | 0, _ :: _, _, _ => none
  | n + 1, w :: ws, inside, out =>
    match stepB w with
    | some b => if (out ++ [b]).length ≤ 500 then flatN n ws inside (out ++ [b]) else none
    | none =>
      if 0 < loopB w then
        match flatN n ws true [] with
        | none => none
        | some (body, rest) => if (out ++ repB (loopB w) body).length ≤ 500 then flatN n rest inside (out ++ repB (loopB w) body) else none
      else if closeB w = true ∧ inside = true ∧ out ≠ [] then some (out, ws) else none

theorem flatN_rest : ∀ (n : Nat) (ws : List ByteArray) (i : Bool) (out o : List UInt8) (rest : List ByteArray), flatN n ws i out = some (o, rest) → rest.length ≤ ws.length := by
  intro n
  induction n with
  | zero =>
    intro ws i out o rest h
    cases ws with
    | nil =>
      simp only [flatN] at h
      split at h
      · cases h
      · cases h; simp
    | cons w ws => simp [flatN] at h
  | succ n ih =>
    intro ws i out o rest h
    cases ws with
    | nil =>
      simp only [flatN] at h
      split at h
      · cases h
      · cases h; simp
    | cons w ws =>
      simp only [flatN] at h
      split at h
      · split at h
        · have := ih _ _ _ _ _ h; simp; omega
        · cases h
      · split at h
        · split at h
          · cases h
          · rename_i body rest' hb
            have h1 := ih _ _ _ _ _ hb
            split at h
            · have := ih _ _ _ _ _ h; simp; omega
            · cases h
        · split at h
          · cases h; simp
          · cases h

theorem flatN_more : ∀ (n m : Nat) (ws : List ByteArray) (i : Bool) (out : List UInt8), ws.length ≤ n → ws.length ≤ m → flatN n ws i out = flatN m ws i out := by
  intro n
  induction n with
  | zero =>
    intro m ws i out h1 h2
    cases ws with
    | nil => simp [flatN]
    | cons w ws => simp at h1
  | succ n ih =>
    intro m ws i out h1 h2
    cases ws with
    | nil => simp [flatN]
    | cons w ws =>
      cases m with
      | zero => simp at h2
      | succ m =>
        have h1 : ws.length ≤ n := by simpa using h1
        have h2 : ws.length ≤ m := by simpa using h2
        simp only [flatN]
        rw [ih m ws true [] h1 h2]
        cases stepB w with
        | some b => simp only; rw [ih m ws i _ h1 h2]
        | none =>
          simp only
          cases hb : flatN m ws true [] with
          | none => rfl
          | some x =>
            obtain ⟨body, rest⟩ := x
            have hr := flatN_rest _ _ _ _ _ _ hb
            simp only
            rw [ih m rest i _ (by omega) (by omega)]

def flat (ws : List ByteArray) (inside : Bool) (out : List UInt8) : Option (List UInt8 × List ByteArray) := flatN ws.length ws inside out

theorem flat_nil (i : Bool) (out : List UInt8) : flat [] i out = if i = true ∨ out = [] then none else some (out, []) := by simp [flat, flatN]

theorem flat_step {w : ByteArray} {b : UInt8} (hw : stepB w = some b) (ws : List ByteArray) (i : Bool) (out : List UInt8) :
    flat (w :: ws) i out = if (out ++ [b]).length ≤ 500 then flat ws i (out ++ [b]) else none := by
  simp only [flat, List.length_cons, flatN, hw]

theorem flat_loop {w : ByteArray} (hw : stepB w = none) (hk : 0 < loopB w) (ws : List ByteArray) (i : Bool) (out : List UInt8) :
    flat (w :: ws) i out = match flat ws true [] with
      | none => none
      | some (body, rest) => if (out ++ repB (loopB w) body).length ≤ 500 then flat rest i (out ++ repB (loopB w) body) else none := by
  simp only [flat, List.length_cons, flatN, hw]
  rw [if_pos hk]
  cases hb : flatN ws.length ws true [] with
  | none => rfl
  | some x =>
    obtain ⟨body, rest⟩ := x
    have hr := flatN_rest _ _ _ _ _ _ hb
    simp only
    rw [flatN_more ws.length rest.length rest i _ hr (Nat.le_refl _)]

theorem flat_else {w : ByteArray} (hw : stepB w = none) (hk : ¬ 0 < loopB w) (ws : List ByteArray) (i : Bool) (out : List UInt8) :
    flat (w :: ws) i out = if closeB w = true ∧ i = true ∧ out ≠ [] then some (out, ws) else none := by
  simp only [flat, List.length_cons, flatN, hw]
  rw [if_neg hk]

theorem flat_rest {ws : List ByteArray} {i : Bool} {out o : List UInt8} {rest : List ByteArray} (h : flat ws i out = some (o, rest)) : rest.length ≤ ws.length := flatN_rest _ _ _ _ _ _ h

/-- What holds of the steps so far and is kept by one step and by a repetition holds of all steps. -/
theorem flatN_all (Q : List UInt8 → Prop) (h0 : Q []) (hs : ∀ out w b, Q out → stepB w = some b → (out ++ [b]).length ≤ 500 → Q (out ++ [b]))
    (hl : ∀ out body w, Q out → Q body → 0 < loopB w → body ≠ [] → (out ++ repB (loopB w) body).length ≤ 500 → Q (out ++ repB (loopB w) body)) :
    ∀ (n : Nat) (ws : List ByteArray) (i : Bool) (out o : List UInt8) (rest : List ByteArray), Q out → flatN n ws i out = some (o, rest) → Q o ∧ o ≠ [] := by
  intro n
  induction n with
  | zero =>
    intro ws i out o rest hq h
    cases ws with
    | nil =>
      simp only [flatN] at h
      split at h
      · cases h
      · rename_i hn; cases h; exact ⟨hq, fun e => hn (.inr e)⟩
    | cons w ws => simp [flatN] at h
  | succ n ih =>
    intro ws i out o rest hq h
    cases ws with
    | nil =>
      simp only [flatN] at h
      split at h
      · cases h
      · rename_i hn; cases h; exact ⟨hq, fun e => hn (.inr e)⟩
    | cons w ws =>
      simp only [flatN] at h
      split at h
      · rename_i b hb
        split at h
        · rename_i hlen
          exact ih _ _ _ _ _ (hs out w b hq hb hlen) h
        · cases h
      · split at h
        · rename_i hk
          split at h
          · cases h
          · rename_i body rest' hb
            have h1 := ih _ _ _ _ _ h0 hb
            split at h
            · rename_i hlen
              exact ih _ _ _ _ _ (hl out body w hq h1.1 hk h1.2 hlen) h
            · cases h
        · split at h
          · rename_i hc; cases h; exact ⟨hq, hc.2.2⟩
          · cases h

theorem flat_ne {ws : List ByteArray} {i : Bool} {o : List UInt8} {rest : List ByteArray} (h : flat ws i [] = some (o, rest)) : o ≠ [] :=
  (flatN_all (fun _ => True) trivial (fun _ _ _ _ _ _ => trivial) (fun _ _ _ _ _ _ _ _ => trivial) _ _ _ _ _ _ trivial h).2

theorem flat_len {ws : List ByteArray} {i : Bool} {o : List UInt8} {rest : List ByteArray} (h : flat ws i [] = some (o, rest)) : o.length ≤ 500 :=
  (flatN_all (fun l => l.length ≤ 500) (by simp) (fun _ _ _ _ _ h => h) (fun _ _ _ _ _ _ _ h => h) _ _ _ _ _ _ (by simp) h).1

def isStepB (b : UInt8) : Prop := b = 117 ∨ b = 100 ∨ b = 110 ∨ b = 101 ∨ b = 115 ∨ b = 119 ∨ b = 116

theorem stepB_is {w : ByteArray} {b : UInt8} (h : stepB w = some b) : isStepB b := by
  unfold stepB at h
  split at h
  · split at h
    · rename_i hb; cases h; exact hb
    · cases h
  · cases h

theorem flat_steps {ws : List ByteArray} {i : Bool} {o : List UInt8} {rest : List ByteArray} (h : flat ws i [] = some (o, rest)) : ∀ b ∈ o, isStepB b :=
  (flatN_all (fun l => ∀ b ∈ l, isStepB b) (by simp)
    (fun out w b hq hb _ c hc => by
      rcases List.mem_append.1 hc with hc | hc
      · exact hq c hc
      · simp at hc; subst hc; exact stepB_is hb)
    (fun out body w hq hb _ _ _ c hc => by
      rcases List.mem_append.1 hc with hc | hc
      · exact hq c hc
      · simp only [repB, List.mem_flatten, List.mem_replicate] at hc
        obtain ⟨l, ⟨_, rfl⟩, hl⟩ := hc
        exact hb c hl) _ _ _ _ _ _ (by simp) h).1

/-- At the outermost level all words are read. -/
theorem flatN_out : ∀ (n : Nat) (ws : List ByteArray) (out o : List UInt8) (rest : List ByteArray), flatN n ws false out = some (o, rest) → rest = [] := by
  intro n
  induction n with
  | zero =>
    intro ws out o rest h
    cases ws with
    | nil =>
      simp only [flatN] at h
      split at h
      · cases h
      · cases h; rfl
    | cons w ws => simp [flatN] at h
  | succ n ih =>
    intro ws out o rest h
    cases ws with
    | nil =>
      simp only [flatN] at h
      split at h
      · cases h
      · cases h; rfl
    | cons w ws =>
      simp only [flatN] at h
      split at h
      · split at h
        · exact ih _ _ _ _ h
        · cases h
      · split at h
        · split at h
          · cases h
          · split at h
            · exact ih _ _ _ _ h
            · cases h
        · split at h
          · rename_i hc; exact absurd hc.2.1 (by simp)
          · cases h

end Go.Proofs.YtincimgpgncomaaDoor
