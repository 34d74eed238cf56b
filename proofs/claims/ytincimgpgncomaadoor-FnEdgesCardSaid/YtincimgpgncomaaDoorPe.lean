/-
  The pen, in plain Lean: its place, its turn, the moves and the edges.
-/
import Derived.Test.YtincimgpgncomaaDoorPm
namespace Go.Proofs.YtincimgpgncomaaDoor

structure Run where
  x : Int
  y : Int
  turn : Nat
  down : Bool
  moves : List (Int × Int)
  edges : List (Int × Int × Int × Int)

/-- The direction that a step is. -/
def dirB (b : UInt8) : Option Nat := if b = 101 then some 0 else if b = 110 then some 1 else if b = 119 then some 2 else if b = 115 then some 3 else none
def wayB (d : Nat) : Int × Int := if d = 0 then (1, 0) else if d = 1 then (0, 1) else if d = 2 then (-1, 0) else (0, -1)
def edgeB (ax ay bx by' : Int) : Int × Int × Int × Int := if bx < ax ∨ bx = ax ∧ by' < ay then (bx, by', ax, ay) else (ax, ay, bx, by')
def wayOf (r : Run) (d : Nat) : Int × Int := wayB ((d + r.turn) % 4)
def goB (r : Run) (d : Nat) : Run :=
  { x := r.x + (wayOf r d).1, y := r.y + (wayOf r d).2, turn := r.turn, down := r.down, moves := r.moves ++ [wayOf r d],
    edges := if r.down = true then r.edges ++ [edgeB r.x r.y (r.x + (wayOf r d).1) (r.y + (wayOf r d).2)] else r.edges }
def stepR (r : Run) (b : UInt8) : Run :=
  if b = 117 then { r with down := false } else if b = 100 then { r with down := true } else if b = 116 then { r with turn := (r.turn + 1) % 4 }
  else match dirB b with
    | some d => goB r d
    | none => r
def run0 : Run := ⟨0, 0, 0, false, [], []⟩
def runB (o : List UInt8) : Run := o.foldl stepR run0

theorem runB_snoc (o : List UInt8) (b : UInt8) : runB (o ++ [b]) = stepR (runB o) b := by simp [runB]

theorem way_cases (d : Nat) : wayB d = (1, 0) ∨ wayB d = (0, 1) ∨ wayB d = (-1, 0) ∨ wayB d = (0, -1) := by
  unfold wayB
  split
  · exact .inl rfl
  · split
    · exact .inr (.inl rfl)
    · split
      · exact .inr (.inr (.inl rfl))
      · exact .inr (.inr (.inr rfl))

theorem step_dir {b : UInt8} (h : isStepB b) : b = 117 ∨ b = 100 ∨ b = 116 ∨ ((b = 101 ∨ b = 110 ∨ b = 119 ∨ b = 115) ∧ b ≠ 117 ∧ b ≠ 100 ∧ b ≠ 116 ∧ ∃ d, d < 4 ∧ dirB b = some d) := by
  rcases h with rfl | rfl | rfl | rfl | rfl | rfl | rfl
  · exact .inl rfl
  · exact .inr (.inl rfl)
  · exact .inr (.inr (.inr ⟨.inr (.inl rfl), by decide, by decide, by decide, 1, by decide, rfl⟩))
  · exact .inr (.inr (.inr ⟨.inl rfl, by decide, by decide, by decide, 0, by decide, rfl⟩))
  · exact .inr (.inr (.inr ⟨.inr (.inr (.inr rfl)), by decide, by decide, by decide, 3, by decide, rfl⟩))
  · exact .inr (.inr (.inr ⟨.inr (.inr (.inl rfl)), by decide, by decide, by decide, 2, by decide, rfl⟩))
  · exact .inr (.inr (.inl rfl))

/-- What is known of a pen that did n steps. -/
def RunOk (n : Nat) (r : Run) : Prop := -(n : Int) ≤ r.x ∧ r.x ≤ n ∧ -(n : Int) ≤ r.y ∧ r.y ≤ n ∧ r.turn < 4 ∧ r.moves.length ≤ n ∧ r.edges.length ≤ n

theorem step_ok {n : Nat} {r : Run} (h : RunOk n r) (b : UInt8) : RunOk (n + 1) (stepR r b) := by
  obtain ⟨h1, h2, h3, h4, h5, h6, h7⟩ := h
  unfold stepR
  split
  · exact ⟨by dsimp only; omega, by dsimp only; omega, by dsimp only; omega, by dsimp only; omega, h5, by dsimp only; omega, by dsimp only; omega⟩
  · split
    · exact ⟨by dsimp only; omega, by dsimp only; omega, by dsimp only; omega, by dsimp only; omega, h5, by dsimp only; omega, by dsimp only; omega⟩
    · split
      · exact ⟨by dsimp only; omega, by dsimp only; omega, by dsimp only; omega, by dsimp only; omega, Nat.mod_lt _ (by decide), by dsimp only; omega, by dsimp only; omega⟩
      · cases dirB b with
        | none => exact ⟨by dsimp only; omega, by dsimp only; omega, by dsimp only; omega, by dsimp only; omega, h5, by dsimp only; omega, by dsimp only; omega⟩
        | some d =>
          have hw : -1 ≤ (wayOf r d).1 ∧ (wayOf r d).1 ≤ 1 ∧ -1 ≤ (wayOf r d).2 ∧ (wayOf r d).2 ≤ 1 := by
            unfold wayOf
            rcases way_cases ((d + r.turn) % 4) with e | e | e | e <;> rw [e] <;> decide
          have hm : (r.moves ++ [wayOf r d]).length ≤ n + 1 := by simp; omega
          have he : (if r.down = true then r.edges ++ [edgeB r.x r.y (r.x + (wayOf r d).1) (r.y + (wayOf r d).2)] else r.edges).length ≤ n + 1 := by
            split
            · simp; omega
            · omega
          exact ⟨show _ ≤ r.x + (wayOf r d).1 by omega, show r.x + (wayOf r d).1 ≤ _ by omega, show _ ≤ r.y + (wayOf r d).2 by omega, show r.y + (wayOf r d).2 ≤ _ by omega, h5, hm, he⟩

theorem runB_ok (o : List UInt8) : RunOk o.length (runB o) := by
  suffices h : ∀ (l : List UInt8) (r : Run) (n : Nat), RunOk n r → RunOk (n + l.length) (l.foldl stepR r) by
    have := h o run0 0 ⟨by simp [run0], by simp [run0], by simp [run0], by simp [run0], by simp [run0], by simp [run0], by simp [run0]⟩
    simpa [runB] using this
  intro l
  induction l with
  | nil => intro r n h; simpa using h
  | cons b l ih =>
    intro r n h
    have := ih (stepR r b) (n + 1) (step_ok h b)
    rw [List.foldl_cons, List.length_cons]
    rw [show n + (l.length + 1) = n + 1 + l.length from by omega]
    exact this

theorem edge_way (x y : Int) (d : Nat) : edgeB x y (x + (wayB d).1) (y + (wayB d).2) = if x + (wayB d).1 < x ∨ y + (wayB d).2 < y then (x + (wayB d).1, y + (wayB d).2, x, y) else (x, y, x + (wayB d).1, y + (wayB d).2) := by
  unfold edgeB
  rcases way_cases d with e | e | e | e <;> rw [e] <;> dsimp only
  · rw [if_neg (by omega), if_neg (by omega)]
  · rw [if_neg (by omega), if_neg (by omega)]
  · rw [if_pos (by omega), if_pos (by omega)]
  · rw [if_pos (by omega), if_pos (by omega)]

end Go.Proofs.YtincimgpgncomaaDoor
