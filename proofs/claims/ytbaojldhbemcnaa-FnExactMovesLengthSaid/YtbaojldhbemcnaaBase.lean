/-
  Small lemmas on worlds and slices that name no program: what is kept when new blocks are made; slices that read as lists.
-/
import Derived.WalkKit
import Derived.WalkSpells
import Derived.WalkLawsBesides
namespace Go.Proofs.Ytbaojldhbemcnaa
open Go.RowKit

/-- A fact behind a name that the walk does not look through. -/
theorem hide {p : Prop} (h : p) : Hid p := h

theorem kept_trans {w w1 w2 : World} (h : Below w.heap.size w w1) (h' : Below w1.heap.size w1 w2) : Below w.heap.size w w2 :=
  h.trans (h'.mono h.size)

theorem kept_drewN (w : World) (m : Nat) : Below w.heap.size w (w.drewN m) := below_drewN (Below.refl _ w) m

theorem kept_drew (w : World) : Below w.heap.size w w.drew := (Below.refl _ w).drew

theorem kept_alloc {w w' : World} (h : Below w.heap.size w w') (o : Obj) : Below w.heap.size w (w'.alloc o) := h.alloc h.size o

theorem kept_new (w : World) (o : Obj) : Below w.heap.size w (w.alloc o) := kept_alloc (Below.refl _ w) o

theorem kept_grown {w w1 w2 : World} {row : Option Nat} (h : Below w.heap.size w w1) (hg : w1.grownBy w2 row) (hr : ∀ k, row = some k → w.heap.size ≤ k) : Below w.heap.size w w2 :=
  h.grown hg h.size hr

theorem kept_of_grown {w w' : World} (hg : w.grownBy w' none) : Below w.heap.size w w' := kept_grown (Below.refl _ w) hg (by simp)

theorem grown_of_kept {w w' : World} (h : Below w.heap.size w w') (row : Option Nat) : w.grownBy w' row :=
  ⟨h.os, h.tape, h.output, h.size, fun k hk _ => h.block k hk⟩

theorem grown_trans' {w w1 w2 : World} {row : Option Nat} (h : w.grownBy w1 row) (h' : w1.grownBy w2 row) : w.grownBy w2 row :=
  ⟨h'.os.trans h.os, h'.tape.trans h.tape, h'.output.trans h.output, Nat.le_trans h.size h'.size, fun k hk hne => (h'.block k (Nat.lt_of_lt_of_le hk h.size) hne).trans (h.block k hk hne)⟩

theorem owns_kept {w w' : World} {base : Nat} {e : TypeId} {size : Nat} {v : Value} {n : Nat} {xs : List Value} (h : w.ownsRow base e size v n xs) (hk : Below w.heap.size w w') : w'.ownsRow base e size v n xs :=
  h.kept (grown_of_kept hk none) (by cases v.ownBlock <;> simp)

theorem owns_base {w : World} {base base' : Nat} {e : TypeId} {size : Nat} {v : Value} {n : Nat} {xs : List Value} (h : w.ownsRow base e size v n xs) (hb : base' ≤ base) : w.ownsRow base' e size v n xs := by
  refine ⟨h.1, ?_⟩
  rcases h.2 with h2 | ⟨g, cap, cur, hv, hg, r⟩
  · exact .inl h2
  · exact .inr ⟨g, cap, cur, hv, by omega, r⟩

/-- A slice value whose block is its own, or the nil slice. -/
theorem owns_cases {w : World} {base : Nat} {e : TypeId} {size : Nat} {v : Value} {n : Nat} {xs : List Value} (h : w.ownsRow base e size v n xs) :
    (v = .slice none 0 0 ∧ n = 0) ∨ ∃ g cap, v = .slice (some ⟨g, 0, none⟩) n cap ∧ base ≤ g ∧ g < w.heap.size ∧ n ≤ 9223372036854775807 ∧ (∀ j, j < n * size → w.cell? ⟨g, j, none⟩ = xs[j]?) ∧ (∀ j, w.frozen? ⟨g, j, none⟩ = false) := by
  rcases h.2 with ⟨rfl, rfl⟩ | ⟨g, cap, cur, rfl, hb, hg, hn, hcap, hsz, htk⟩
  · exact .inl ⟨rfl, rfl⟩
  · refine .inr ⟨g, cap, rfl, hb, lt_of_block hg, by unfold maxLen at hcap; omega, fun j hj => h.cellAt j hj, fun j => h.frozenAt j⟩

/-- Of two owned slices the second was made later: their blocks part. -/
theorem owns_apart {w1 w2 : World} {b1 : Nat} {e1 e2 : TypeId} {s1 s2 : Nat} {v1 v2 : Value} {n1 n2 : Nat} {xs1 xs2 : List Value} (h1 : w1.ownsRow b1 e1 s1 v1 n1 xs1) (h2 : w2.ownsRow w1.heap.size e2 s2 v2 n2 xs2) :
    v1.ownBlock = none ∨ v1.ownBlock ≠ v2.ownBlock := by
  cases h : v1.ownBlock with
  | none => exact .inl rfl
  | some k =>
    refine .inr fun e => ?_
    have a := (h1.lt k h).2
    have b := (h2.lt k e.symm).1
    omega

/-- The slice value v, of n elements of so many cells, reads as the cells xs, whether it is nil, empty or neither. -/
def Reads (w : World) (size : Nat) (v : Value) (n : Nat) (xs : List Value) : Prop :=
  xs.length = n * size ∧ n ≤ 9223372036854775807 ∧ ∃ A c, v = .slice A n c ∧ (0 < n → 0 < size → ∃ b o, A = some ⟨b, o, none⟩ ∧ b < w.heap.size ∧ ∀ j, j < n * size → w.cell? ⟨b, o + j, none⟩ = xs[j]?)

theorem owns_reads {w : World} {base : Nat} {e : TypeId} {size : Nat} {v : Value} {n : Nat} {xs : List Value} (h : w.ownsRow base e size v n xs) : Reads w size v n xs := by
  rcases owns_cases h with ⟨rfl, rfl⟩ | ⟨g, cap, rfl, hB, hg, hm, hcell, _⟩
  · exact ⟨h.1, by omega, none, 0, rfl, fun h => absurd h (by omega)⟩
  · exact ⟨h.1, hm, _, cap, rfl, fun _ _ => ⟨g, 0, rfl, hg, fun j hj => by rw [Nat.zero_add]; exact hcell j hj⟩⟩

theorem reads_kept {w w' : World} {size : Nat} {v : Value} {n : Nat} {xs : List Value} (h : Reads w size v n xs) (hk : Below w.heap.size w w') : Reads w' size v n xs := by
  obtain ⟨h1, h2, A, c, rfl, h3⟩ := h
  refine ⟨h1, h2, A, c, rfl, fun hn hs => ?_⟩
  obtain ⟨b, o, rfl, hb, hc⟩ := h3 hn hs
  exact ⟨b, o, rfl, Nat.lt_of_lt_of_le hb hk.size, fun j hj => (hk.cell (p := ⟨b, o + j, none⟩) hb).trans (hc j hj)⟩

theorem reads_below {w w' : World} {size : Nat} {v : Value} {n : Nat} {xs : List Value} {B : Nat} (h : Reads w size v n xs) (hB : w.heap.size ≤ B) (hk : Below B w w') : Reads w' size v n xs := reads_kept h (hk.mono hB)

theorem reads_grown {w w' : World} {size : Nat} {v : Value} {n : Nat} {xs : List Value} {row : Option Nat} (h : Reads w size v n xs) (hg : w.grownBy w' row) (hr : v.ownBlock = none ∨ v.ownBlock ≠ row) : Reads w' size v n xs := by
  obtain ⟨h1, h2, A, c, rfl, h3⟩ := h
  refine ⟨h1, h2, A, c, rfl, fun hn hs => ?_⟩
  obtain ⟨b, o, rfl, hb, hc⟩ := h3 hn hs
  refine ⟨b, o, rfl, Nat.lt_of_lt_of_le hb hg.size, fun j hj => (World.cell?_of_block (hg.block b hb ?_)).trans (hc j hj)⟩
  simpa [Value.ownBlock] using hr

theorem kept_set {w w' : World} (h : Below w.heap.size w w') {p : Addr} (hp : w.heap.size ≤ p.block) (u : Value) : Below w.heap.size w (w'.setCell p u) := h.setCell hp u

/-- The cells that marking leaves. -/
def marks (k : Int) (n : Nat) : List Value := (List.range n).map fun i => .int .i64 (k + (i : Nat))

theorem length_marks (k : Int) (n : Nat) : (marks k n).length = n := by simp [marks]

theorem marks_get (k : Int) (n i : Nat) (h : i < n) : (marks k n)[i]? = some (.int .i64 (k + i)) := by simp [marks, h]

theorem marks_set (k : Int) (t : Nat) (xs : List Value) (h : t < xs.length) : (marks k t ++ xs.drop t).set t (.int .i64 (k + t)) = marks k (t + 1) ++ xs.drop (t + 1) := by
  rw [List.set_append_right _ _ (by simp [length_marks]), length_marks, Nat.sub_self]
  have : xs.drop t = xs[t] :: xs.drop (t + 1) := List.drop_eq_getElem_cons h
  rw [this, List.set_cons_zero]
  simp [marks, List.range_succ]

end Go.Proofs.Ytbaojldhbemcnaa
