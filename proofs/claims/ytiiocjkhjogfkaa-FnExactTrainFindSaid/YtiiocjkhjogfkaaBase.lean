/-
  Small lemmas on worlds that name no program: what is kept when new blocks are made.
-/
import Derived.WalkKit
import Derived.WalkSpells
import Derived.WalkLawsBesides
namespace Go.Proofs.Ytiiocjkhjogfkaa
open Go.RowKit

/-- A fact behind a name that the walk does not look through. -/
theorem hide {p : Prop} (h : p) : Hid p := h

theorem Kept.refl (w : World) : Below w.heap.size w w := Below.refl _ w

theorem kept_trans {w w1 w2 : World} (h : Below w.heap.size w w1) (h' : Below w1.heap.size w1 w2) : Below w.heap.size w w2 :=
  h.trans (h'.mono h.size)

theorem kept_drewN (w : World) (m : Nat) : Below w.heap.size w (w.drewN m) := below_drewN (Below.refl _ w) m

theorem kept_drew (w : World) : Below w.heap.size w w.drew := (Below.refl _ w).drew

theorem kept_alloc {w w' : World} (h : Below w.heap.size w w') (o : Obj) : Below w.heap.size w (w'.alloc o) := h.alloc h.size o

theorem kept_grown {w w1 w2 : World} {row : Option Nat} (h : Below w.heap.size w w1) (hg : w1.grownBy w2 row) (hr : ∀ k, row = some k → w.heap.size ≤ k) : Below w.heap.size w w2 :=
  h.grown hg h.size hr

theorem grown_of_kept {w w' : World} (h : Below w.heap.size w w') (row : Option Nat) : w.grownBy w' row :=
  ⟨h.os, h.tape, h.output, h.size, fun k hk _ => h.block k hk⟩

theorem owns_kept {w w' : World} {base : Nat} {e : TypeId} {size : Nat} {v : Value} {n : Nat} {xs : List Value} (h : w.ownsRow base e size v n xs) (hk : Below w.heap.size w w') : w'.ownsRow base e size v n xs :=
  h.kept (grown_of_kept hk none) (by cases v.ownBlock <;> simp)

theorem owns_base {w : World} {base base' : Nat} {e : TypeId} {size : Nat} {v : Value} {n : Nat} {xs : List Value} (h : w.ownsRow base e size v n xs) (hb : base' ≤ base) : w.ownsRow base' e size v n xs := by
  refine ⟨h.1, ?_⟩
  rcases h.2 with h2 | ⟨g, cap, cur, hv, hg, r⟩
  · exact .inl h2
  · exact .inr ⟨g, cap, cur, hv, by omega, r⟩

/-- A slice value whose block is its own, or the nil slice. -/
theorem owns_cases {w : World} {base : Nat} {e : TypeId} {size : Nat} {v : Value} {n : Nat} {xs : List Value} (h : w.ownsRow base e size v n xs) :
    (v = .slice none 0 0 ∧ n = 0) ∨ ∃ g cap, v = .slice (some ⟨g, 0, none⟩) n cap ∧ base ≤ g ∧ g < w.heap.size ∧ n ≤ 9223372036854775807 ∧ (∀ j, j < n * size → w.cell? ⟨g, j, none⟩ = xs[j]?) ∧ (∀ j, w.frozen? ⟨g, j, none⟩ = false) := by
  rcases h.2 with ⟨rfl, rfl⟩ | ⟨g, cap, cur, rfl, hb, hg, hn, hcap, hsz, htk⟩
  · exact .inl ⟨rfl, rfl⟩
  · refine .inr ⟨g, cap, rfl, hb, lt_of_block hg, by unfold maxLen at hcap; omega, fun j hj => h.cellAt j hj, fun j => h.frozenAt j⟩

/-- Of two owned slices the second was made later: their blocks part. -/
theorem owns_apart {w1 w2 : World} {b1 : Nat} {e1 e2 : TypeId} {s1 s2 : Nat} {v1 v2 : Value} {n1 n2 : Nat} {xs1 xs2 : List Value} (h1 : w1.ownsRow b1 e1 s1 v1 n1 xs1) (h2 : w2.ownsRow w1.heap.size e2 s2 v2 n2 xs2) :
    v1.ownBlock = none ∨ v1.ownBlock ≠ v2.ownBlock := by
  cases h : v1.ownBlock with
  | none => exact .inl rfl
  | some k =>
    refine .inr fun e => ?_
    have a := (h1.lt k h).2
    have b := (h2.lt k e.symm).1
    omega

end Go.Proofs.Ytiiocjkhjogfkaa
