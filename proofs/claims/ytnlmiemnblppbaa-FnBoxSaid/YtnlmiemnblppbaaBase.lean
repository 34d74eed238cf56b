/-
  Small lemmas on worlds and slices that name no program: what is kept when new blocks are made; slices that read as lists.
-/
import Derived.WalkKit
import Derived.WalkSpells
import Derived.WalkLawsBesides
import Derived.Deep.AppendLies
namespace Go.Proofs.Ytnlmiemnblppbaa
open Go.RowKit

/-- A fact behind a name that the walk does not look through. -/
theorem hide {p : Prop} (h : p) : Hid p := h

theorem kept_trans {w w1 w2 : World} (h : Below w.heap.size w w1) (h' : Below w1.heap.size w1 w2) : Below w.heap.size w w2 :=
  h.trans (h'.mono h.size)

theorem kept_drewN (w : World) (m : Nat) : Below w.heap.size w (w.drewN m) := below_drewN (Below.refl _ w) m

theorem kept_drew (w : World) : Below w.heap.size w w.drew := (Below.refl _ w).drew

theorem kept_alloc {w w' : World} (h : Below w.heap.size w w') (o : Obj) : Below w.heap.size w (w'.alloc o) := h.alloc h.size o

theorem kept_new (w : World) (o : Obj) : Below w.heap.size w (w.alloc o) := kept_alloc (Below.refl _ w) o

theorem kept_grown {w w1 w2 : World} {row : Option Nat} (h : Below w.heap.size w w1) (hg : w1.grownBy w2 row) (hr : ∀ k, row = some k → w.heap.size ≤ k) : Below w.heap.size w w2 :=
  h.grown hg h.size hr

theorem kept_of_grown {w w' : World} (hg : w.grownBy w' none) : Below w.heap.size w w' := kept_grown (Below.refl _ w) hg (by simp)

theorem grown_of_kept {w w' : World} (h : Below w.heap.size w w') (row : Option Nat) : w.grownBy w' row :=
  ⟨h.os, h.tape, h.output, h.size, fun k hk _ => h.block k hk⟩

theorem grown_trans' {w w1 w2 : World} {row : Option Nat} (h : w.grownBy w1 row) (h' : w1.grownBy w2 row) : w.grownBy w2 row :=
  ⟨h'.os.trans h.os, h'.tape.trans h.tape, h'.output.trans h.output, Nat.le_trans h.size h'.size, fun k hk hne => (h'.block k (Nat.lt_of_lt_of_le hk h.size) hne).trans (h.block k hk hne)⟩

theorem owns_kept {w w' : World} {base : Nat} {e : TypeId} {size : Nat} {v : Value} {n : Nat} {xs : List Value} (h : w.ownsRow base e size v n xs) (hk : Below w.heap.size w w') : w'.ownsRow base e size v n xs :=
  h.kept (grown_of_kept hk none) (by cases v.ownBlock <;> simp)

theorem owns_base {w : World} {base base' : Nat} {e : TypeId} {size : Nat} {v : Value} {n : Nat} {xs : List Value} (h : w.ownsRow base e size v n xs) (hb : base' ≤ base) : w.ownsRow base' e size v n xs := by
  refine ⟨h.1, ?_⟩
  rcases h.2 with h2 | ⟨g, cap, cur, hv, hg, r⟩
  · exact .inl h2
  · exact .inr ⟨g, cap, cur, hv, by omega, r⟩

/-- A slice value whose block is its own, or the nil slice. -/
theorem owns_cases {w : World} {base : Nat} {e : TypeId} {size : Nat} {v : Value} {n : Nat} {xs : List Value} (h : w.ownsRow base e size v n xs) :
    (v = .slice none 0 0 ∧ n = 0) ∨ ∃ g cap, v = .slice (some ⟨g, 0, none⟩) n cap ∧ base ≤ g ∧ g < w.heap.size ∧ n ≤ 9223372036854775807 ∧ (∀ j, j < n * size → w.cell? ⟨g, j, none⟩ = xs[j]?) ∧ (∀ j, w.frozen? ⟨g, j, none⟩ = false) := by
  rcases h.2 with ⟨rfl, rfl⟩ | ⟨g, cap, cur, rfl, hb, hg, hn, hcap, hsz, htk⟩
  · exact .inl ⟨rfl, rfl⟩
  · refine .inr ⟨g, cap, rfl, hb, lt_of_block hg, by unfold maxLen at hcap; omega, fun j hj => h.cellAt j hj, fun j => h.frozenAt j⟩

/-- Of two owned slices the second was made later: their blocks part. -/
theorem owns_apart {w1 w2 : World} {b1 : Nat} {e1 e2 : TypeId} {s1 s2 : Nat} {v1 v2 : Value} {n1 n2 : Nat} {xs1 xs2 : List Value} (h1 : w1.ownsRow b1 e1 s1 v1 n1 xs1) (h2 : w2.ownsRow w1.heap.size e2 s2 v2 n2 xs2) :
    v1.ownBlock = none ∨ v1.ownBlock ≠ v2.ownBlock := by
  cases h : v1.ownBlock with
  | none => exact .inl rfl
  | some k =>
    refine .inr fun e => ?_
    have a := (h1.lt k h).2
    have b := (h2.lt k e.symm).1
    omega

/-- The slice value v, of n elements of so many cells, reads as the cells xs, whether it is nil, empty or neither. -/
def Reads (w : World) (size : Nat) (v : Value) (n : Nat) (xs : List Value) : Prop :=
  xs.length = n * size ∧ n ≤ 9223372036854775807 ∧ ∃ A c, v = .slice A n c ∧ (0 < n → 0 < size → ∃ b o, A = some ⟨b, o, none⟩ ∧ b < w.heap.size ∧ ∀ j, j < n * size → w.cell? ⟨b, o + j, none⟩ = xs[j]?)

theorem owns_reads {w : World} {base : Nat} {e : TypeId} {size : Nat} {v : Value} {n : Nat} {xs : List Value} (h : w.ownsRow base e size v n xs) : Reads w size v n xs := by
  rcases owns_cases h with ⟨rfl, rfl⟩ | ⟨g, cap, rfl, hB, hg, hm, hcell, _⟩
  · exact ⟨h.1, by omega, none, 0, rfl, fun h => absurd h (by omega)⟩
  · exact ⟨h.1, hm, _, cap, rfl, fun _ _ => ⟨g, 0, rfl, hg, fun j hj => by rw [Nat.zero_add]; exact hcell j hj⟩⟩

theorem reads_kept {w w' : World} {size : Nat} {v : Value} {n : Nat} {xs : List Value} (h : Reads w size v n xs) (hk : Below w.heap.size w w') : Reads w' size v n xs := by
  obtain ⟨h1, h2, A, c, rfl, h3⟩ := h
  refine ⟨h1, h2, A, c, rfl, fun hn hs => ?_⟩
  obtain ⟨b, o, rfl, hb, hc⟩ := h3 hn hs
  exact ⟨b, o, rfl, Nat.lt_of_lt_of_le hb hk.size, fun j hj => (hk.cell (p := ⟨b, o + j, none⟩) hb).trans (hc j hj)⟩

theorem reads_below {w w' : World} {size : Nat} {v : Value} {n : Nat} {xs : List Value} {B : Nat} (h : Reads w size v n xs) (hB : w.heap.size ≤ B) (hk : Below B w w') : Reads w' size v n xs := reads_kept h (hk.mono hB)

theorem reads_grown {w w' : World} {size : Nat} {v : Value} {n : Nat} {xs : List Value} {row : Option Nat} (h : Reads w size v n xs) (hg : w.grownBy w' row) (hr : 0 < n → v.ownBlock = none ∨ v.ownBlock ≠ row) : Reads w' size v n xs := by
  obtain ⟨h1, h2, A, c, rfl, h3⟩ := h
  refine ⟨h1, h2, A, c, rfl, fun hn hs => ?_⟩
  obtain ⟨b, o, rfl, hb, hc⟩ := h3 hn hs
  refine ⟨b, o, rfl, Nat.lt_of_lt_of_le hb hg.size, fun j hj => (World.cell?_of_block (hg.block b hb ?_)).trans (hc j hj)⟩
  simpa [Value.ownBlock] using hr hn

theorem kept_set {w w' : World} (h : Below w.heap.size w w') {p : Addr} (hp : w.heap.size ≤ p.block) (u : Value) : Below w.heap.size w (w'.setCell p u) := h.setCell hp u

/-- What lay in the old world reads as it did: as rules for a walk. -/
theorem kept_cells {W w1 : World} (hb : Below W.heap.size W w1) : (∀ b o, b < W.heap.size → w1.cell? ⟨b, o, none⟩ = W.cell? ⟨b, o, none⟩) ∧ (∀ b o, b < W.heap.size → w1.frozen? ⟨b, o, none⟩ = W.frozen? ⟨b, o, none⟩) :=
  ⟨fun b o h => hb.cell (p := ⟨b, o, none⟩) h, fun b o h => hb.frozen (p := ⟨b, o, none⟩) h⟩

theorem kept_cell {W w1 : World} (hb : Below W.heap.size W w1) {a : Addr} {v : Value} (h : W.cell? a = some v) : w1.cell? a = some v := (hb.cell (World.block_lt_of_cell? W a h)).trans h

/-- The cells that marking leaves. -/
def marks (k : Int) (n : Nat) : List Value := (List.range n).map fun i => .int .i64 (k + (i : Nat))

theorem length_marks (k : Int) (n : Nat) : (marks k n).length = n := by simp [marks]

theorem marks_get (k : Int) (n i : Nat) (h : i < n) : (marks k n)[i]? = some (.int .i64 (k + i)) := by simp [marks, h]

theorem marks_set (k : Int) (t : Nat) (xs : List Value) (h : t < xs.length) : (marks k t ++ xs.drop t).set t (.int .i64 (k + t)) = marks k (t + 1) ++ xs.drop (t + 1) := by
  rw [List.set_append_right _ _ (by simp [length_marks]), length_marks, Nat.sub_self]
  have : xs.drop t = xs[t] :: xs.drop (t + 1) := List.drop_eq_getElem_cons h
  rw [this, List.set_cons_zero]
  simp [marks, List.range_succ]

/-- The slice value v, of n elements, begins at the head of a block from base on that nobody has frozen; its cells are xs (nil: n is 0). -/
def Has (w : World) (base size : Nat) (v : Value) (n : Nat) (xs : List Value) : Prop :=
  xs.length = n * size ∧ n ≤ 9223372036854775807 ∧ ((v = .slice none 0 0 ∧ n = 0) ∨
    ∃ g cap cur e, v = .slice (some ⟨g, 0, none⟩) n cap ∧ base ≤ g ∧ w.heap[g]? = some (.cells cur e (0, 0)) ∧ n * size ≤ cur.size ∧ cur.toList.take (n * size) = xs)

theorem has_owns {w : World} {base : Nat} {e : TypeId} {size : Nat} {v : Value} {n : Nat} {xs : List Value} (h : w.ownsRow base e size v n xs) : Has w base size v n xs := by
  refine ⟨h.1, ?_⟩
  rcases h.2 with ⟨rfl, rfl⟩ | ⟨g, cap, cur, rfl, hb, hg, hn, hcap, hsz, htk⟩
  · exact ⟨by omega, .inl ⟨rfl, rfl⟩⟩
  · exact ⟨by unfold maxLen at hcap; omega, .inr ⟨g, cap, cur, e, rfl, hb, hg, by rw [hsz]; exact Nat.mul_le_mul_right _ hn, htk⟩⟩

theorem has_lt {w : World} {base size : Nat} {v : Value} {n : Nat} {xs : List Value} (h : Has w base size v n xs) : ∀ k, v.ownBlock = some k → base ≤ k ∧ k < w.heap.size := by
  intro k hk
  rcases h.2.2 with ⟨rfl, _⟩ | ⟨g, cap, cur, e, rfl, hb, hg, _⟩
  · simp [Value.ownBlock] at hk
  · simp [Value.ownBlock] at hk
    subst hk
    exact ⟨hb, lt_of_block hg⟩

theorem has_grown {w w' : World} {base size : Nat} {v : Value} {n : Nat} {xs : List Value} {row : Option Nat} (h : Has w base size v n xs) (hg : w.grownBy w' row) (hr : v.ownBlock = none ∨ v.ownBlock ≠ row) : Has w' base size v n xs := by
  refine ⟨h.1, h.2.1, ?_⟩
  rcases h.2.2 with hn | ⟨g, cap, cur, e, rfl, hb, hh, rest⟩
  · exact .inl hn
  · exact .inr ⟨g, cap, cur, e, rfl, hb, (hg.block g (lt_of_block hh) (by simpa [Value.ownBlock] using hr)).trans hh, rest⟩

theorem has_kept {w w' : World} {base size : Nat} {v : Value} {n : Nat} {xs : List Value} (h : Has w base size v n xs) (hk : Below w.heap.size w w') : Has w' base size v n xs :=
  has_grown h (grown_of_kept hk none) (by cases v.ownBlock <;> simp)

theorem has_base {w : World} {base base' size : Nat} {v : Value} {n : Nat} {xs : List Value} (h : Has w base size v n xs) (hb : base' ≤ base) : Has w base' size v n xs := by
  refine ⟨h.1, h.2.1, ?_⟩
  rcases h.2.2 with h2 | ⟨g, cap, cur, e, hv, hg, r⟩
  · exact .inl h2
  · exact .inr ⟨g, cap, cur, e, hv, by omega, r⟩

theorem has_cases {w : World} {base size : Nat} {v : Value} {n : Nat} {xs : List Value} (h : Has w base size v n xs) :
    (v = .slice none 0 0 ∧ n = 0) ∨ ∃ g cap, v = .slice (some ⟨g, 0, none⟩) n cap ∧ base ≤ g ∧ g < w.heap.size ∧ n ≤ 9223372036854775807 ∧ (∀ j, j < n * size → w.cell? ⟨g, j, none⟩ = xs[j]?) ∧ (∀ j, w.frozen? ⟨g, j, none⟩ = false) := by
  rcases h.2.2 with ⟨rfl, rfl⟩ | ⟨g, cap, cur, e, rfl, hb, hg, hsz, htk⟩
  · exact .inl ⟨rfl, rfl⟩
  · refine .inr ⟨g, cap, rfl, hb, lt_of_block hg, h.2.1, fun j hj => ?_, fun j => frozen_of_row w g j cur e hg⟩
    rw [cell_of_row w g j cur e (0, 0) hg, ← htk, List.getElem?_take, if_pos hj]
    simp

theorem has_reads {w : World} {base size : Nat} {v : Value} {n : Nat} {xs : List Value} (h : Has w base size v n xs) : Reads w size v n xs := by
  rcases has_cases h with ⟨rfl, rfl⟩ | ⟨g, cap, rfl, hB, hg, hm, hcell, _⟩
  · exact ⟨h.1, by omega, none, 0, rfl, fun h => absurd h (by omega)⟩
  · exact ⟨h.1, hm, _, cap, rfl, fun _ _ => ⟨g, 0, rfl, hg, fun j hj => by rw [Nat.zero_add]; exact hcell j hj⟩⟩

theorem has_stored {w : World} {base size g n cap : Nat} {xs : List Value} (h : Has w base size (.slice (some ⟨g, 0, none⟩) n cap) n xs) (j : Nat) (u : Value) :
    Has (w.setCell ⟨g, j, none⟩ u) base size (.slice (some ⟨g, 0, none⟩) n cap) n (xs.set j u) ∧ w.grownBy (w.setCell ⟨g, j, none⟩ u) (some g) := by
  refine ⟨⟨by simpa using h.1, h.2.1, ?_⟩, ⟨rfl, rfl, rfl, by simp [World.setCell], fun k _ hk => Below.heap_setCell _ _ _ _ (fun e => hk (by rw [e]))⟩⟩
  rcases h.2.2 with ⟨h', _⟩ | ⟨g', cap', cur, e, h', hb, hg, hsz, htk⟩
  · simp at h'
  · simp only [Value.slice.injEq, Option.some.injEq, Addr.mk.injEq, and_true, true_and] at h'
    obtain ⟨rfl, rfl⟩ := h'
    exact .inr ⟨g, cap, cur.setIfInBounds j u, e, rfl, hb, heap_setCell_same w g j cur e u hg, by simpa using hsz, by rw [Array.toList_setIfInBounds, ← htk, List.take_set]⟩

theorem has_clip {w : World} {base size g n cap : Nat} {xs : List Value} (h : Has w base size (.slice (some ⟨g, 0, none⟩) n cap) n xs) (cap' : Nat) : Has w base size (.slice (some ⟨g, 0, none⟩) n cap') n xs := by
  refine ⟨h.1, h.2.1, ?_⟩
  rcases h.2.2 with ⟨h', _⟩ | ⟨g', cap'', cur, e, h', rest⟩
  · simp at h'
  · simp only [Value.slice.injEq, Option.some.injEq, Addr.mk.injEq, and_true, true_and] at h'
    obtain ⟨rfl, rfl⟩ := h'
    exact .inr ⟨g, cap', cur, e, rfl, rest⟩

/-- Of two slices the second was made later: their blocks part. -/
theorem has_apart {w1 w2 : World} {b1 : Nat} {s1 s2 : Nat} {v1 v2 : Value} {n1 n2 : Nat} {xs1 xs2 : List Value} (h1 : Has w1 b1 s1 v1 n1 xs1) (h2 : Has w2 w1.heap.size s2 v2 n2 xs2) :
    v1.ownBlock = none ∨ v1.ownBlock ≠ v2.ownBlock := by
  cases h : v1.ownBlock with
  | none => exact .inl rfl
  | some k =>
    refine .inr fun e => ?_
    have a := (has_lt h1 k h).2
    have b := (has_lt h2 k e.symm).1
    omega

/-- 'out = append(out, x)', x just laid in a new block: one element more; what lay below the base is as it was. -/
theorem wpList_append_one {P : Program} (w1 : World) {w : World} {ops : Array Oper} {rest : List Oper} {o : Oper} {a : Act} {Q : Exit → Act → World → Prop} (hgd : o.guard = none) (s x : Operand) (t : TypeId)
    (ho : o.op = .call { callee := .builtin .append, args := #[s, x], argTypes := #[t, t] })
    (base : Nat) (e : TypeId) (i : TypeInfo) (z : Value) (size bytes : Nat) (ht : P.underlying t = some (.slice e)) (hi : P.info? e = some i) (hz : i.zero = some z)
    (hsize : i.size = size) (hby : i.bytes = bytes) (hzs : z.cells.size = size) (hsz : 0 < size)
    (v : Value) (n : Nat) (xs : List Value) (hs : a.eval s = v) (hown : w1.ownsRow base e size v n xs)
    (cs : List Value) (e' : TypeId) (G : Nat) (hx : a.eval x = .slice (some ⟨G, 0, none⟩) 1 1) (hl : cs.length = size) (h1 : ∀ u ∈ cs, u.oneCell' = true)
    (h63 : n < 1073741824) (hby2 : bytes ≤ 1024) (hbase : base ≤ w1.heap.size) (hw : w = w1.alloc (.cells cs.toArray e')) (hG : w1.heap.size = G)
    (h : ∀ g cap w', w'.ownsRow base e size (.slice (some ⟨g, 0, none⟩) (n + 1) cap) (n + 1) (xs ++ cs) → w1.grownBy w' v.ownBlock → (∀ k, v.ownBlock = some k → base ≤ k) → wpList P ops Q rest (a.put o.dst (.slice (some ⟨g, 0, none⟩) (n + 1) cap)) w') :
    wpList P ops Q (o :: rest) a w := by
  subst hw
  subst hG
  have hmul : (n + 1) * bytes ≤ 1073741824 * 1024 := Nat.mul_le_mul (by omega) hby2
  refine wpList_append_lies _ hgd s x t ho base e i z size bytes ht hi hz hsize hby hzs hsz v n xs hs (hown.alloc _) ⟨w1.heap.size, 0, none⟩ 1 1 cs hx (by omega) (fun j u hu => ?_) h1 (by omega) (by unfold maxLen; omega) (by omega) (by simp; omega) _ rfl ?_
  · exact World.news_of_block (cs := cs.toArray) (heap_alloc_new w1 _) j u (by simpa using hu)
  · intro g cap w' h2 h3 _ _
    exact h g cap w' h2 (grown_trans' (World.grownBy_alloc w1 _ _) h3) (fun k hk => (hown.lt k hk).1)

end Go.Proofs.Ytnlmiemnblppbaa
