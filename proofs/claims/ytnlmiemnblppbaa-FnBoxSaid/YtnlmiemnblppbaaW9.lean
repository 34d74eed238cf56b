/-
  A wheel: a speed and a Cyc, nine cells; lists of wheels as they lie in memory.
-/
import Derived.Test.YtnlmiemnblppbaaW2
namespace Go.Proofs.Ytnlmiemnblppbaa
open Go.RowKit

structure W9 where
  s : Int
  c : C8

def W9.get (x : W9) : Nat → Int
  | 0 => x.s
  | j + 1 => x.c.get j
def W9.cells (x : W9) : List Value := [.int .i64 x.s, .int .i64 x.c.a0, .int .i64 x.c.a1, .int .i64 x.c.a2, .int .i64 x.c.a3, .int .i64 x.c.a4, .int .i64 x.c.a5, .int .i64 x.c.a6, .int .i64 x.c.a7]
def W9.val (x : W9) : Value := .agg #[.int .i64 x.s, .int .i64 x.c.a0, .int .i64 x.c.a1, .int .i64 x.c.a2, .int .i64 x.c.a3, .int .i64 x.c.a4, .int .i64 x.c.a5, .int .i64 x.c.a6, .int .i64 x.c.a7]
def W9.arr (x : W9) : Array Value := #[.int .i64 x.s, .int .i64 x.c.a0, .int .i64 x.c.a1, .int .i64 x.c.a2, .int .i64 x.c.a3, .int .i64 x.c.a4, .int .i64 x.c.a5, .int .i64 x.c.a6, .int .i64 x.c.a7]
def zero9 : W9 := ⟨0, zero8⟩

theorem val9_spell (x : W9) : x.val = .agg #[.int .i64 x.s, .int .i64 x.c.a0, .int .i64 x.c.a1, .int .i64 x.c.a2, .int .i64 x.c.a3, .int .i64 x.c.a4, .int .i64 x.c.a5, .int .i64 x.c.a6, .int .i64 x.c.a7] := rfl

theorem nine {t : Nat} (h : t < 9) : t = 0 ∨ t = 1 ∨ t = 2 ∨ t = 3 ∨ t = 4 ∨ t = 5 ∨ t = 6 ∨ t = 7 ∨ t = 8 := by omega

theorem W9.get_cells (x : W9) (j : Nat) (h : j < 9) : x.cells[j]? = some (.int .i64 (x.get j)) := by
  rcases nine h with rfl | rfl | rfl | rfl | rfl | rfl | rfl | rfl | rfl <;> rfl

theorem W9.get_arr (x : W9) (j : Nat) (h : j < 9) : x.arr[j]? = some (.int .i64 (x.get j)) := by
  rcases nine h with rfl | rfl | rfl | rfl | rfl | rfl | rfl | rfl | rfl <;> rfl

def wlCells (ws : List W9) : List Value := ws.flatMap W9.cells

theorem wlCells_len (ws : List W9) : (wlCells ws).length = ws.length * 9 := by
  induction ws with
  | nil => rfl
  | cons m ms ih => simp [wlCells, W9.cells] at ih ⊢; omega

theorem wlCells_at (ws : List W9) (t j : Nat) (h : t < ws.length) (hj : j < 9) : (wlCells ws)[t * 9 + j]? = some (.int .i64 ((ws[t]).get j)) := by
  induction ws generalizing t with
  | nil => simp at h
  | cons m ms ih =>
    cases t with
    | zero =>
      simp only [wlCells, List.flatMap_cons, Nat.zero_mul, Nat.zero_add, List.getElem_cons_zero]
      rw [List.getElem?_append_left (by simp [W9.cells]; omega)]
      exact W9.get_cells m j hj
    | succ t =>
      have := ih t (by simpa using h)
      simp only [wlCells, List.flatMap_cons, List.getElem_cons_succ]
      rw [List.getElem?_append_right (by simp [W9.cells]; omega), show (t + 1) * 9 + j - m.cells.length = t * 9 + j from by simp [W9.cells]; omega]
      exact this

theorem wlCells_succ (ws : List W9) (t : Nat) (h : t < ws.length) : wlCells (ws.take (t + 1)) = wlCells (ws.take t) ++ (ws[t]).cells := by
  rw [List.take_succ_eq_append_getElem h]
  simp only [wlCells, List.flatMap_append, List.flatMap_cons, List.flatMap_nil, List.append_nil]

theorem wlCells_app (a b : List W9) : wlCells (a ++ b) = wlCells a ++ wlCells b := by simp [wlCells]
theorem wlCells_one1 (x : W9) : wlCells [x] = x.cells := by simp [wlCells]

theorem cells9_one (x : W9) : ∀ v ∈ x.cells, v.oneCell' = true := by
  intro v hv
  simp only [W9.cells, List.mem_cons, List.not_mem_nil, or_false] at hv
  rcases hv with rfl | rfl | rfl | rfl | rfl | rfl | rfl | rfl | rfl <;> rfl

/-- The nine cells of element t of a list of wheels, as a load wants them. -/
theorem wl_cells {w : World} {b o : Nat} {ws : List W9} (hc : ∀ j, j < ws.length * 9 → w.cell? ⟨b, o + j, none⟩ = (wlCells ws)[j]?) (t : Nat) (ht : t < ws.length) :
    (w.cell? ⟨b, o + t * 9, none⟩ = some (.int .i64 (ws[t]).s) ∧ w.cell? ⟨b, o + t * 9 + 1, none⟩ = some (.int .i64 (ws[t]).c.a0) ∧ w.cell? ⟨b, o + t * 9 + 2, none⟩ = some (.int .i64 (ws[t]).c.a1) ∧ w.cell? ⟨b, o + t * 9 + 3, none⟩ = some (.int .i64 (ws[t]).c.a2) ∧ w.cell? ⟨b, o + t * 9 + 4, none⟩ = some (.int .i64 (ws[t]).c.a3)
    ∧ w.cell? ⟨b, o + t * 9 + 5, none⟩ = some (.int .i64 (ws[t]).c.a4) ∧ w.cell? ⟨b, o + t * 9 + 6, none⟩ = some (.int .i64 (ws[t]).c.a5) ∧ w.cell? ⟨b, o + t * 9 + 7, none⟩ = some (.int .i64 (ws[t]).c.a6) ∧ w.cell? ⟨b, o + t * 9 + 8, none⟩ = some (.int .i64 (ws[t]).c.a7)) := by
  have h : ∀ j, j < 9 → w.cell? ⟨b, o + t * 9 + j, none⟩ = some (.int .i64 ((ws[t]).get j)) := fun j hj => by
    rw [Nat.add_assoc, hc (t * 9 + j) (by omega), wlCells_at ws t j ht hj]
  exact ⟨h 0 (by omega), h 1 (by omega), h 2 (by omega), h 3 (by omega), h 4 (by omega), h 5 (by omega), h 6 (by omega), h 7 (by omega), h 8 (by omega)⟩

theorem set_nine (ys zs : List Value) (u0 u1 u2 u3 u4 u5 u6 u7 u8 : Value) (x : W9) (k : Nat) (hk : k = ys.length) :
    (((((((((ys ++ u0 :: u1 :: u2 :: u3 :: u4 :: u5 :: u6 :: u7 :: u8 :: zs).set k (.int .i64 x.s)).set (k + 1) (.int .i64 x.c.a0)).set (k + 2) (.int .i64 x.c.a1)).set (k + 3) (.int .i64 x.c.a2)).set (k + 4) (.int .i64 x.c.a3)).set (k + 5) (.int .i64 x.c.a4)).set (k + 6) (.int .i64 x.c.a5)).set (k + 7) (.int .i64 x.c.a6)).set (k + 8) (.int .i64 x.c.a7)
    = ys ++ x.cells ++ zs := by
  subst hk
  simp [W9.cells]

theorem nine_of_len (zs : List Value) (n : Nat) (h : zs.length = (n + 1) * 9) : ∃ u0 u1 u2 u3 u4 u5 u6 u7 u8 zs', zs = u0 :: u1 :: u2 :: u3 :: u4 :: u5 :: u6 :: u7 :: u8 :: zs' ∧ zs'.length = n * 9 := by
  match zs, h with
  | u0 :: u1 :: u2 :: u3 :: u4 :: u5 :: u6 :: u7 :: u8 :: zs', h => exact ⟨u0, u1, u2, u3, u4, u5, u6, u7, u8, zs', rfl, by simp at h; omega⟩
  | [], h => simp at h
  | [_], h => simp at h; omega
  | [_, _], h => simp at h; omega
  | [_, _, _], h => simp at h; omega
  | [_, _, _, _], h => simp at h; omega
  | [_, _, _, _, _], h => simp at h; omega
  | [_, _, _, _, _, _], h => simp at h; omega
  | [_, _, _, _, _, _, _], h => simp at h; omega
  | [_, _, _, _, _, _, _, _], h => simp at h; omega

/-- Block B holds a wheel. -/
def Blk9 (w : World) (B : Nat) (T : TypeId) (x : W9) : Prop := w.heap[B]? = some (.cells x.arr T (0, 0))

theorem blk9_lt {w : World} {B : Nat} {T : TypeId} {x : W9} (h : Blk9 w B T x) : B < w.heap.size := lt_of_block h

theorem blk9_cell {w : World} {B : Nat} {T : TypeId} {x : W9} (h : Blk9 w B T x) (j : Nat) (hj : j < 9) : w.cell? ⟨B, j, none⟩ = some (.int .i64 (x.get j)) := by
  rw [cell_of_row w B j _ _ (0, 0) h]; exact x.get_arr j hj

theorem blk9_free {w : World} {B : Nat} {T : TypeId} {x : W9} (h : Blk9 w B T x) (j : Nat) : w.frozen? ⟨B, j, none⟩ = false := frozen_of_row w B j _ _ h

theorem blk9_cells {w : World} {B : Nat} {T : TypeId} {x : W9} (h : Blk9 w B T x) :
    w.cell? ⟨B, 0, none⟩ = some (.int .i64 x.s) ∧ w.cell? ⟨B, 1, none⟩ = some (.int .i64 x.c.a0) ∧ w.cell? ⟨B, 2, none⟩ = some (.int .i64 x.c.a1) ∧ w.cell? ⟨B, 3, none⟩ = some (.int .i64 x.c.a2) ∧ w.cell? ⟨B, 4, none⟩ = some (.int .i64 x.c.a3)
    ∧ w.cell? ⟨B, 5, none⟩ = some (.int .i64 x.c.a4) ∧ w.cell? ⟨B, 6, none⟩ = some (.int .i64 x.c.a5) ∧ w.cell? ⟨B, 7, none⟩ = some (.int .i64 x.c.a6) ∧ w.cell? ⟨B, 8, none⟩ = some (.int .i64 x.c.a7) :=
  ⟨blk9_cell h 0 (by omega), blk9_cell h 1 (by omega), blk9_cell h 2 (by omega), blk9_cell h 3 (by omega), blk9_cell h 4 (by omega), blk9_cell h 5 (by omega), blk9_cell h 6 (by omega), blk9_cell h 7 (by omega), blk9_cell h 8 (by omega)⟩

def set9w (w : World) (g : Nat) (x : W9) : World := (((((((((w.setCell ⟨g, 0, none⟩ (.int .i64 x.s)).setCell ⟨g, 1, none⟩ (.int .i64 x.c.a0)).setCell ⟨g, 2, none⟩ (.int .i64 x.c.a1)).setCell ⟨g, 3, none⟩ (.int .i64 x.c.a2)).setCell ⟨g, 4, none⟩ (.int .i64 x.c.a3)).setCell ⟨g, 5, none⟩ (.int .i64 x.c.a4)).setCell ⟨g, 6, none⟩ (.int .i64 x.c.a5)).setCell ⟨g, 7, none⟩ (.int .i64 x.c.a6)).setCell ⟨g, 8, none⟩ (.int .i64 x.c.a7))
/-- The radius of a wheel in a block is set. -/
def set81w (w : World) (g : Nat) (c : C8) : World := ((((((((w.setCell ⟨g, 1, none⟩ (.int .i64 c.a0)).setCell ⟨g, 2, none⟩ (.int .i64 c.a1)).setCell ⟨g, 3, none⟩ (.int .i64 c.a2)).setCell ⟨g, 4, none⟩ (.int .i64 c.a3)).setCell ⟨g, 5, none⟩ (.int .i64 c.a4)).setCell ⟨g, 6, none⟩ (.int .i64 c.a5)).setCell ⟨g, 7, none⟩ (.int .i64 c.a6)).setCell ⟨g, 8, none⟩ (.int .i64 c.a7))

theorem blk9_other {w : World} {B B' : Nat} {T : TypeId} {x : W9} (h : Blk9 w B T x) (j : Nat) (v : Value) (hne : B ≠ B') : Blk9 (w.setCell ⟨B', j, none⟩ v) B T x :=
  (Below.heap_setCell _ _ _ _ hne).trans h

theorem blk9_set81 {w : World} {g : Nat} {T : TypeId} {x : W9} (h : Blk9 w g T x) (c : C8) : Blk9 (set81w w g c) g T ⟨x.s, c⟩ := by
  have h := heap_setCell_same _ g 1 _ T (.int .i64 c.a0) h
  have h := heap_setCell_same _ g 2 _ T (.int .i64 c.a1) h
  have h := heap_setCell_same _ g 3 _ T (.int .i64 c.a2) h
  have h := heap_setCell_same _ g 4 _ T (.int .i64 c.a3) h
  have h := heap_setCell_same _ g 5 _ T (.int .i64 c.a4) h
  have h := heap_setCell_same _ g 6 _ T (.int .i64 c.a5) h
  have h := heap_setCell_same _ g 7 _ T (.int .i64 c.a6) h
  have h := heap_setCell_same _ g 8 _ T (.int .i64 c.a7) h
  unfold set81w
  refine h.trans ?_
  simp [W9.arr]

theorem blk9_sets {w : World} {g : Nat} {T : TypeId} {x : W9} (h : Blk9 w g T x) (s : Int) : Blk9 (w.setCell ⟨g, 0, none⟩ (.int .i64 s)) g T ⟨s, x.c⟩ := by
  have h := heap_setCell_same _ g 0 _ T (.int .i64 s) h
  refine h.trans ?_
  simp [W9.arr]

theorem blk9_set9 {w : World} {g : Nat} {T : TypeId} {y : W9} (h : Blk9 w g T y) (x : W9) : Blk9 (set9w w g x) g T x := by
  have h1 := blk9_sets h x.s
  exact blk9_set81 h1 x.c

theorem kept_set81 {w w' : World} (h : Below w.heap.size w w') {g : Nat} (hg : w.heap.size ≤ g) (c : C8) : Below w.heap.size w (set81w w' g c) :=
  kept_set (kept_set (kept_set (kept_set (kept_set (kept_set (kept_set (kept_set h hg _) hg _) hg _) hg _) hg _) hg _) hg _) hg _

theorem kept_set9 {w w' : World} (h : Below w.heap.size w w') {g : Nat} (hg : w.heap.size ≤ g) (x : W9) : Below w.heap.size w (set9w w' g x) :=
  kept_set81 (kept_set h hg _) hg x.c

theorem blk9_set81_other {w : World} {B B' : Nat} {T : TypeId} {x : W9} (h : Blk9 w B T x) (c : C8) (hne : B ≠ B') : Blk9 (set81w w B' c) B T x :=
  blk9_other (blk9_other (blk9_other (blk9_other (blk9_other (blk9_other (blk9_other (blk9_other h _ _ hne) _ _ hne) _ _ hne) _ _ hne) _ _ hne) _ _ hne) _ _ hne) _ _ hne

theorem blk9_set9_other {w : World} {B B' : Nat} {T : TypeId} {y : W9} (h : Blk9 w B T y) (x : W9) (hne : B ≠ B') : Blk9 (set9w w B' x) B T y :=
  blk9_set81_other (blk9_other h _ _ hne) x.c hne

theorem blk9_new (w : World) (x : W9) (T : TypeId) : Blk9 (w.alloc (.cells x.arr T)) w.heap.size T x := heap_alloc_new w _

theorem blk9_below {w w' : World} {B K : Nat} {T : TypeId} {x : W9} (h : Blk9 w B T x) (hk : Below K w w') (hB : B < K) : Blk9 w' B T x := (hk.block B hB).trans h

theorem blk9_kept {w w' : World} {B : Nat} {T : TypeId} {x : W9} (h : Blk9 w B T x) (hk : Below w.heap.size w w') : Blk9 w' B T x := blk9_below h hk (blk9_lt h)

theorem Try.infoW : (Try.prog.info? 124).map (fun i => (i.zero, i.size, i.bytes)) = some (some zero9.val, 9, 72) := by kernel_rfl

end Go.Proofs.Ytnlmiemnblppbaa
