/-
  Arrays of eight numbers: lists of them as they lie in memory; a block that holds one.
-/
import Derived.Test.YtnlmiemnblppbaaBase
import Derived.Test.YtnlmiemnblppbaaRows
namespace Go.Proofs.Ytnlmiemnblppbaa
open Go.RowKit

structure C8 where
  (a0 a1 a2 a3 a4 a5 a6 a7 : Int)

def C8.get (c : C8) : Nat → Int
  | 0 => c.a0 | 1 => c.a1 | 2 => c.a2 | 3 => c.a3 | 4 => c.a4 | 5 => c.a5 | 6 => c.a6 | _ => c.a7
def C8.cells (c : C8) : List Value := [.int .i64 c.a0, .int .i64 c.a1, .int .i64 c.a2, .int .i64 c.a3, .int .i64 c.a4, .int .i64 c.a5, .int .i64 c.a6, .int .i64 c.a7]
def C8.val (c : C8) : Value := .agg #[.int .i64 c.a0, .int .i64 c.a1, .int .i64 c.a2, .int .i64 c.a3, .int .i64 c.a4, .int .i64 c.a5, .int .i64 c.a6, .int .i64 c.a7]
def C8.small (c : C8) (n : Int) : Prop := ∀ j, j < 8 → -n ≤ c.get j ∧ c.get j ≤ n

instance (c : C8) (n : Int) : Decidable (c.small n) := by unfold C8.small; infer_instance
def C8.smallB (c : C8) (n : Int) : Bool := decide (c.small n)

theorem C8.get_cells (c : C8) (j : Nat) (h : j < 8) : c.cells[j]? = some (.int .i64 (c.get j)) := by
  match j, h with
  | 0, _ => rfl | 1, _ => rfl | 2, _ => rfl | 3, _ => rfl | 4, _ => rfl | 5, _ => rfl | 6, _ => rfl | 7, _ => rfl

theorem C8.get_arr (c : C8) (j : Nat) (h : j < 8) : (#[.int .i64 c.a0, .int .i64 c.a1, .int .i64 c.a2, .int .i64 c.a3, .int .i64 c.a4, .int .i64 c.a5, .int .i64 c.a6, .int .i64 c.a7] : Array Value)[j]? = some (.int .i64 (c.get j)) := by
  match j, h with
  | 0, _ => rfl | 1, _ => rfl | 2, _ => rfl | 3, _ => rfl | 4, _ => rfl | 5, _ => rfl | 6, _ => rfl | 7, _ => rfl

def cyCells (cs : List C8) : List Value := cs.flatMap C8.cells

theorem cyCells_len (cs : List C8) : (cyCells cs).length = cs.length * 8 := by
  induction cs with
  | nil => rfl
  | cons m ms ih => simp [cyCells, C8.cells] at ih ⊢; omega

theorem cyCells_at (cs : List C8) (t j : Nat) (h : t < cs.length) (hj : j < 8) : (cyCells cs)[t * 8 + j]? = some (.int .i64 ((cs[t]).get j)) := by
  induction cs generalizing t with
  | nil => simp at h
  | cons m ms ih =>
    cases t with
    | zero =>
      simp only [cyCells, List.flatMap_cons, Nat.zero_mul, Nat.zero_add, List.getElem_cons_zero]
      rw [List.getElem?_append_left (by simp [C8.cells]; omega)]
      exact C8.get_cells m j hj
    | succ t =>
      have := ih t (by simpa using h)
      simp only [cyCells, List.flatMap_cons, List.getElem_cons_succ]
      rw [List.getElem?_append_right (by simp [C8.cells]; omega), show (t + 1) * 8 + j - m.cells.length = t * 8 + j from by simp [C8.cells]; omega]
      exact this

theorem cyCells_succ (cs : List C8) (t : Nat) (h : t < cs.length) : cyCells (cs.take (t + 1)) = cyCells (cs.take t) ++ (cs[t]).cells := by
  rw [List.take_succ_eq_append_getElem h]
  simp only [cyCells, List.flatMap_append, List.flatMap_cons, List.flatMap_nil, List.append_nil]

/-- The eight cells of a value that has just been boxed. -/
theorem boxed (w : World) (c : C8) (T : TypeId) : ∀ j, j < 8 → (w.alloc (.cells #[.int .i64 c.a0, .int .i64 c.a1, .int .i64 c.a2, .int .i64 c.a3, .int .i64 c.a4, .int .i64 c.a5, .int .i64 c.a6, .int .i64 c.a7] T)).cell? ⟨w.heap.size, j, none⟩ = some (.int .i64 (c.get j)) := by
  intro j hj
  rw [cell_of_row _ _ _ _ _ _ (heap_alloc_new w _)]
  exact c.get_arr j hj

theorem eight {t : Nat} (h : t < 8) : t = 0 ∨ t = 1 ∨ t = 2 ∨ t = 3 ∨ t = 4 ∨ t = 5 ∨ t = 6 ∨ t = 7 := by omega

theorem val_spell (c : C8) : c.val = .agg #[.int .i64 c.a0, .int .i64 c.a1, .int .i64 c.a2, .int .i64 c.a3, .int .i64 c.a4, .int .i64 c.a5, .int .i64 c.a6, .int .i64 c.a7] := rfl

def C8.arr (c : C8) : Array Value := #[.int .i64 c.a0, .int .i64 c.a1, .int .i64 c.a2, .int .i64 c.a3, .int .i64 c.a4, .int .i64 c.a5, .int .i64 c.a6, .int .i64 c.a7]
def zero8 : C8 := ⟨0, 0, 0, 0, 0, 0, 0, 0⟩
/-- The first t numbers of one, the others of another. -/
def mix (c d : C8) (t : Nat) : C8 := ⟨if 0 < t then c.a0 else d.a0, if 1 < t then c.a1 else d.a1, if 2 < t then c.a2 else d.a2, if 3 < t then c.a3 else d.a3, if 4 < t then c.a4 else d.a4, if 5 < t then c.a5 else d.a5, if 6 < t then c.a6 else d.a6, if 7 < t then c.a7 else d.a7⟩

theorem mix_zero (c d : C8) : mix c d 0 = d := by simp [mix]
theorem mix_all (c d : C8) : mix c d 8 = c := by simp [mix]
theorem mix_set (c d : C8) (t : Nat) (h : t < 8) : (mix c d t).arr.setIfInBounds t (.int .i64 (c.get t)) = (mix c d (t + 1)).arr := by
  rcases eight h with rfl | rfl | rfl | rfl | rfl | rfl | rfl | rfl <;> simp [mix, C8.arr, C8.get]

/-- The eight cells of a block that holds a Cyc alone. -/
theorem row8 {w : World} {g : Nat} {T : TypeId} {c : C8} (h : w.heap[g]? = some (.cells c.arr T (0, 0))) :
    (w.cell? ⟨g, 0, none⟩ = some (.int .i64 c.a0) ∧ w.cell? ⟨g, 1, none⟩ = some (.int .i64 c.a1) ∧ w.cell? ⟨g, 2, none⟩ = some (.int .i64 c.a2) ∧ w.cell? ⟨g, 3, none⟩ = some (.int .i64 c.a3)
    ∧ w.cell? ⟨g, 4, none⟩ = some (.int .i64 c.a4) ∧ w.cell? ⟨g, 5, none⟩ = some (.int .i64 c.a5) ∧ w.cell? ⟨g, 6, none⟩ = some (.int .i64 c.a6) ∧ w.cell? ⟨g, 7, none⟩ = some (.int .i64 c.a7))
    ∧ (∀ j, j < 8 → w.cell? ⟨g, j, none⟩ = some (.int .i64 (c.get j))) ∧ ∀ j, w.frozen? ⟨g, j, none⟩ = false := by
  have hc : ∀ j, w.cell? ⟨g, j, none⟩ = c.arr[j]? := fun j => cell_of_row w g j _ _ (0, 0) h
  exact ⟨⟨hc 0, hc 1, hc 2, hc 3, hc 4, hc 5, hc 6, hc 7⟩, fun j hj => (hc j).trans (c.get_arr j hj), fun j => frozen_of_row w g j _ _ h⟩

def set8w (w : World) (g : Nat) (c : C8) : World := ((((((((w.setCell ⟨g, 0, none⟩ (.int .i64 c.a0)).setCell ⟨g, 1, none⟩ (.int .i64 c.a1)).setCell ⟨g, 2, none⟩ (.int .i64 c.a2)).setCell ⟨g, 3, none⟩ (.int .i64 c.a3)).setCell ⟨g, 4, none⟩ (.int .i64 c.a4)).setCell ⟨g, 5, none⟩ (.int .i64 c.a5)).setCell ⟨g, 6, none⟩ (.int .i64 c.a6)).setCell ⟨g, 7, none⟩ (.int .i64 c.a7))

theorem set8 {w : World} {g : Nat} {T : TypeId} {d : C8} (c : C8) (h : w.heap[g]? = some (.cells d.arr T (0, 0))) : (set8w w g c).heap[g]? = some (.cells c.arr T (0, 0)) := by
  have h := heap_setCell_same _ g 0 _ T (.int .i64 c.a0) h
  have h := heap_setCell_same _ g 1 _ T (.int .i64 c.a1) h
  have h := heap_setCell_same _ g 2 _ T (.int .i64 c.a2) h
  have h := heap_setCell_same _ g 3 _ T (.int .i64 c.a3) h
  have h := heap_setCell_same _ g 4 _ T (.int .i64 c.a4) h
  have h := heap_setCell_same _ g 5 _ T (.int .i64 c.a5) h
  have h := heap_setCell_same _ g 6 _ T (.int .i64 c.a6) h
  have h := heap_setCell_same _ g 7 _ T (.int .i64 c.a7) h
  unfold set8w
  refine h.trans ?_
  simp [C8.arr]

theorem kept_set8 {w w' : World} (h : Below w.heap.size w w') {g : Nat} (hg : w.heap.size ≤ g) (c : C8) : Below w.heap.size w (set8w w' g c) :=
  kept_set (kept_set (kept_set (kept_set (kept_set (kept_set (kept_set (kept_set h hg _) hg _) hg _) hg _) hg _) hg _) hg _) hg _

theorem heap_kept {w w' : World} (h : Below w.heap.size w w') {g : Nat} {o : Obj} (hg : w.heap[g]? = some o) : w'.heap[g]? = some o :=
  (h.block g (lt_of_block hg)).trans hg

theorem three (w : World) (o1 o2 o3 : Obj) : let W := ((w.alloc o1).alloc o2).alloc o3; W.heap[w.heap.size]? = some o1 ∧ W.heap[w.heap.size + 1]? = some o2 ∧ W.heap[w.heap.size + 2]? = some o3 := by
  intro W
  refine ⟨?_, ?_, ?_⟩
  · show (((w.alloc o1).alloc o2).alloc o3).heap[_]? = _
    rw [heap_alloc_old _ _ (by simp; omega), heap_alloc_old _ _ (by simp)]
    exact heap_alloc_new _ _
  · show (((w.alloc o1).alloc o2).alloc o3).heap[_]? = _
    rw [heap_alloc_old _ _ (by simp)]
    have := heap_alloc_new (w.alloc o1) o2
    rwa [show (w.alloc o1).heap.size = w.heap.size + 1 from by simp] at this
  · have := heap_alloc_new ((w.alloc o1).alloc o2) o3
    rwa [show ((w.alloc o1).alloc o2).heap.size = w.heap.size + 2 from by simp] at this

def C8.set (c : C8) (j : Nat) (z : Int) : C8 :=
  match j with
  | 0 => { c with a0 := z } | 1 => { c with a1 := z } | 2 => { c with a2 := z } | 3 => { c with a3 := z } | 4 => { c with a4 := z } | 5 => { c with a5 := z } | 6 => { c with a6 := z } | _ => { c with a7 := z }
theorem C8.set_arr (c : C8) (j : Nat) (z : Int) (h : j < 8) : c.arr.setIfInBounds j (.int .i64 z) = (c.set j z).arr := by
  rcases eight h with rfl | rfl | rfl | rfl | rfl | rfl | rfl | rfl <;> rfl

theorem C8.arr_get (c : C8) (j : Nat) (h : j < 8) : c.arr[j]? = some (.int .i64 (c.get j)) := c.get_arr j h

/-- Block B holds the eight numbers of c. -/
def Blk (w : World) (B : Nat) (T : TypeId) (c : C8) : Prop := w.heap[B]? = some (.cells c.arr T (0, 0))

theorem blk_lt {w : World} {B : Nat} {T : TypeId} {c : C8} (h : Blk w B T c) : B < w.heap.size := lt_of_block h

theorem blk_cell {w : World} {B : Nat} {T : TypeId} {c : C8} (h : Blk w B T c) (j : Nat) (hj : j < 8) : w.cell? ⟨B, j, none⟩ = some (.int .i64 (c.get j)) := by
  rw [cell_of_row w B j _ _ (0, 0) h]; exact c.arr_get j hj

theorem blk_cells {w : World} {B : Nat} {T : TypeId} {c : C8} (h : Blk w B T c) :
    w.cell? ⟨B, 0, none⟩ = some (.int .i64 c.a0) ∧ w.cell? ⟨B, 1, none⟩ = some (.int .i64 c.a1) ∧ w.cell? ⟨B, 2, none⟩ = some (.int .i64 c.a2) ∧ w.cell? ⟨B, 3, none⟩ = some (.int .i64 c.a3)
    ∧ w.cell? ⟨B, 4, none⟩ = some (.int .i64 c.a4) ∧ w.cell? ⟨B, 5, none⟩ = some (.int .i64 c.a5) ∧ w.cell? ⟨B, 6, none⟩ = some (.int .i64 c.a6) ∧ w.cell? ⟨B, 7, none⟩ = some (.int .i64 c.a7) :=
  ⟨blk_cell h 0 (by omega), blk_cell h 1 (by omega), blk_cell h 2 (by omega), blk_cell h 3 (by omega), blk_cell h 4 (by omega), blk_cell h 5 (by omega), blk_cell h 6 (by omega), blk_cell h 7 (by omega)⟩

theorem blk_free {w : World} {B : Nat} {T : TypeId} {c : C8} (h : Blk w B T c) (j : Nat) : w.frozen? ⟨B, j, none⟩ = false := frozen_of_row w B j _ _ h

theorem blk_set {w : World} {B : Nat} {T : TypeId} {c : C8} (h : Blk w B T c) (j : Nat) (hj : j < 8) (z : Int) : Blk (w.setCell ⟨B, j, none⟩ (.int .i64 z)) B T (c.set j z) := by
  unfold Blk
  rw [heap_setCell_same w B j _ _ _ h, C8.set_arr c j z hj]

theorem blk_other {w : World} {B B' : Nat} {T : TypeId} {c : C8} (h : Blk w B T c) (j : Nat) (v : Value) (hne : B ≠ B') : Blk (w.setCell ⟨B', j, none⟩ v) B T c :=
  (Below.heap_setCell _ _ _ _ hne).trans h

theorem blk_drewN {w : World} {B : Nat} {T : TypeId} {c : C8} (h : Blk w B T c) (n : Nat) : Blk (w.drewN n) B T c := by
  unfold Blk; exact h

theorem blk_drew {w : World} {B : Nat} {T : TypeId} {c : C8} (h : Blk w B T c) : Blk w.drew B T c := h

theorem blk_new (w : World) (c : C8) (T : TypeId) : Blk (w.alloc (.cells c.arr T)) w.heap.size T c := heap_alloc_new w _

theorem blk_below {w w' : World} {B K : Nat} {T : TypeId} {c : C8} (h : Blk w B T c) (hk : Below K w w') (hB : B < K) : Blk w' B T c := (hk.block B hB).trans h

theorem blk_kept {w w' : World} {B : Nat} {T : TypeId} {c : C8} (h : Blk w B T c) (hk : Below w.heap.size w w') : Blk w' B T c := blk_below h hk (blk_lt h)

theorem blk_grown {w w' : World} {B : Nat} {T : TypeId} {c : C8} {row : Option Nat} (h : Blk w B T c) (hg : w.grownBy w' row) (hr : row ≠ some B) : Blk w' B T c := (hg.block B (blk_lt h) (fun e => hr e.symm)).trans h

theorem blk_alloc {w : World} {B : Nat} {T : TypeId} {c : C8} (h : Blk w B T c) (o : Obj) : Blk (w.alloc o) B T c := blk_kept h (kept_new w o)

theorem blk_frees {w : World} {B : Nat} {T : TypeId} {c : C8} (h : Blk w B T c) :
    w.frozen? ⟨B, 0, none⟩ = false ∧ w.frozen? ⟨B, 1, none⟩ = false ∧ w.frozen? ⟨B, 2, none⟩ = false ∧ w.frozen? ⟨B, 3, none⟩ = false ∧ w.frozen? ⟨B, 4, none⟩ = false ∧ w.frozen? ⟨B, 5, none⟩ = false ∧ w.frozen? ⟨B, 6, none⟩ = false ∧ w.frozen? ⟨B, 7, none⟩ = false :=
  ⟨blk_free h 0, blk_free h 1, blk_free h 2, blk_free h 3, blk_free h 4, blk_free h 5, blk_free h 6, blk_free h 7⟩

theorem three_new (w : World) (c d e : C8) (T : TypeId) :
    Blk (((w.alloc (.cells c.arr T)).alloc (.cells d.arr T)).alloc (.cells e.arr T)) w.heap.size T c ∧ Blk (((w.alloc (.cells c.arr T)).alloc (.cells d.arr T)).alloc (.cells e.arr T)) (w.heap.size + 1) T d ∧
    Blk (((w.alloc (.cells c.arr T)).alloc (.cells d.arr T)).alloc (.cells e.arr T)) (w.heap.size + 1 + 1) T e ∧ Below w.heap.size w (((w.alloc (.cells c.arr T)).alloc (.cells d.arr T)).alloc (.cells e.arr T)) := by
  refine ⟨blk_alloc (blk_alloc (blk_new _ _ _) _) _, ?_, ?_, kept_alloc (kept_alloc (kept_new _ _) _) _⟩
  · have := blk_new (w.alloc (.cells c.arr T)) d T
    rw [show (w.alloc (.cells c.arr T)).heap.size = w.heap.size + 1 from by simp] at this
    exact blk_alloc this _
  · have := blk_new ((w.alloc (.cells c.arr T)).alloc (.cells d.arr T)) e T
    rwa [show ((w.alloc (.cells c.arr T)).alloc (.cells d.arr T)).heap.size = w.heap.size + 1 + 1 from by simp] at this

theorem blk_set8 {w : World} {B : Nat} {T : TypeId} {d : C8} (h : Blk w B T d) (c : C8) : Blk (set8w w B c) B T c := set8 c h

theorem blk_set8_other {w : World} {B B' : Nat} {T : TypeId} {d : C8} (h : Blk w B T d) (c : C8) (hne : B ≠ B') : Blk (set8w w B' c) B T d :=
  blk_other (blk_other (blk_other (blk_other (blk_other (blk_other (blk_other (blk_other h _ _ hne) _ _ hne) _ _ hne) _ _ hne) _ _ hne) _ _ hne) _ _ hne) _ _ hne

/-- The eight cells of element t of a list of Cycs, as a load wants them. -/
theorem cyc_cells {w : World} {b o : Nat} {cs : List C8} (hc : ∀ j, j < cs.length * 8 → w.cell? ⟨b, o + j, none⟩ = (cyCells cs)[j]?) (t : Nat) (ht : t < cs.length) :
    (w.cell? ⟨b, o + t * 8, none⟩ = some (.int .i64 (cs[t]).a0) ∧ w.cell? ⟨b, o + t * 8 + 1, none⟩ = some (.int .i64 (cs[t]).a1) ∧ w.cell? ⟨b, o + t * 8 + 2, none⟩ = some (.int .i64 (cs[t]).a2) ∧ w.cell? ⟨b, o + t * 8 + 3, none⟩ = some (.int .i64 (cs[t]).a3)
    ∧ w.cell? ⟨b, o + t * 8 + 4, none⟩ = some (.int .i64 (cs[t]).a4) ∧ w.cell? ⟨b, o + t * 8 + 5, none⟩ = some (.int .i64 (cs[t]).a5) ∧ w.cell? ⟨b, o + t * 8 + 6, none⟩ = some (.int .i64 (cs[t]).a6) ∧ w.cell? ⟨b, o + t * 8 + 7, none⟩ = some (.int .i64 (cs[t]).a7)) := by
  have h : ∀ j, j < 8 → w.cell? ⟨b, o + t * 8 + j, none⟩ = some (.int .i64 ((cs[t]).get j)) := fun j hj => by
    rw [Nat.add_assoc, hc _ (by omega), cyCells_at cs t j ht hj]
  exact ⟨h 0 (by omega), h 1 (by omega), h 2 (by omega), h 3 (by omega), h 4 (by omega), h 5 (by omega), h 6 (by omega), h 7 (by omega)⟩

theorem below_cells {w w' : World} {b o n : Nat} {xs : List Value} (hb : Below w.heap.size w w') (hl : b < w.heap.size) (hc : ∀ j, j < n → w.cell? ⟨b, o + j, none⟩ = xs[j]?) : ∀ j, j < n → w'.cell? ⟨b, o + j, none⟩ = xs[j]? :=
  fun j hj => (hb.cell (p := ⟨b, o + j, none⟩) hl).trans (hc j hj)

theorem Try.infoCy : (Try.prog.info? 51).map (fun i => (i.zero, i.size, i.bytes)) = some (some zero8.val, 8, 64) := by kernel_rfl

end Go.Proofs.Ytnlmiemnblppbaa
