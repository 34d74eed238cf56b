/-
  Clearing and cutting slices whose elements have several cells; lists sorted by the library's insertion sort.
-/
import Derived.Test.YtnlmiemnblppbaaWm
import Derived.Laws.IdiomCopy
import Derived.Shelf.SlSortCmp.SmallK
import Derived.Lib.OwnBridge
namespace Go.Proofs.Ytnlmiemnblppbaa
open Go.RowKit Go.Sort

/-- 'clear(s)', s a slice of n > 0 elements of k cells each: some cells are laid there, nothing else turns. -/
theorem run_clear_k {P : Program} (w : World) (t e : TypeId) (z : Value) (k : Nat) (ht : P.underlying t = some (.slice e)) (hv : ∀ w, (zeroValue e).run P w = .ok z w) (hk : z.cells.size = k) (h0 : 0 < k) (h1 : ∀ v ∈ z.cells.toList, v.oneCell' = true)
    (b o n c : Nat) (hn : 0 < n) (hc : ∀ j, j < n * k → (w.cell? ⟨b, o + j, none⟩).isSome = true) (hf : ∀ j, j < n * k → w.frozen? ⟨b, o + j, none⟩ = false) :
    ∃ vs : List Value, vs.length = n * k ∧ ∀ ty, (Builtin.clear_ #[t] ty #[.slice (some ⟨b, o, none⟩) n c]).run P w = .ok (.tuple #[]) (w.setCells b o vs) := by
  have hl : (Builtin.zeroCells z.cells n).toList.length = n * k := by simp [Builtin.zeroCells, hk]
  refine ⟨(Builtin.zeroCells z.cells n).toList, hl, fun ty => ?_⟩
  have hst := run_storeCells_cells (P := P) b o (Builtin.zeroCells z.cells n).toList 0 w (by rw [hl]; simpa using hc) (by rw [hl]; simpa using hf) (by
    intro v hv'
    simp only [Builtin.zeroCells, Array.toList_map, List.mem_map] at hv'
    obtain ⟨i, _, rfl⟩ := hv'
    have hlt : i % z.cells.size < z.cells.size := Nat.mod_lt _ (by omega)
    rw [getElem!_pos z.cells _ hlt]
    exact h1 _ (Array.getElem_mem_toList hlt))
  simp only [Nat.add_zero] at hst
  obtain ⟨m, rfl⟩ : ∃ m, n = m + 1 := ⟨n - 1, by omega⟩
  simp [Builtin.clear_, run_underlying ht, hv, hst]

theorem has_setCells {base size g n cap : Nat} : ∀ (vs : List Value) (o : Nat) (w : World) (xs : List Value), Has w base size (.slice (some ⟨g, 0, none⟩) n cap) n xs →
    ∃ xs', Has (w.setCells g o vs) base size (.slice (some ⟨g, 0, none⟩) n cap) n xs' ∧ xs'.take o = xs.take o ∧ w.grownBy (w.setCells g o vs) (some g)
  | [], o, w, xs, h => ⟨xs, h, rfl, World.grownBy.refl _ _⟩
  | v :: r, o, w, xs, h => by
    obtain ⟨s1, g1⟩ := has_stored h o v
    obtain ⟨xs', h2, h3, h4⟩ := has_setCells r (o + 1) _ _ s1
    refine ⟨xs', h2, ?_, grown_trans' g1 h4⟩
    have := congrArg (List.take o) h3
    rw [List.take_take, List.take_take, Nat.min_eq_left (by omega)] at this
    rw [this, List.take_set_of_le (by omega)]

theorem has_cut {w : World} {base size g n cap n' : Nat} {xs : List Value} (h : Has w base size (.slice (some ⟨g, 0, none⟩) n cap) n xs) (hn : n' ≤ n) : Has w base size (.slice (some ⟨g, 0, none⟩) n' cap) n' (xs.take (n' * size)) := by
  have hm : n' * size ≤ n * size := Nat.mul_le_mul_right _ hn
  refine ⟨by rw [List.length_take, h.1]; omega, by have := h.2.1; omega, ?_⟩
  rcases h.2.2 with ⟨h', _⟩ | ⟨g', cap', cur, e, h', hb, hg, hs, ht⟩
  · simp at h'
  · simp only [Value.slice.injEq, Option.some.injEq, Addr.mk.injEq, and_true, true_and] at h'
    obtain ⟨rfl, rfl⟩ := h'
    exact .inr ⟨g, cap, cur, e, rfl, hb, hg, by omega, by rw [← ht, List.take_take, Nat.min_eq_left hm]⟩

def cmpW (x y : W9) : Int := Lib.compareInt x.s y.s

theorem cmpW_lt (x y : W9) : ltOf cmpW x y = decide (x.s < y.s) := by
  unfold ltOf cmpW Lib.compareInt
  refine decide_eq_decide.2 ?_
  by_cases h : x.s < y.s
  · simp [h]
  · rw [if_neg h]
    by_cases h2 : x.s > y.s
    · simp [h2, h]
    · simp [h2, h]

theorem cmpW_swo : SWO (ltOf cmpW) := by
  refine ⟨fun x => ?_, fun x y z h1 h2 => ?_, fun x y z h1 h2 => ?_⟩ <;> rw [cmpW_lt] at * <;> simp at * <;> omega

instance : Inhabited W9 := ⟨zero9⟩

def sortW (ws : List W9) : List W9 := (Sort.insertionSort (ltOf cmpW) ws.toArray 0 ws.toArray.size).toList

theorem sortW_holds (ws : List W9) : (sortW ws).Perm ws ∧ (sortW ws).Pairwise fun x y => ¬ y.s < x.s := by
  obtain ⟨⟨h1, _, h3⟩, h4⟩ := insertionSort_holds (lt := ltOf cmpW) cmpW_swo ws.toArray 0 ws.toArray.size (Nat.zero_le _) (Nat.le_refl _)
  unfold SortedIn at h4
  unfold sortW
  generalize Sort.insertionSort (ltOf cmpW) ws.toArray 0 ws.toArray.size = d at *
  have hz : d.extract 0 ws.toArray.size = d := by rw [← h1]; simp
  rw [hz] at h3
  refine ⟨by simpa using h3, ?_⟩
  rw [List.pairwise_iff_getElem]
  intro i j hi hj hij
  have hi' : i < d.size := by simpa using hi
  have hj' : j < d.size := by simpa using hj
  have := h4 i j (Nat.zero_le _) hij (by omega)
  rw [getElem!_pos d i hi', getElem!_pos d j hj', cmpW_lt] at this
  simpa using this

theorem flat9 (ws : List W9) : flatK W9.cells 9 ws.toArray = (wlCells ws).toArray := by
  apply Array.ext_getElem?
  intro j
  by_cases hj : j < ws.length * 9
  · have h1 : j / 9 < ws.length := by omega
    have h2 : j % 9 < 9 := by omega
    have hg := wlCells_at ws (j / 9) (j % 9) h1 h2
    rw [show j / 9 * 9 + j % 9 = j from by omega] at hg
    have hk := W9.get_cells (ws[j / 9]) (j % 9) h2
    have h3 : j % 9 < (ws[j / 9]).cells.length := by simp [W9.cells]; omega
    simp only [List.getElem?_toArray, hg, flatK]
    rw [Array.getElem?_map, Array.getElem?_range]
    simp [hj, h1, h3]
    rw [List.getElem?_eq_getElem h3] at hk
    simpa using hk
  · rw [Array.getElem?_eq_none (by simp; omega), Array.getElem?_eq_none (by simp [wlCells_len]; omega)]

theorem holds_of_has9 {w : World} {base size g n cap : Nat} {xs : List Value} (h : Has w base size (.slice (some ⟨g, 0, none⟩) n cap) n xs) : Holds id w g 0 xs.toArray := by
  rcases has_cases h with ⟨h', _⟩ | ⟨g', cap', h', _, _, _, h1, h2⟩
  · simp at h'
  · simp only [Value.slice.injEq, Option.some.injEq, Addr.mk.injEq, and_true, true_and] at h'
    obtain ⟨rfl, rfl⟩ := h'
    intro j hj
    have hj' : j < xs.length := by simpa using hj
    refine ⟨?_, h2 _⟩
    rw [Nat.zero_add, h1 j (by rw [← h.1]; exact hj'), List.getElem?_eq_getElem hj']
    simp [getElem!_pos, hj']

theorem has_putRow9 {w : World} {base size g n cap q : Nat} {xs ys : List Value} (h : Has w base size (.slice (some ⟨g, 0, none⟩) n cap) n xs) (hy : ys.length = n * size) :
    Has (putRow id (Sort.ahead w q) g 0 ys.toArray) base size (.slice (some ⟨g, 0, none⟩) n cap) n ys := by
  refine ⟨hy, h.2.1, ?_⟩
  rcases h.2.2 with ⟨h', _⟩ | ⟨g', cap', cur, e, h', hb, hg, hs, ht⟩
  · simp at h'
  · simp only [Value.slice.injEq, Option.some.injEq, Addr.mk.injEq, and_true, true_and] at h'
    obtain ⟨rfl, rfl⟩ := h'
    refine .inr ⟨g, cap, putCells id 0 ys.toArray cur, e, rfl, hb, ?_, by simpa [putCells] using hs, ?_⟩
    · simp [putRow, mapBlock, Sort.ahead, Array.getElem?_modify, hg, onCells]
    · apply List.ext_getElem?
      intro j
      rw [List.getElem?_take, Array.getElem?_toList]
      by_cases hj : j < n * size
      · have hjc : j < cur.size := by omega
        simp only [if_pos hj, putCells, Array.getElem?_mapIdx, Array.getElem?_eq_getElem hjc, Option.map_some]
        rw [if_pos (by simp; omega), List.getElem?_eq_getElem (by omega)]
        simp [getElem!_pos, show j < ys.length by omega]
      · rw [if_neg hj, List.getElem?_eq_none (by omega)]

theorem kept_grow (w : World) (os : Array Obj) : Below w.heap.size w (Sort.grow w os) :=
  ⟨rfl, rfl, rfl, by show w.heap.size ≤ (w.heap ++ os).size; rw [Array.size_append]; omega, fun _ hj => Sort.heap_grow_old w os hj⟩

theorem sorted_world {w : World} {base g cap q : Nat} {ws : List W9} {os : Array Obj} {B : Nat} {w0 : World} (h : Has w base 9 (.slice (some ⟨g, 0, none⟩) ws.length cap) ws.length (wlCells ws)) (hb : Below B w0 w) (hB : B ≤ g) :
    Has (sortWorldK W9.cells 9 w g 0 q (Sort.insertionSort (ltOf cmpW) ws.toArray 0 ws.toArray.size) os) base 9 (.slice (some ⟨g, 0, none⟩) ws.length cap) ws.length (wlCells (sortW ws))
    ∧ Below B w0 (sortWorldK W9.cells 9 w g 0 q (Sort.insertionSort (ltOf cmpW) ws.toArray 0 ws.toArray.size) os) := by
  have hl : (sortW ws).length = ws.length := (sortW_holds ws).1.length_eq
  unfold sortWorldK putRowK
  rw [show Sort.insertionSort (ltOf cmpW) ws.toArray 0 ws.toArray.size = (sortW ws).toArray from by simp [sortW], flat9]
  have h1 := has_putRow9 (q := q) h (ys := wlCells (sortW ws)) (by rw [wlCells_len, hl])
  have h2 : Below B w0 (putRow id (Sort.ahead w q) g 0 (wlCells (sortW ws)).toArray) := Lib.below_putRow hb hB
  exact ⟨has_kept h1 (kept_grow _ _), h2.trans ((kept_grow _ os).mono (Nat.le_trans hB (Nat.le_of_lt (has_lt h1 g rfl).2)))⟩

end Go.Proofs.Ytnlmiemnblppbaa
