/-
  PolyBack of the program: a clone that is turned round in place.
-/
import Derived.Test.YtmobajlakelidaaCyBk
import Derived.Shelf.SlicesQ.Reverse
import Derived.Shelf.SlicesE.Clone
import Derived.Ground.SlgnProg
import Derived.Lib.OwnBridge
namespace Go.Proofs
open Go.Shelf Go.Lib
def Try.reverseCy_ren : Go.Shelf.Ren := ⟨fun | 35 => 40 | n => n, fun | 22 => 25 | 23 => 39 | 3 => 3 | 4 => 4 | 0 => 0 | n => n, fun | n => n⟩
theorem Try.reverseCy : Go.Proofs.SlLaysE0.n35 Try.prog Try.reverseCy_ren := {
  mixed := by kernel_rfl
  f35 := ⟨Try.f40.name, by decide, Try.func40.trans (congrArg some (by kernel_rfl))⟩
  t0 := Try.underlying0
  a0 := Try.isAgg0
  z0 := Try.sizeOf0
  v0 := Try.zeroValue0
  t3 := Try.underlying3
  a3 := Try.isAgg3
  z3 := Try.sizeOf3
  v3 := Try.zeroValue3
  t4 := Try.underlying4
  a4 := Try.isAgg4
  z4 := Try.sizeOf4
  v4 := Try.zeroValue4
  t22 := Try.underlying25
  a22 := Try.isAgg25
  z22 := Try.sizeOf25
  v22 := Try.zeroValue25 }
def Try.cloneCy_ren : Go.Shelf.Ren := ⟨fun | 41 => 39 | n => n, fun | 22 => 25 | 23 => 39 | 4 => 4 | n => n, fun | n => n⟩
theorem Try.cloneCy : Go.Proofs.SlLaysE0.n41 Try.prog Try.cloneCy_ren := {
  mixed := by kernel_rfl
  f41 := ⟨Try.f39.name, by decide, Try.func39.trans (congrArg some (by kernel_rfl))⟩
  t4 := Try.underlying4
  a4 := Try.isAgg4
  z4 := Try.sizeOf4
  v4 := Try.zeroValue4
  t22 := Try.underlying25
  a22 := Try.isAgg25
  z22 := Try.sizeOf25
  v22 := Try.zeroValue25 }
end Go.Proofs
namespace Go.Proofs.Ytmobajlakelidaa
open Go.RowKit Go.Shelf Go.Lib Go.Sort

instance : Inhabited C8 := ⟨zero8⟩

theorem holds_of_has {w : World} {base size g n cap : Nat} {xs : List Value} (h : Has w base size (.slice (some ⟨g, 0, none⟩) n cap) n xs) : Holds id w g 0 xs.toArray := by
  rcases has_cases h with ⟨h', _⟩ | ⟨g', cap', h', _, _, _, h1, h2⟩
  · simp at h'
  · simp only [Value.slice.injEq, Option.some.injEq, Addr.mk.injEq, and_true, true_and] at h'
    obtain ⟨rfl, rfl⟩ := h'
    intro j hj
    have hj' : j < xs.length := by simpa using hj
    refine ⟨?_, h2 _⟩
    rw [Nat.zero_add, h1 j (by rw [← h.1]; exact hj'), List.getElem?_eq_getElem hj']
    simp [getElem!_pos, hj']

theorem has_putRow {w : World} {base size g n cap q : Nat} {xs ys : List Value} (h : Has w base size (.slice (some ⟨g, 0, none⟩) n cap) n xs) (hy : ys.length = n * size) :
    Has (putRow id (Sort.ahead w q) g 0 ys.toArray) base size (.slice (some ⟨g, 0, none⟩) n cap) n ys := by
  refine ⟨hy, h.2.1, ?_⟩
  rcases h.2.2 with ⟨h', _⟩ | ⟨g', cap', cur, e, h', hb, hg, hs, ht⟩
  · simp at h'
  · simp only [Value.slice.injEq, Option.some.injEq, Addr.mk.injEq, and_true, true_and] at h'
    obtain ⟨rfl, rfl⟩ := h'
    refine .inr ⟨g, cap, putCells id 0 ys.toArray cur, e, rfl, hb, ?_, by simpa [putCells] using hs, ?_⟩
    · simp [putRow, mapBlock, Sort.ahead, Array.getElem?_modify, hg, onCells]
    · apply List.ext_getElem?
      intro j
      rw [List.getElem?_take, Array.getElem?_toList]
      by_cases hj : j < n * size
      · have hjc : j < cur.size := by omega
        simp only [if_pos hj, putCells, Array.getElem?_mapIdx, Array.getElem?_eq_getElem hjc, Option.map_some]
        rw [if_pos (by simp; omega), List.getElem?_eq_getElem (by omega)]
        simp [getElem!_pos, show j < ys.length by omega]
      · rw [if_neg hj, List.getElem?_eq_none (by omega)]

theorem flat_cells (cs : List C8) : flatK C8.cells 8 cs.toArray = (cyCells cs).toArray := by
  apply Array.ext_getElem?
  intro j
  by_cases hj : j < cs.length * 8
  · have h1 : j / 8 < cs.length := by omega
    have h2 : j % 8 < 8 := by omega
    have hg := cyCells_at cs (j / 8) (j % 8) h1 h2
    rw [show j / 8 * 8 + j % 8 = j from by omega] at hg
    have hk := C8.get_cells (cs[j / 8]) (j % 8) h2
    have h3 : j % 8 < (cs[j / 8]).cells.length := by simp [C8.cells]; omega
    simp only [List.getElem?_toArray, hg, flatK]
    rw [Array.getElem?_map, Array.getElem?_range]
    simp [hj, h1, h3]
    rw [List.getElem?_eq_getElem h3] at hk
    simpa using hk
  · rw [Array.getElem?_eq_none (by simp; omega), Array.getElem?_eq_none (by simp [cyCells_len]; omega)]

theorem arr_get (A : Addr) : A.add 0 = A := rfl

theorem cells_one (c : C8) : ∀ v ∈ c.cells, v.oneCell' = true := by
  intro v hv
  simp only [C8.cells, List.mem_cons, List.not_mem_nil, or_false] at hv
  rcases hv with rfl | rfl | rfl | rfl | rfl | rfl | rfl | rfl <;> rfl

theorem cyCells_one (cs : List C8) : ∀ v ∈ cyCells cs, v.oneCell' = true := by
  intro v hv
  simp only [cyCells, List.mem_flatMap] at hv
  obtain ⟨c, _, hc⟩ := hv
  exact cells_one c v hc

set_option maxHeartbeats 2000000 in
theorem backImpl_ok (v : Value) (cs : List C8) (w : World) (hr : Reads w 8 v cs.length (cyCells cs)) (hn : cs.length ≤ 1048576) :
    Calls Try.prog 21 #[v] w (CyPost (backRes cs) w) := by
  obtain ⟨i0, hi, hz0, hz1, hz2⟩ := info_parts Try.infoCy
  have Hr := hide hr
  by_cases hin : polyB cs = true
  · have Hfin : Hid (backRes cs = (cs.reverse, true)) := by simp [backRes, hin, Hid]
    have Hin := hide hin
    obtain ⟨hl1, hl2⟩ := polyB_len hin
    obtain ⟨_, hm, A, c, rfl, hc⟩ := hr
    obtain ⟨b, o, rfl, hbl, hcell⟩ := hc (by omega) (by omega)
    have Hcell := hide hcell
    clear hin hc hcell
    go_enter Try.func21, Try.ntmps21
    go_wp2_with fail
    refine (polyImpl_ok _ cs _ Hr.out hn).mono ?_
    rintro e w1 ⟨rfl, hb1⟩
    rw [Hin.out]
    go_wp2_with fail
    refine (AnyE.slices_Clone Try.cloneCy i0 _ 8 64 hi hz0 hz1 hz2 rfl (by decide) Try.sizeOf39 b o cs.length c (cyCells cs) w1 (cyCells_len cs) (by unfold maxLen; omega) (by omega) (fun j u hu => ?_) (cyCells_one cs)).mono ?_
    · have hj : j < cs.length * 8 := by have := (List.getElem?_eq_some_iff.1 hu).1; rwa [cyCells_len] at this
      rw [hb1.cell (p := ⟨b, o + j, none⟩) hbl, Hcell.out j hj]; exact hu
    rintro e w2 ⟨v', rfl, ho, hv', hb2⟩
    have hh := has_owns ho
    have hb12 := kept_trans hb1 hb2
    have hB := hb1.size
    obtain ⟨h', _⟩ | ⟨g, cap, rfl, hg1, hg2, hg3, hg4, hg5⟩ := has_cases hh
    · exact absurd h' hv'
    have hcc : cs.length ≤ cap := by
      rcases ho.2 with ⟨h', _⟩ | ⟨g', cap', cur, h', _, _, hn', _⟩
      · exact absurd h' hv'
      · simp only [Value.slice.injEq, Option.some.injEq, Addr.mk.injEq, and_true, true_and] at h'
        omega
    have H1 := hide (has_clip hh cs.length)
    have hH : HoldsK C8.cells 8 w2 g 0 cs.toArray := by
      unfold HoldsK
      rw [flat_cells]
      exact holds_of_has hh
    have HH := hide hH
    clear hH hh ho hv' hg4 hg5 hb1 hb2
    go_wp2_with (first | (go_at_call 38; go_in) | fail)
    have hcap : cs.toArray.size = cs.length := by simp
    have hrev := AnyQ.slices_Reverse Try.reverseCy 8 Try.isAgg39 Try.sizeOf39 C8.cells (fun _ => rfl) cells_one g 0 cs.length cs.toArray w2 HH.out (by simp; omega)
    rw [hcap] at hrev
    refine hrev.mono ?_
    rintro e w3 ⟨rfl, q, rfl⟩
    clear hcap hrev
    go_wp2_with fail
    go_ret2
    refine ⟨_, by rw [Hfin.out]; rfl, ?_, ?_⟩
    · rw [Hfin.out]
      show Has _ w.heap.size 8 _ cs.reverse.length (cyCells cs.reverse)
      rw [List.length_reverse]
      unfold putRowK
      first | rw [flat_cells] | rw [List.reverse_toArray, flat_cells]
      exact has_base (has_putRow H1.out (by rw [cyCells_len, List.length_reverse])) hB
    · exact Lib.below_putRow hb12 (by omega)
  · have Hin : Hid (polyB cs = false) := by simpa [Hid] using hin
    have Hfin : Hid (backRes cs = ([], false)) := by simp [backRes, hin, Hid]
    clear hin hr
    go_enter Try.func21, Try.ntmps21
    go_wp2_with fail
    refine (polyImpl_ok _ cs _ Hr.out hn).mono ?_
    rintro e w1 ⟨rfl, hb1⟩
    rw [Hin.out]
    go_wp2_with fail
    go_ret2
    exact ⟨_, by rw [Hfin.out]; rfl, by rw [Hfin.out]; exact has_nil _ _ _, hb1⟩

end Go.Proofs.Ytmobajlakelidaa
