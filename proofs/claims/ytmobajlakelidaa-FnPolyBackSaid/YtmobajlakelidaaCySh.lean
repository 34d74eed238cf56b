/-
  RowShift of the program and of the reference.
-/
import Derived.Test.YtmobajlakelidaaCyV
namespace Go.Proofs.Ytmobajlakelidaa
open Go.RowKit

def shiftAt (cs : List C8) (M i : Nat) : C8 := cs.getD ((i + M) % cs.length) zero8
def shiftList (cs : List C8) (M t : Nat) : List C8 := (List.range t).map (shiftAt cs M)
def shiftRes (cs : List C8) (m : Int) : List C8 × Bool := if rowB cs = true ∧ 0 ≤ m ∧ m ≤ 23 then (shiftList cs m.toNat cs.length, true) else ([], false)
def CyPost (r : List C8 × Bool) (w : World) (e : Ending) (w' : World) : Prop :=
  ∃ v, e = .returned (.tuple #[v, .bool r.2]) ∧ Has w' w.heap.size 8 v r.1.length (cyCells r.1) ∧ Below w.heap.size w w'

theorem has_nil (w : World) (B size : Nat) : Has w B size (.slice none 0 0) 0 [] := ⟨by simp, by omega, .inl ⟨rfl, rfl⟩⟩

theorem shiftList_len (cs : List C8) (M t : Nat) : (shiftList cs M t).length = t := by simp [shiftList]

theorem shiftList_succ (cs : List C8) (M t : Nat) : cyCells (shiftList cs M (t + 1)) = cyCells (shiftList cs M t) ++ (shiftAt cs M t).cells := by
  simp [shiftList, List.range_succ, cyCells]

theorem rowB_len {cs : List C8} (h : rowB cs = true) : 1 ≤ cs.length ∧ cs.length ≤ 24 := by
  simp only [rowB, divB, Bool.and_eq_true, decide_eq_true_eq] at h
  exact ⟨h.2.1, h.2.2.1⟩

theorem shift_q (cs : List C8) (M t : Nat) (h : 1 ≤ cs.length) : ∃ q : Nat, ((t : Int) + M).tmod cs.length = q ∧ ∃ hq : q < cs.length, shiftAt cs M t = cs[q] := by
  have hlt := Nat.mod_lt (t + M) (show 0 < cs.length by omega)
  refine ⟨(t + M) % cs.length, rfl, hlt, ?_⟩
  simp [shiftAt, List.getD_eq_getElem?_getD, hlt]

set_option maxHeartbeats 2000000 in
theorem shiftSpec_ok (v : Value) (cs : List C8) (m : Int) (w : World) (hr : Reads w 8 v cs.length (cyCells cs)) (hn : cs.length ≤ 1048576) :
    Calls Try.prog 16 #[v, .int .i64 m] w (CyPost (shiftRes cs m) w) := by
  obtain ⟨i0, hi, hz0, hz1, hz2⟩ := info_parts Try.infoCy
  have Hr := hide hr
  have Hrk := hide (reads_kept Hr.out (kept_new w (.cells #[] 39)))
  have hr1 := kept_new w (.cells #[] 39)
  have ho1 : (w.alloc (.cells #[] 39)).ownsRow w.heap.size 39 8 (.slice (some ⟨w.heap.size, 0, none⟩) 0 0) 0 [] := by
    simpa using World.ownsRow_lit (base := w.heap.size) (e := 39) (size := 8) w #[] 0 (Nat.le_refl _) (by decide) (by simp)
  obtain ⟨_, hm, A, c, rfl, hc⟩ := hr
  by_cases hin : rowB cs = true
  · by_cases hm2 : 0 ≤ m ∧ m ≤ 23
    · obtain ⟨M, rfl⟩ := Int.eq_ofNat_of_zero_le hm2.1
      have hM : M ≤ 23 := by omega
      have Hfin : Hid (shiftRes cs M = (shiftList cs M cs.length, true)) := by simp [shiftRes, hin, Hid]; omega
      have Hin := hide hin
      obtain ⟨hl1, hl2⟩ := rowB_len hin
      clear hin hm2
      go_enter Try.func16, Try.ntmps16
      go_wp2_with fail
      refine (rowSpec_ok _ cs _ Hrk.out hn).mono ?_
      rintro e w1 ⟨rfl, hb1⟩
      rw [Hin.out]
      go_wp2_with fail
      refine (l6In_t _ _ _ _ (by omega) (by omega)).mono ?_
      rintro e w2 ⟨rfl, rfl⟩
      have ho2 := owns_kept ho1 hb1
      have hb1' := kept_trans hr1 hb1
      go_wp2_with fail
      go_loopw [6, 7] (fun v i wr => ∃ (t g cap : Nat), t ≤ cs.length ∧ i = .int .i64 t ∧ v = .slice (some ⟨g, 0, none⟩) t cap ∧ wr.ownsRow w.heap.size 39 8 (.slice (some ⟨g, 0, none⟩) t cap) t (cyCells (shiftList cs M t)) ∧ Below w.heap.size w wr) (fun _ i _ => cs.length - (intOf i).toNat)
      case atStart => exact ⟨0, _, _, by omega, rfl, rfl, by simpa [shiftList, cyCells] using ho2, hb1'⟩
      case round =>
        obtain ⟨t, g, cap, ht, rfl, rfl, ho, hb⟩ := hrel
        clear ho2 hb1'
        by_cases hlt : t < cs.length
        · obtain ⟨b, o, rfl, hbl, hcell⟩ := hc (by omega) (by omega)
          obtain ⟨q, hq, hqn, hsq⟩ := shift_q cs M t hl1
          have hA := cyc_cells (below_cells hb hbl hcell) q hqn
          have hs := shiftList_succ cs M t
          rw [hsq] at hs
          clear hcell hc hsq
          generalize cs[q] = p at hA hs
          have Hs := hide hs
          clear hs
          obtain ⟨p0, p1, p2, p3, p4, p5, p6, p7⟩ := hA
          have hz : ¬ (cs.length : Int) = 0 := by omega
          have i1 : IntKind.i64.wrap ((t : Int) + M) = (t : Int) + M := IntWalk.i64_in _ (by omega)
          have i2 : IntKind.i64.wrap (((t : Int) + M).tmod cs.length) = (q : Int) := by rw [hq]; exact IntWalk.i64_in _ (by omega)
          have i3 : (0 : Int) ≤ (q : Int) := by omega
          have i4 : (q : Int) < (cs.length : Int) := by omega
          go_wp2_with (at_builtin; refine wpList_append_one wr rfl _ _ 25 rfl w.heap.size 39 i0 _ 8 64 Try.underlying25 hi hz0 hz1 hz2 rfl (by decide) _ _ _ rfl ho p.cells _ _ rfl rfl (by simp [Value.oneCell', C8.cells]) (by omega) (by decide) hb.size rfl (by simp) ?_)
          intro g' cap' w3 ho4 hg3 hr3
          have hk5 := kept_grown hb hg3 hr3
          clear ho hg3
          go_wp2_with fail
          go_roundw
          case rel => exact ⟨t + 1, g', cap', by omega, by go_num, rfl, by rw [Hs.out]; exact ho4, hk5⟩
          case measure => simp [intOf]; omega
        · obtain rfl : t = cs.length := by omega
          have hh := has_owns ho
          clear ho
          go_wp2_with fail
          go_ret2
          exact ⟨_, by rw [Hfin.out]; rfl, by rw [Hfin.out, shiftList_len]; exact hh, hb⟩
    · have Hfin : Hid (shiftRes cs m = ([], false)) := by simp only [shiftRes, Hid]; rw [if_neg (fun h => hm2 h.2)]
      have Hm2 := hide hm2
      have Hin := hide hin
      clear hin hm2
      go_enter Try.func16, Try.ntmps16
      go_wp2_with fail
      refine (rowSpec_ok _ cs _ Hrk.out hn).mono ?_
      rintro e w1 ⟨rfl, hb1⟩
      rw [Hin.out]
      go_wp2_with fail
      refine (l6In_f _ _ _ _ Hm2.out).mono ?_
      rintro e w2 ⟨rfl, rfl⟩
      go_wp2_with fail
      go_ret2
      exact ⟨_, by rw [Hfin.out]; rfl, by rw [Hfin.out]; exact has_owns (owns_kept ho1 hb1), kept_trans hr1 hb1⟩
  · have Hin : Hid (rowB cs = false) := by simpa [Hid] using hin
    have Hfin : Hid (shiftRes cs m = ([], false)) := by simp [shiftRes, hin, Hid]
    clear hin
    go_enter Try.func16, Try.ntmps16
    go_wp2_with fail
    refine (rowSpec_ok _ cs _ Hrk.out hn).mono ?_
    rintro e w1 ⟨rfl, hb1⟩
    rw [Hin.out]
    go_wp2_with fail
    go_ret2
    exact ⟨_, by rw [Hfin.out]; rfl, by rw [Hfin.out]; exact has_owns (owns_kept ho1 hb1), kept_trans hr1 hb1⟩

set_option maxHeartbeats 2000000 in
theorem shiftImpl_ok (v : Value) (cs : List C8) (m : Int) (w : World) (hr : Reads w 8 v cs.length (cyCells cs)) (hn : cs.length ≤ 1048576) :
    Calls Try.prog 17 #[v, .int .i64 m] w (CyPost (shiftRes cs m) w) := by
  obtain ⟨i0, hi, hz0, hz1, hz2⟩ := info_parts Try.infoCy
  have Hr := hide hr
  obtain ⟨_, hm, A, c, rfl, hc⟩ := hr
  by_cases hin : rowB cs = true
  · by_cases hm2 : 0 ≤ m ∧ m ≤ 23
    · obtain ⟨M, rfl⟩ := Int.eq_ofNat_of_zero_le hm2.1
      have hM : M ≤ 23 := by omega
      have Hfin : Hid (shiftRes cs M = (shiftList cs M cs.length, true)) := by simp [shiftRes, hin, Hid]; omega
      have Hin := hide hin
      obtain ⟨hl1, hl2⟩ := rowB_len hin
      clear hin hm2
      go_enter Try.func17, Try.ntmps17
      go_wp2_with fail
      refine (rowImpl_ok _ cs _ Hr.out hn).mono ?_
      rintro e w1 ⟨rfl, hb1⟩
      rw [Hin.out]
      go_wp2_with fail
      refine (within_t _ _ _ _ (by omega) (by omega)).mono ?_
      rintro e w2 ⟨rfl, rfl⟩
      go_wp2_with (at_make; refine wpList_make_own _ rfl _ _ 25 rfl w.heap.size 39 i0 _ 8 Try.underlying25 hi hz0 hz1 _ _ _ cs.length rfl rfl rfl (by rw [hz2]; omega) (by unfold maxLen; omega) hb1.size ?_)
      intro w3 ho2 hgrow
      have hb1' := kept_grown hb1 hgrow (by simp)
      clear hgrow hb1
      go_wp2_with fail
      go_loopw [6, 21] (fun v i wr => ∃ (t g cap : Nat), t ≤ cs.length ∧ i = .int .i64 t ∧ v = .slice (some ⟨g, 0, none⟩) t cap ∧ wr.ownsRow w.heap.size 39 8 (.slice (some ⟨g, 0, none⟩) t cap) t (cyCells (shiftList cs M t)) ∧ Below w.heap.size w wr) (fun _ i _ => cs.length - (intOf i).toNat)
      case atStart => exact ⟨0, _, _, by omega, rfl, rfl, by simpa [shiftList, cyCells] using ho2, hb1'⟩
      case round =>
        obtain ⟨t, g, cap, ht, rfl, rfl, ho, hb⟩ := hrel
        clear ho2 hb1'
        by_cases hlt : t < cs.length
        · obtain ⟨b, o, rfl, hbl, hcell⟩ := hc (by omega) (by omega)
          obtain ⟨q, hq, hqn, hsq⟩ := shift_q cs M t hl1
          have hA := cyc_cells (below_cells hb hbl hcell) q hqn
          have hs := shiftList_succ cs M t
          rw [hsq] at hs
          clear hcell hc hsq
          generalize cs[q] = p at hA hs
          have Hs := hide hs
          clear hs
          obtain ⟨p0, p1, p2, p3, p4, p5, p6, p7⟩ := hA
          have hz : ¬ (cs.length : Int) = 0 := by omega
          have i1 : IntKind.i64.wrap ((t : Int) + M) = (t : Int) + M := IntWalk.i64_in _ (by omega)
          have i2 : IntKind.i64.wrap (((t : Int) + M).tmod cs.length) = (q : Int) := by rw [hq]; exact IntWalk.i64_in _ (by omega)
          have i3 : (0 : Int) ≤ (q : Int) := by omega
          have i4 : (q : Int) < (cs.length : Int) := by omega
          go_wp2_with (at_builtin; refine wpList_append_one wr rfl _ _ 25 rfl w.heap.size 39 i0 _ 8 64 Try.underlying25 hi hz0 hz1 hz2 rfl (by decide) _ _ _ rfl ho p.cells _ _ rfl rfl (by simp [Value.oneCell', C8.cells]) (by omega) (by decide) hb.size rfl (by simp) ?_)
          intro g' cap' w3 ho4 hg3 hr3
          have hk5 := kept_grown hb hg3 hr3
          clear ho hg3
          go_wp2_with fail
          go_roundw
          case rel => exact ⟨t + 1, g', cap', by omega, by go_num, rfl, by rw [Hs.out]; exact ho4, hk5⟩
          case measure => simp [intOf]; omega
        · obtain rfl : t = cs.length := by omega
          have hh := has_owns ho
          clear ho
          go_wp2_with fail
          go_ret2
          exact ⟨_, by rw [Hfin.out]; rfl, by rw [Hfin.out, shiftList_len]; exact hh, hb⟩
    · have Hfin : Hid (shiftRes cs m = ([], false)) := by simp only [shiftRes, Hid]; rw [if_neg (fun h => hm2 h.2)]
      have Hm2 := hide hm2
      have Hin := hide hin
      clear hin hm2
      go_enter Try.func17, Try.ntmps17
      go_wp2_with fail
      refine (rowImpl_ok _ cs _ Hr.out hn).mono ?_
      rintro e w1 ⟨rfl, hb1⟩
      rw [Hin.out]
      go_wp2_with fail
      refine (within_f _ _ _ _ Hm2.out).mono ?_
      rintro e w2 ⟨rfl, rfl⟩
      go_wp2_with fail
      go_ret2
      exact ⟨_, by rw [Hfin.out]; rfl, by rw [Hfin.out]; exact has_nil _ _ _, hb1⟩
  · have Hin : Hid (rowB cs = false) := by simpa [Hid] using hin
    have Hfin : Hid (shiftRes cs m = ([], false)) := by simp [shiftRes, hin, Hid]
    clear hin
    go_enter Try.func17, Try.ntmps17
    go_wp2_with fail
    refine (rowImpl_ok _ cs _ Hr.out hn).mono ?_
    rintro e w1 ⟨rfl, hb1⟩
    rw [Hin.out]
    go_wp2_with fail
    go_ret2
    exact ⟨_, by rw [Hfin.out]; rfl, by rw [Hfin.out]; exact has_nil _ _ _, hb1⟩

end Go.Proofs.Ytmobajlakelidaa
