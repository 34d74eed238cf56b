/-
  PolyBack of the reference.
-/
import Derived.Test.YtmobajlakelidaaCySh
namespace Go.Proofs.Ytmobajlakelidaa
open Go.RowKit

def backRes (cs : List C8) : List C8 × Bool := if polyB cs = true then (cs.reverse, true) else ([], false)

theorem polyB_len {cs : List C8} (h : polyB cs = true) : 1 ≤ cs.length ∧ cs.length ≤ 48 := by
  simp only [polyB, Bool.and_eq_true, decide_eq_true_eq] at h
  exact h.2

theorem back_succ (cs : List C8) (q : Nat) (h : q < cs.length) : cyCells (cs.reverse.take (cs.length - q)) = cyCells (cs.reverse.take (cs.length - (q + 1))) ++ (cs[q]).cells := by
  have e : cs.length - q = cs.length - (q + 1) + 1 := by omega
  rw [e, cyCells_succ _ _ (by simp; omega)]
  congr 2
  rw [List.getElem_reverse]
  congr 1
  omega

set_option maxHeartbeats 2000000 in
theorem backSpec_ok (v : Value) (cs : List C8) (w : World) (hr : Reads w 8 v cs.length (cyCells cs)) (hn : cs.length ≤ 1048576) :
    Calls Try.prog 20 #[v] w (CyPost (backRes cs) w) := by
  obtain ⟨i0, hi, hz0, hz1, hz2⟩ := info_parts Try.infoCy
  have Hr := hide hr
  have Hrk := hide (reads_kept Hr.out (kept_new w (.cells #[] 39)))
  have hr1 := kept_new w (.cells #[] 39)
  have ho1 : (w.alloc (.cells #[] 39)).ownsRow w.heap.size 39 8 (.slice (some ⟨w.heap.size, 0, none⟩) 0 0) 0 [] := by
    simpa using World.ownsRow_lit (base := w.heap.size) (e := 39) (size := 8) w #[] 0 (Nat.le_refl _) (by decide) (by simp)
  obtain ⟨_, hm, A, c, rfl, hc⟩ := hr
  by_cases hin : polyB cs = true
  · have Hfin : Hid (backRes cs = (cs.reverse, true)) := by simp [backRes, hin, Hid]
    have Hin := hide hin
    obtain ⟨hl1, hl2⟩ := polyB_len hin
    clear hin
    go_enter Try.func20, Try.ntmps20
    go_wp2_with fail
    refine (polySpec_ok _ cs _ Hrk.out hn).mono ?_
    rintro e w1 ⟨rfl, hb1⟩
    rw [Hin.out]
    have ho2 := owns_kept ho1 hb1
    have hb1' := kept_trans hr1 hb1
    go_wp2_with fail
    go_loopw [4, 5] (fun v i wr => ∃ (r g cap : Nat), r ≤ cs.length ∧ i = .int .i64 ((r : Int) - 1) ∧ v = .slice (some ⟨g, 0, none⟩) (cs.length - r : Nat) cap ∧ wr.ownsRow w.heap.size 39 8 (.slice (some ⟨g, 0, none⟩) (cs.length - r) cap) (cs.length - r) (cyCells (cs.reverse.take (cs.length - r))) ∧ Below w.heap.size w wr) (fun _ i _ => (intOf i + 1).toNat)
    case atStart => exact ⟨cs.length, _, _, by omega, rfl, by simp; exact ⟨rfl, rfl⟩, by simpa [cyCells] using ho2, hb1'⟩
    case round =>
      obtain ⟨r, g, cap, ht, rfl, rfl, ho, hb⟩ := hrel
      clear ho2 hb1'
      by_cases hlt : 0 < r
      · obtain ⟨q, rfl⟩ : ∃ q, r = q + 1 := ⟨r - 1, by omega⟩
        obtain ⟨b, o, rfl, hbl, hcell⟩ := hc (by omega) (by omega)
        have hA := cyc_cells (below_cells hb hbl hcell) q (by omega)
        have hs := back_succ cs q (by omega)
        have hqn : q < cs.length := by omega
        have hsz : cs.length - q = cs.length - (q + 1) + 1 := by omega
        clear hcell hc
        generalize cs[q] = p at hA hs
        have Hs := hide hs
        have Hsz := hide hsz
        clear hs hsz
        obtain ⟨p0, p1, p2, p3, p4, p5, p6, p7⟩ := hA
        have hq : ((q + 1 : Nat) : Int) - 1 = (q : Int) := by omega
        rw [hq]
        generalize hN : cs.length - (q + 1) = N at ho Hs Hsz ⊢
        have hN2 : N ≤ 48 := by omega
        clear hN hq
        go_wp2_with (at_builtin; refine wpList_append_one wr rfl _ _ 25 rfl w.heap.size 39 i0 _ 8 64 Try.underlying25 hi hz0 hz1 hz2 rfl (by decide) _ _ _ rfl ho p.cells _ _ rfl rfl (by simp [Value.oneCell', C8.cells]) (by omega) (by decide) hb.size rfl (by simp) ?_)
        intro g' cap' w3 ho4 hg3 hr3
        have hk5 := kept_grown hb hg3 hr3
        clear ho hg3
        go_wp2_with fail
        go_roundw
        case rel => exact ⟨q, g', cap', by omega, by go_num, by rw [Hsz.out], by rw [Hs.out, Hsz.out]; exact ho4, hk5⟩
        case measure => simp [intOf]
      · obtain rfl : r = 0 := by omega
        rw [show cs.reverse.take (cs.length - 0) = cs.reverse from List.take_of_length_le (by simp)] at ho
        have hh := has_owns ho
        clear ho
        go_wp2_with fail
        go_ret2
        exact ⟨_, by rw [Hfin.out]; rfl, by rw [Hfin.out]; simpa using hh, hb⟩
  · have Hin : Hid (polyB cs = false) := by simpa [Hid] using hin
    have Hfin : Hid (backRes cs = ([], false)) := by simp [backRes, hin, Hid]
    clear hin
    go_enter Try.func20, Try.ntmps20
    go_wp2_with fail
    refine (polySpec_ok _ cs _ Hrk.out hn).mono ?_
    rintro e w1 ⟨rfl, hb1⟩
    rw [Hin.out]
    go_wp2_with fail
    go_ret2
    exact ⟨_, by rw [Hfin.out]; rfl, by rw [Hfin.out]; exact has_owns (owns_kept ho1 hb1), kept_trans hr1 hb1⟩

end Go.Proofs.Ytmobajlakelidaa
