/-
  PathOf, both sides.
-/
import Derived.Test.YtnlmiemnblppbaaPa
import Derived.Test.YtnlmiemnblppbaaCyV
import Derived.Test.YtnlmiemnblppbaaSg
namespace Go.Proofs.Ytnlmiemnblppbaa
open Go.RowKit

theorem Try.infoCo : (Try.prog.info? 46).map (fun i => (i.zero, i.size, i.bytes)) = some (some (.complex .f32 0 0), 1, 8) := by kernel_rfl

/-- The single points of the first t. -/
def sPts (cs : List C8) (t : Nat) : List (Nat × Nat) := (cs.take t).map fun c => sumZ c 8
theorem sPts_len (cs : List C8) (t : Nat) (h : t ≤ cs.length) : (sPts cs t).length = t := by simp [sPts]; omega
theorem sPts_succ (cs : List C8) (t : Nat) (h : t < cs.length) : cCells (sPts cs (t + 1)) = cCells (sPts cs t) ++ [.complex .f32 (sumZ cs[t] 8).1 (sumZ cs[t] 8).2] := by
  simp only [sPts, cCells, List.take_succ_eq_append_getElem h, List.map_append, List.map_cons, List.map_nil, cpx]

def poRes (cs : List C8) : List (Nat × Nat) × Bool := if rowB cs = true then pathRes (sPts cs cs.length) else ([], false)

def PoPost (r : List (Nat × Nat) × Bool) (w : World) (e : Ending) (w' : World) : Prop :=
  ∃ v, e = .returned (.tuple #[v, .bool r.2]) ∧ Has w' w.heap.size 1 v r.1.length (cCells r.1) ∧ Below w.heap.size w w'

/-- .. and the slice has room for what it holds. -/
def PoPostC (r : List (Nat × Nat) × Bool) (w : World) (e : Ending) (w' : World) : Prop :=
  ∃ v, e = .returned (.tuple #[v, .bool r.2]) ∧ Has w' w.heap.size 1 v r.1.length (cCells r.1) ∧ Below w.heap.size w w' ∧ ∃ A n c, v = .slice A n c ∧ n ≤ c

theorem po_cap {w : World} {B : Nat} {e : TypeId} {size g n cap : Nat} {xs : List Value} (h : w.ownsRow B e size (.slice (some ⟨g, 0, none⟩) n cap) n xs) : n ≤ cap := by
  rcases h.2 with ⟨h', _⟩ | ⟨g', cap', cur, h', _, _, h3, _⟩
  · simp at h'
  · simp only [Value.slice.injEq, Option.some.injEq, Addr.mk.injEq, and_true, true_and] at h'
    omega

theorem row_small {cs : List C8} (h : rowB cs = true) : 1 ≤ cs.length ∧ cs.length ≤ 24 ∧ ∀ t (h : t < cs.length), (cs[t]).small 1000000 := by
  simp only [rowB, Bool.and_eq_true, divB, decide_eq_true_eq] at h
  refine ⟨h.2.1, h.2.2.1, fun t ht => ?_⟩
  have := List.all_eq_true.1 h.1 _ (List.getElem_mem ht)
  exact of_decide_eq_true this

set_option maxRecDepth 100000 in
set_option maxHeartbeats 2000000 in
theorem specPOC_ok (v : Value) (cs : List C8) (w : World) (hr : Reads w 8 v cs.length (cyCells cs)) (hn : cs.length ≤ 1048576) :
    Calls Try.prog 17 #[v] w (PoPostC (poRes cs) w) := by
  obtain ⟨i0, hi, hz0, hz1, hz2⟩ := info_parts Try.infoCo
  have ho1 := World.ownsRow_lit (base := w.heap.size) (e := 46) (size := 1) w #[] 0 (Nat.le_refl _) (by decide) (by simp)
  have hb1 := kept_new w (.cells #[] 46)
  have Hrk := hide (reads_kept hr hb1)
  obtain ⟨_, hm, A, c, rfl, hc⟩ := hr
  cases hin : rowB cs with
  | false =>
    have Hfin : Hid (poRes cs = ([], false)) := by simp [poRes, hin, Hid]
    have Hin := hide hin
    have Ho1 := hide (has_owns ho1)
    clear hin ho1 hc
    go_enter Try.func17, Try.ntmps17
    go_wp2_with fail
    refine (rowSpec_ok _ cs _ Hrk.out hn).mono ?_
    rintro e w1 ⟨rfl, hb2⟩
    rw [Hin.out]
    go_wp2_with fail
    go_ret2
    exact ⟨_, by rw [Hfin.out]; rfl, by rw [Hfin.out]; exact has_kept Ho1.out hb2, kept_trans hb1 hb2, _, _, _, rfl, Nat.le_refl _⟩
  | true =>
    obtain ⟨hl1, hl2, hsm⟩ := row_small hin
    have Hfin : Hid (poRes cs = pathRes (sPts cs cs.length)) := by rw [Hid, poRes, if_pos hin]
    have Hin := hide hin
    have Hsm := hide hsm
    clear hin hsm
    go_enter Try.func17, Try.ntmps17
    go_wp2_with fail
    refine (rowSpec_ok _ cs _ Hrk.out hn).mono ?_
    rintro e w1 ⟨rfl, hb2⟩
    rw [Hin.out]
    have ho2 := owns_kept ho1 hb2
    have hb02 := kept_trans hb1 hb2
    clear ho1 hb1 hb2 Hrk
    go_wp2_with fail
    go_loopw [4, 5] (fun v i wr => ∃ (t g cap : Nat), t ≤ cs.length ∧ i = .int .i64 t ∧ v = .slice (some ⟨g, 0, none⟩) t cap ∧ wr.ownsRow w.heap.size 46 1 (.slice (some ⟨g, 0, none⟩) t cap) t (cCells (sPts cs t)) ∧ Below w.heap.size w wr) (fun _ i _ => cs.length - (intOf i).toNat)
    case atStart => exact ⟨0, _, _, by omega, rfl, rfl, ho2, hb02⟩
    case round =>
      obtain ⟨t, g, cap, ht, rfl, rfl, ho, hb⟩ := hrel
      clear ho2 hb02
      by_cases hlt : t < cs.length
      · obtain ⟨b, o, rfl, hbl, hcell⟩ := hc (by omega) (by omega)
        have hA := cyc_cells (below_cells hb hbl hcell) t hlt
        have hs := sPts_succ cs t hlt
        have hsi := fun W => specSingle_ok cs[t] W (Hsm.out t hlt)
        clear hcell hc
        generalize cs[t] = p at hA hs hsi
        have Hs := hide hs
        clear hs
        obtain ⟨p0, p1, p2, p3, p4, p5, p6, p7⟩ := hA
        rw [val_spell] at hsi
        have Hsi := hide hsi
        clear hsi
        go_wp2_with fail
        refine (Hsi.out _).mono ?_
        rintro e w2 ⟨rfl, hb2⟩
        have ho3 := owns_kept ho hb2
        have hb3 := kept_trans hb hb2
        clear ho hb hb2 p0 p1 p2 p3 p4 p5 p6 p7
        go_wp2_with (at_builtin; refine wpList_append_one w2 rfl _ _ 26 rfl w.heap.size 46 i0 _ 1 8 Try.underlying26 hi hz0 hz1 hz2 rfl (by decide) _ _ _ rfl ho3 [.complex .f32 (sumZ p 8).1 (sumZ p 8).2] _ _ rfl rfl (by simp [Value.oneCell']) (by omega) (by decide) hb3.size rfl (by simp) ?_)
        intro g' cap' w3 ho4 hg4 hr4
        have hk4 := kept_grown hb3 hg4 hr4
        clear ho3 hg4
        go_wp2_with fail
        go_roundw
        case rel => exact ⟨t + 1, g', cap', by omega, by go_num, rfl, by rw [Hs.out]; exact ho4, hk4⟩
        case measure => simp [intOf]; omega
      · obtain rfl : t = cs.length := by omega
        have hpv := fun W => specPath_ok (.slice (some ⟨g, 0, none⟩) cs.length cap) (sPts cs cs.length) W
        have hlen := sPts_len cs cs.length (Nat.le_refl _)
        unfold pathRes at Hfin
        have Hhas := hide (has_owns ho)
        have hcap := po_cap ho
        rw [hlen] at hpv
        have hrd := owns_reads ho
        clear ho hc
        cases hok : pathOk (sPts cs cs.length) with
        | false =>
          rw [hok] at hpv
          have Hpv := hide hpv
          have Hf2 : Hid (poRes cs = ([], false)) := by rw [Hid, Hfin.out, hok]; simp
          clear hpv hok
          have ho2 := World.ownsRow_lit (base := w.heap.size) (e := 46) (size := 1) wr #[] 0 hb.size (by decide) (by simp)
          have hb2 := kept_alloc hb (.cells #[] 46)
          go_wp2_with fail
          refine (Hpv.out _ hrd).mono ?_
          rintro e w1 ⟨rfl, rfl⟩
          go_wp2_with fail
          go_ret2
          exact ⟨_, by rw [Hf2.out]; rfl, by rw [Hf2.out]; exact has_owns ho2, hb2, _, _, _, rfl, Nat.le_refl _⟩
        | true =>
          rw [hok] at hpv
          have Hpv := hide hpv
          have Hf2 : Hid (poRes cs = (sPts cs cs.length, true)) := by rw [Hid, Hfin.out, hok]; simp
          clear hpv hok
          go_wp2_with fail
          refine (Hpv.out _ hrd).mono ?_
          rintro e w1 ⟨rfl, rfl⟩
          go_wp2_with fail
          go_ret2
          exact ⟨_, by rw [Hf2.out]; rfl, by rw [Hf2.out]; dsimp only; rw [hlen]; exact Hhas.out, hb, _, _, _, rfl, hcap⟩

theorem specPO_ok (v : Value) (cs : List C8) (w : World) (hr : Reads w 8 v cs.length (cyCells cs)) (hn : cs.length ≤ 1048576) :
    Calls Try.prog 17 #[v] w (PoPost (poRes cs) w) :=
  (specPOC_ok v cs w hr hn).mono fun _ _ ⟨v, h1, h2, h3, _⟩ => ⟨v, h1, h2, h3⟩

theorem po_nil (w : World) (B : Nat) : Has w B 1 (.slice none 0 0) 0 (cCells []) := ⟨rfl, by decide, .inl ⟨rfl, rfl⟩⟩

set_option maxRecDepth 100000 in
set_option maxHeartbeats 2000000 in
theorem implPO_ok (v : Value) (cs : List C8) (w : World) (hr : Reads w 8 v cs.length (cyCells cs)) (hn : cs.length ≤ 1048576) :
    Calls Try.prog 19 #[v] w (PoPost (poRes cs) w) := by
  obtain ⟨i0, hi, hz0, hz1, hz2⟩ := info_parts Try.infoCo
  have Hr := hide hr
  obtain ⟨_, hm, A, c, rfl, hc⟩ := hr
  cases hin : rowB cs with
  | false =>
    have Hfin : Hid (poRes cs = ([], false)) := by simp [poRes, hin, Hid]
    have Hin := hide hin
    clear hin hc
    go_enter Try.func19, Try.ntmps19
    go_wp2_with fail
    refine (rowImpl_ok _ cs _ Hr.out hn).mono ?_
    rintro e w1 ⟨rfl, hb2⟩
    rw [Hin.out]
    go_wp2_with fail
    go_ret2
    exact ⟨_, by rw [Hfin.out]; rfl, by rw [Hfin.out]; exact po_nil _ _, hb2⟩
  | true =>
    obtain ⟨hl1, hl2, hsm⟩ := row_small hin
    have Hfin : Hid (poRes cs = pathRes (sPts cs cs.length)) := by rw [Hid, poRes, if_pos hin]
    have Hin := hide hin
    have Hsm := hide hsm
    clear hin hsm
    go_enter Try.func19, Try.ntmps19
    go_wp2_with fail
    refine (rowImpl_ok _ cs _ Hr.out hn).mono ?_
    rintro e w1 ⟨rfl, hb1⟩
    rw [Hin.out]
    go_wp2_with (at_make; refine wpList_make_own _ rfl _ _ 26 rfl w.heap.size 46 i0 _ 1 Try.underlying26 hi hz0 hz1 _ _ _ cs.length rfl rfl rfl (by rw [hz2]; omega) (by unfold maxLen; omega) hb1.size ?_)
    intro w2 hout hgr
    have hb2 := kept_trans hb1 (kept_of_grown hgr)
    clear hgr hb1
    go_wp2_with fail
    go_loopw [4, 15] (fun v i wr => ∃ (t g cap : Nat), t ≤ cs.length ∧ i = .int .i64 t ∧ v = .slice (some ⟨g, 0, none⟩) t cap ∧ wr.ownsRow w.heap.size 46 1 (.slice (some ⟨g, 0, none⟩) t cap) t (cCells (sPts cs t)) ∧ Below w.heap.size w wr) (fun _ i _ => cs.length - (intOf i).toNat)
    case atStart => exact ⟨0, _, _, by omega, rfl, rfl, hout, hb2⟩
    case round =>
      obtain ⟨t, g, cap, ht, rfl, rfl, ho, hb⟩ := hrel
      clear hout hb2
      by_cases hlt : t < cs.length
      · obtain ⟨b, o, rfl, hbl, hcell⟩ := hc (by omega) (by omega)
        have hA := cyc_cells (below_cells hb hbl hcell) t hlt
        have hs := sPts_succ cs t hlt
        have hsi := fun W => single_ok cs[t] W (Hsm.out t hlt)
        have hbox := boxed wr cs[t] 51
        clear hcell hc
        generalize cs[t] = p at hA hs hsi hbox
        have Hs := hide hs
        clear hs
        obtain ⟨p0, p1, p2, p3, p4, p5, p6, p7⟩ := hA
        rw [val_spell] at hsi
        have Hsi := hide hsi
        clear hsi
        have b0 := hbox 0 (by decide)
        have b1 := hbox 1 (by decide)
        have b2 := hbox 2 (by decide)
        have b3 := hbox 3 (by decide)
        have b4 := hbox 4 (by decide)
        have b5 := hbox 5 (by decide)
        have b6 := hbox 6 (by decide)
        have b7 := hbox 7 (by decide)
        clear hbox
        have ho1 := owns_kept ho (kept_new wr (.cells #[.int .i64 p.a0, .int .i64 p.a1, .int .i64 p.a2, .int .i64 p.a3, .int .i64 p.a4, .int .i64 p.a5, .int .i64 p.a6, .int .i64 p.a7] 51))
        have hb1 := kept_alloc hb (.cells #[.int .i64 p.a0, .int .i64 p.a1, .int .i64 p.a2, .int .i64 p.a3, .int .i64 p.a4, .int .i64 p.a5, .int .i64 p.a6, .int .i64 p.a7] 51)
        go_wp2_with fail
        refine (Hsi.out _).mono ?_
        rintro e w2 ⟨rfl, hb2⟩
        have ho3 := owns_kept ho1 hb2
        have hb3 := kept_trans hb1 hb2
        clear ho ho1 hb hb1 hb2 p0 p1 p2 p3 p4 p5 p6 p7 b0 b1 b2 b3 b4 b5 b6 b7
        go_wp2_with (at_builtin; refine wpList_append_one w2 rfl _ _ 26 rfl w.heap.size 46 i0 _ 1 8 Try.underlying26 hi hz0 hz1 hz2 rfl (by decide) _ _ _ rfl ho3 [.complex .f32 (sumZ p 8).1 (sumZ p 8).2] _ _ rfl rfl (by simp [Value.oneCell']) (by omega) (by decide) hb3.size rfl (by simp) ?_)
        intro g' cap' w3 ho4 hg4 hr4
        have hk4 := kept_grown hb3 hg4 hr4
        clear ho3 hg4
        go_wp2_with fail
        go_roundw
        case rel => exact ⟨t + 1, g', cap', by omega, by go_num, rfl, by rw [Hs.out]; exact ho4, hk4⟩
        case measure => simp [intOf]; omega
      · obtain rfl : t = cs.length := by omega
        have hlen := sPts_len cs cs.length (Nat.le_refl _)
        have ho' : Has wr w.heap.size 1 (.slice (some ⟨g, 0, none⟩) (sPts cs cs.length).length cap) (sPts cs cs.length).length (cCells (sPts cs cs.length)) := by rw [hlen]; exact has_owns ho
        have hpm := fun W h => pathMade_ok w.heap.size g cap (sPts cs cs.length) W h (by rw [hlen]; exact po_cap ho)
        rw [← Hfin.out] at hpm
        rw [hlen] at hpm ho'
        have Hpm := hide (hpm _ ho')
        clear hpm ho' ho hc
        go_wp2_with fail
        refine Hpm.out.mono ?_
        rintro e w1 ⟨⟨v', rfl, hh⟩, rfl⟩
        go_wp2_with fail
        go_ret2
        exact ⟨_, rfl, hh, hb⟩

end Go.Proofs.Ytnlmiemnblppbaa
