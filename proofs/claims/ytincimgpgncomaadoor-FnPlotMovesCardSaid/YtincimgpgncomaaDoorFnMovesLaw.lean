/-
  Moves are units: the law FnPlotMoves answers true at every code. No condition of ours; the card's own: unicode/utf8.acceptRanges and unicode/utf8.first hold what the program's text lays.
-/
import Derived.Test.YtincimgpgncomaaDoorLq
import Derived.Test.YtincimgpgncomaaDoorDw
import Derived.Test.YtincimgpgncomaaDoorWit
import Derived.Test.YtincimgpgncomaaDoorMo
import Derived.ChangeMaps5
namespace Go.Proofs.YtincimgpgncomaaDoor
open Go.ChangeShapes Go.WideShapes Go.RowKit
open Go.ChangeMaps (open_string shut_string)

theorem moves_unit (r : Option (List UInt8)) : ∀ m ∈ (movesRes r).1, m = (1, 0) ∨ m = (0, 1) ∨ m = (-1, 0) ∨ m = (0, -1) := by
  unfold movesRes
  split
  · intro m hm; cases hm
  · split
    · intro m hm; cases hm
    · exact run_units _

theorem sub_reads {w : World} {b o c : Nat} {ms : List (Int × Int)} {t : Nat} (ht : t < ms.length) (hc : ∀ j, j < ms.length * 2 → w.cell? ⟨b, o + j, none⟩ = (mvCells ms)[j]?) (hb : b < w.heap.size) :
    Reads w 2 (.slice (some ⟨b, o + t * 2, none⟩) 1 c) [ms[t]].length (mvCells [ms[t]]) := by
  refine ⟨rfl, (by simp : (1 : Nat) ≤ 9223372036854775807), _, _, rfl, fun _ _ => ⟨b, o + t * 2, rfl, hb, fun j hj => ?_⟩⟩
  have hx := mvCells_x ms t ht
  have hy := mvCells_y ms t ht
  have h1 := hc (t * 2) (by omega)
  have h2 := hc (t * 2 + 1) (by omega)
  rcases (show j = 0 ∨ j = 1 by simp at hj; omega) with rfl | rfl
  · exact h1.trans (hx.trans (by simp [mvCells]))
  · exact (show w.cell? ⟨b, o + t * 2 + 1, none⟩ = _ from h2).trans (hy.trans (by simp [mvCells]))

set_option maxRecDepth 100000 in
set_option maxHeartbeats 4000000 in
theorem fnMovesLaw (A : Option Addr) (c : Nat) (bs : List Int) (w : World) (hcode : CodeIn w A c bs) :
    Calls Tryd.prog 14 #[.slice A bs.length c] w fun e w' => e = .returned (.bool true) ∧ Below w.heap.size w w' := by
  have Hcode := hide hcode
  have hm := hcode.1.2.1
  clear hcode
  by_cases hbig : 1048576 < bs.length
  · go_enter Tryd.func14, Tryd.ntmps14
    go_wp2
    go_ret
    exact ⟨rfl, Below.refl _ _⟩
  · go_enter Tryd.func14, Tryd.ntmps14
    go_wp2_with fail
    refine (drawMoves_ok A c bs _ Hcode.out).mono ?_
    rintro e w1 ⟨s, rfl, hs, hb1⟩
    clear hm hbig Hcode
    have hi := fun w => movesImplC_ok s w
    have hsp := fun w => movesSpec_ok s w
    have hl := movesRes_len (progB s)
    have hu := moves_unit (progB s)
    unfold MvPostC at hi
    unfold MvPost at hsp
    generalize movesRes (progB s) = r at *
    obtain ⟨xs, ok⟩ := r
    dsimp only at hi hsp hl hu
    have Hi := hide hi
    have Hs := hide hsp
    have Hu := hide hu
    clear hi hsp hu
    go_wp2_with fail
    refine (Hi.out _).mono ?_
    rintro e w2 ⟨v2, rfl, ho2, hb2, A2, n2, c2, hv2, hnc⟩
    have Hv2 := hide hv2
    clear hv2
    go_wp2_with fail
    refine (Hs.out _).mono ?_
    rintro e w3 ⟨v3, rfl, ho3, hb3⟩
    have ho2_3 := has_kept ho2 hb3
    have hb03 := kept_trans (kept_trans hb1 hb2) hb3
    clear hb1 hb2 hb3 ho2
    cases ok with
    | false =>
      go_wp2_with fail
      refine (sameMoves_ok _ _ xs _ (has_reads ho2_3) (has_reads ho3)).mono ?_
      rintro e w4 ⟨rfl, hb4⟩
      have ho2_4 := has_kept ho2_3 hb4
      have ho3_4 := has_kept ho3 hb4
      have hb04 := kept_trans hb03 hb4
      clear hb03 hb4 ho2_3 ho3
      go_wp2_with fail
      first
        | (refine (sameMoves_ok _ _ xs _ (has_reads ho2_4) (has_reads ho3_4)).mono ?_
           rintro e w5 ⟨rfl, hb5⟩
           go_wp2_with fail
           go_ret
           exact ⟨rfl, kept_trans hb04 hb5⟩)
        | (go_ret
           exact ⟨rfl, hb04⟩)
    | true =>
      go_wp2_with fail
      refine (sameMoves_ok _ _ xs _ (has_reads ho2_3) (has_reads ho3)).mono ?_
      rintro e w4 ⟨rfl, hb4⟩
      have ho2_4 := has_kept ho2_3 hb4
      have hb04 := kept_trans hb03 hb4
      clear hb03 hb4 ho2_3 ho3
      have Hrd := hide (has_reads ho2_4)
      obtain ⟨_, _, A', c', hv', _⟩ := has_reads ho2_4
      obtain rfl := Hv2.out
      simp only [Value.slice.injEq] at hv'
      obtain ⟨rfl, rfl, rfl⟩ := hv'
      clear ho2_4
      go_wp2_with fail
      go_loopw [8] (fun i wr => ∃ t : Nat, t ≤ xs.length ∧ i = .int .i64 t ∧ Below w4.heap.size w4 wr ∧ Below w.heap.size w wr) (fun i _ => xs.length - (intOf i).toNat)
      case atStart => exact ⟨0, by omega, rfl, Below.refl _ _, hb04⟩
      case round =>
        obtain ⟨t, ht, rfl, hk4, hkr⟩ := hrel
        by_cases hlt : t < xs.length
        · have hlt' : (t : Int) < (xs.length : Int) := by omega
          obtain ⟨_, _, A3, c3, hv3, hc3⟩ := reads_kept Hrd.out hk4
          simp only [Value.slice.injEq, true_and] at hv3
          obtain ⟨rfl, rfl⟩ := hv3
          obtain ⟨b, o, rfl, hbl, hcell⟩ := hc3 (by omega) (by omega)
          have hsub := sub_reads (c := c2 - t) hlt hcell hbl
          have hln := implLen_ok _ _ wr hsub
          rw [len_unit (Hu.out _ (List.getElem_mem hlt))] at hln
          have i1 : (0 : Int) ≤ (t : Int) := by omega
          have i2 : (t : Int) + 1 ≤ (c2 : Int) := by omega
          have i3 : ¬ c2 = t := by omega
          have Hln := hide hln
          clear hsub hln hcell hbl
          go_wp2_with fail
          refine Hln.out.mono ?_
          rintro e w5 ⟨rfl, hb5⟩
          go_wp2_with fail
          go_roundw
          case rel => exact ⟨t + 1, by omega, by go_num, kept_trans hk4 hb5, kept_trans hkr hb5⟩
          case measure => simp [intOf]; omega
        · obtain rfl : t = xs.length := by omega
          have h1' : ¬ (xs.length : Int) < (xs.length : Int) := by omega
          have h2' : (xs.length : Int) ≤ 100 := by omega
          go_wp2_with fail
          go_ret
          exact ⟨by simp, hkr⟩

set_option maxRecDepth 100000 in
theorem fnMoves_lifted (os : Os) (started : os.Started) (H : Type) (enc : TypeId × Value → H) :
    ReturnsInHanded {} Tryd.checked os 14 .any (fun w args => (Rows.fnPlotMovesSpec.pre enc Tryd.prog Tryd.f14 [] false w args ∧ laidMetH Tryd.prog theLaid w) ∧ sizedMet enc Tryd.prog Tryd.f14 (OpenSpec.ofChange Rows.fnPlotMovesSpec) false w args)
      (Rows.fnPlotMovesSpec.post enc Tryd.prog Tryd.f14 false true false false) := by
  refine returnsInHanded_of_change_and (C := Tryd.checked) (X := fun w _ => laidMetH Tryd.prog theLaid w) (fun _ _ _ hh h => h.of_heap hh) Tryd.own started (by kernel_rfl) Tryd.func14
    (ChangeSpec.witness_shaped (enc := enc) (C := Tryd.checked) (os := os) (X := fun w _ => laidMetH Tryd.prog theLaid w) false (World.laidAll Tryd.prog os theLaid) #[.slice none 0 0] 8 (World.laidAll_os _ _ _) (laidAll_shaped os) (by kernel_rfl) (by kernel_rfl) (by kernel_rfl) (laidAll_met os _)) ?_
  intro W base args ds gs before hval0 hW _ _ hL _
  have hval : ∀ (j : Nat) t v, Tryd.f14.params[j]? = some t → args[j]? = some v → Value.okWide Tryd.prog W .any base t v := hval0
  have hW' := hW
  obtain ⟨p, q, hA0, hV0, rfl, hfz, hnd⟩ := hW
  have hA : DataW.TrodAll enc Tryd.prog W 0 (fun _ => true) true Tryd.f14.params.toList args.toList ds p := hA0
  have hV : DataW.TrodVars enc Tryd.prog W (fun _ => true) [] gs q := hV0
  rw [Tryd.params14] at hA hval
  obtain ⟨rfl, rfl⟩ : gs = [] ∧ q = [] := by
    cases gs with
    | nil => exact ⟨rfl, hV⟩
    | cons g r => exact absurd hV (by intro h; cases h)
  obtain ⟨v0, d0, rfl, rfl, h0⟩ := trodAll_one hA
  have h0k := h0
  obtain ⟨a0, len, cap, rfl⟩ := okWide_slice Tryd.underlying26 (hval 0 26 v0 rfl rfl)
  obtain ⟨fuel, hf⟩ := h0
  obtain ⟨A, c, bs, hv, hr⟩ := open_bytes Tryd.underlying26 Tryd.underlying5 (by kernel_rfl) hf
  rw [hv] at h0k hval hf ⊢
  clear hA0 hval0
  simp only [List.append_nil] at hW'
  rw [hv] at hW'
  refine (fnMovesLaw A c bs W hr).mono fun e W' ⟨he, hb⟩ => ?_
  subst he
  exact ⟨_, rfl, _, _, _, [], _, [], hW', trodAll_mk1 (shut_bool Tryd.underlying4 _), trodAll_mk1 (Below.trod Tryd.laidOut (by kernel_rfl) (of_decide_eq_true (by kernel_rfl)) h0k hb (fun x hx => by simpa using hW'.lt x hx)), rfl, hb.frame _, fun h => by cases h⟩

theorem fnMoves_row : Rows.FnPlotMovesSaid :=
  OpenClaim.holds_of_wide 14 Tryd.f14 rfl rfl rfl rfl rfl rfl rfl ⟨rfl, rfl, rfl, rfl, rfl⟩ rfl rfl rfl rfl rfl (by kernel_rfl) Tryd.func14 (by kernel_rfl)
    (of_decide_eq_true (by kernel_rfl)) (by unfold Func.isWrapper; first | (rw [if_pos (by decide +kernel)]; kernel_rfl) | (rw [if_neg (by decide +kernel)]; exact ⟨rfl, rfl⟩))
    (fun os started H enc _ => fnMoves_lifted os started H enc)

theorem fnMoves_holds : Rows.FnPlotMovesCardSaid :=
  Claim7.holds_tied_plain_at .later [] [.data, .pinned] true (true, "2711de16ae8a941eab259656f75031f98e41807913f0020eaf4cca2541e08e90") true
    fnMoves_row (fun _ h => by cases h) (by kernel_rfl) (fun _ h => by cases h) fnPlotMoves_row_tie rfl ⟨rfl, rfl⟩ (by kernel_rfl) rfl
    (fun f fn hf hfn => by
      obtain rfl : f = 14 := Option.some.inj ((show Tryd.prog.funcNamed Rows.fnPlotMovesRow.func = some 14 by kernel_rfl).symm.trans hf) |>.symm
      obtain rfl : fn = Tryd.f14 := (Option.some.inj (Tryd.func14.symm.trans hfn)).symm
      exact ⟨by kernel_rfl, fun j t ht => by
        rw [Tryd.params14] at ht
        have hts : t ∈ [26] := by
          rw [Array.getElem?_eq_some_iff] at ht
          obtain ⟨hj, ht⟩ := ht
          rw [← ht]
          exact Array.getElem_mem_toList hj
        simp only [List.mem_cons, List.not_mem_nil, or_false] at hts
        subst hts
        · exact (show Tryd.prog.wantsStandIn 26 = false by kernel_rfl)⟩)
    (by kernel_rfl)

end Go.Proofs.YtincimgpgncomaaDoor
