/-
  The law FnExactPlotMoves: the program's answer is the reference's, for every text. No condition of ours; the card's own: unicode/utf8.acceptRanges and unicode/utf8.first hold what the program's text lays.
-/
import Derived.Test.YtincimgpgncomaaDoorMo
import Derived.Test.YtincimgpgncomaaDoorWit
import Derived.ChangeMaps5
namespace Go.Proofs.YtincimgpgncomaaDoor
open Go.ChangeShapes Go.WideShapes Go.RowKit
open Go.ChangeMaps (open_string shut_string)

set_option maxRecDepth 100000 in
set_option maxHeartbeats 4000000 in
theorem exMovesLaw (s : ByteArray) (w : World) : Calls Tryd.prog 10 #[.string s] w fun e w' => e = .returned (.bool true) ∧ Below w.heap.size w w' := by
  have hl := movesRes_len (progB s)
  have hs := fun w => movesSpec_ok s w
  have hi := fun w => movesImpl_ok s w
  unfold MvPost at hs hi
  generalize movesRes (progB s) = r at hl hs hi
  obtain ⟨xs, ok⟩ := r
  dsimp only at hl hs hi
  have Hs := hide hs
  have Hi := hide hi
  clear hs hi
  by_cases hbig : 1048576 < s.size
  · go_enter Tryd.func10, Tryd.ntmps10
    go_wp2
    go_ret
    exact ⟨rfl, Below.refl _ _⟩
  · go_enter Tryd.func10, Tryd.ntmps10
    go_wp2_with fail
    refine (Hs.out _).mono ?_
    rintro e w1 ⟨v1, rfl, ho1, hb1⟩
    go_wp2_with fail
    refine (Hi.out _).mono ?_
    rintro e w2 ⟨v2, rfl, ho2, hb2⟩
    have hb02 := kept_trans hb1 hb2
    have ap := has_apart ho1 ho2
    have ho1_2 := has_kept ho1 hb2
    go_wp2_with fail
    refine (eqMoveS_ok _ _ xs _ (has_reads ho2) (has_reads ho1_2)).mono ?_
    rintro e w3 ⟨rfl, hb3⟩
    have hb03 := kept_trans hb02 hb3
    have ho2_3 := has_kept ho2 hb3
    have ho1_3 := has_kept ho1_2 hb3
    clear ho1_2 hb3 hb2
    cases ok
    all_goals
      go_wp2_with fail
      refine (markMoveS_ok w1.heap.size xs.length _ _ 1 _ ho2_3 (by decide) (by omega)).mono ?_
      rintro e w4 ⟨rfl, ho2_4, hg4⟩
      have hb04 := kept_grown hb03 hg4 (fun k hk => Nat.le_trans hb1.size (has_lt ho2 k hk).1)
      have ho1_4 := has_grown ho1_3 hg4 ap
      go_wp2_with fail
      refine (heldMoveS_ok _ xs.length 1 _ (has_reads ho2_4) (by decide) (by omega)).mono ?_
      rintro e w5 ⟨rfl, rfl⟩
      go_wp2_with fail
      refine (Hi.out _).mono ?_
      rintro e w6 ⟨v6, rfl, ho6, hb6⟩
      have hb06 := kept_trans hb04 hb6
      go_wp2_with fail
      refine (eqMoveS_ok _ _ xs _ (has_reads ho6) (has_reads (has_kept ho1_4 hb6))).mono ?_
      rintro e w7 ⟨rfl, hb7⟩
      have hb07 := kept_trans hb06 hb7
      go_wp2_with fail
      refine (heldMoveS_ok _ xs.length 1 _ (has_reads (has_kept (has_kept ho2_4 hb6) hb7)) (by decide) (by omega)).mono ?_
      rintro e w8 ⟨rfl, rfl⟩
      go_wp2_with fail
      go_ret
      exact ⟨rfl, hb07⟩

set_option maxRecDepth 100000 in
theorem exMoves_lifted (os : Os) (started : os.Started) (H : Type) (enc : TypeId × Value → H) :
    ReturnsInHanded {} Tryd.checked os 10 .any (fun w args => (Rows.fnExactPlotMovesSpec.pre enc Tryd.prog Tryd.f10 [] false w args ∧ laidMetH Tryd.prog theLaid w) ∧ sizedMet enc Tryd.prog Tryd.f10 (OpenSpec.ofChange Rows.fnExactPlotMovesSpec) false w args)
      (Rows.fnExactPlotMovesSpec.post enc Tryd.prog Tryd.f10 false true false false) := by
  refine returnsInHanded_of_change_and (C := Tryd.checked) (X := fun w _ => laidMetH Tryd.prog theLaid w) (fun _ _ _ hh h => h.of_heap hh) Tryd.own started (by kernel_rfl) Tryd.func10
    (ChangeSpec.witness_shaped (enc := enc) (C := Tryd.checked) (os := os) (X := fun w _ => laidMetH Tryd.prog theLaid w) false (World.laidAll Tryd.prog os theLaid) #[.string ⟨#[]⟩] 8 (World.laidAll_os _ _ _) (laidAll_shaped os) (by kernel_rfl) (by kernel_rfl) (by kernel_rfl) (laidAll_met os _)) ?_
  intro W base args ds gs before hval0 hW _ _ hL _
  have hval : ∀ (j : Nat) t v, Tryd.f10.params[j]? = some t → args[j]? = some v → Value.okWide Tryd.prog W .any base t v := hval0
  have hW' := hW
  obtain ⟨p, q, hA0, hV0, rfl, hfz, hnd⟩ := hW
  have hA : DataW.TrodAll enc Tryd.prog W 0 (fun _ => true) true Tryd.f10.params.toList args.toList ds p := hA0
  have hV : DataW.TrodVars enc Tryd.prog W (fun _ => true) [] gs q := hV0
  rw [Tryd.params10] at hA hval
  obtain ⟨rfl, rfl⟩ : gs = [] ∧ q = [] := by
    cases gs with
    | nil => exact ⟨rfl, hV⟩
    | cons g r => exact absurd hV (by intro h; cases h)
  obtain ⟨v0, d0, rfl, rfl, h0⟩ := trodAll_one hA
  obtain ⟨s, rfl, rfl, rfl, hs⟩ := open_string Tryd.underlying9 (hval 0 9 v0 rfl rfl) h0
  clear hA0 hval0
  simp only [List.append_nil] at hW'
  refine (exMovesLaw s W).mono fun e W' ⟨he, hb⟩ => ?_
  subst he
  exact ⟨_, rfl, _, _, _, [], [], [], hW', trodAll_mk1 (shut_bool Tryd.underlying4 _), trodAll_mk1 (shut_string Tryd.underlying9 hs), rfl, hb.frame _, fun h => by cases h⟩

theorem exMoves_row : Rows.FnExactPlotMovesSaid :=
  OpenClaim.holds_of_wide 10 Tryd.f10 rfl rfl rfl rfl rfl rfl rfl ⟨rfl, rfl, rfl, rfl, rfl⟩ rfl rfl rfl rfl rfl (by kernel_rfl) Tryd.func10 (by kernel_rfl)
    (of_decide_eq_true (by kernel_rfl)) (by unfold Func.isWrapper; first | (rw [if_pos (by decide +kernel)]; kernel_rfl) | (rw [if_neg (by decide +kernel)]; exact ⟨rfl, rfl⟩))
    (fun os started H enc _ => exMoves_lifted os started H enc)

theorem exMoves_holds : Rows.FnExactPlotMovesCardSaid :=
  Claim7.holds_tied_plain_at .later [] [.data, .pinned] true (true, "2711de16ae8a941eab259656f75031f98e41807913f0020eaf4cca2541e08e90") true
    exMoves_row (fun _ h => by cases h) (by kernel_rfl) (fun _ h => by cases h) fnExactPlotMoves_row_tie rfl ⟨rfl, rfl⟩ (by kernel_rfl) rfl
    (fun f fn hf hfn => by
      obtain rfl : f = 10 := Option.some.inj ((show Tryd.prog.funcNamed Rows.fnExactPlotMovesRow.func = some 10 by kernel_rfl).symm.trans hf) |>.symm
      obtain rfl : fn = Tryd.f10 := (Option.some.inj (Tryd.func10.symm.trans hfn)).symm
      exact ⟨by kernel_rfl, fun j t ht => by
        rw [Tryd.params10] at ht
        have hts : t ∈ [9] := by
          rw [Array.getElem?_eq_some_iff] at ht
          obtain ⟨hj, ht⟩ := ht
          rw [← ht]
          exact Array.getElem_mem_toList hj
        simp only [List.mem_cons, List.not_mem_nil, or_false] at hts
        subst hts
        · exact (show Tryd.prog.wantsStandIn 9 = false by kernel_rfl)⟩)
    (by kernel_rfl)

end Go.Proofs.YtincimgpgncomaaDoor
