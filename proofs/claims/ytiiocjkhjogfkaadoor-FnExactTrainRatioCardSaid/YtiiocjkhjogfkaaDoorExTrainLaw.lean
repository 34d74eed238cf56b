/-
  The program's TrainRatio returns what the reference's returns, for all arguments: the law FnExactTrainRatio answers true. No condition but the card's own: the variable errors.errorType holds what the program's text lays.
-/
import Derived.Test.YtiiocjkhjogfkaaDoorTrainS
import Derived.Test.YtiiocjkhjogfkaaDoorIntS
import Derived.Test.YtiiocjkhjogfkaaDoorHandle
namespace Go.Proofs.YtiiocjkhjogfkaaDoor
open Go.ChangeShapes Go.WideShapes Go.ChangeAt Go.RowKit

set_option maxRecDepth 100000 in
set_option maxHeartbeats 2000000 in
theorem exTrainLaw (A : Option Addr) (c : Nat) (zs : List Int) (w : World) (hr : RdI w A c zs) (hg : Handle w) :
    Calls Tryd.prog 7 #[.slice A zs.length c] w fun e w' => e = .returned (.bool true) ∧ Below w.heap.size w w' := by
  have HG := hide hg
  have HR := hide hr
  have hm := hr.1.2.1
  clear hr hg
  by_cases hbig : 1048576 < zs.length
  · go_enter Tryd.func7, Tryd.ntmps7
    go_wp2
    go_ret
    exact ⟨rfl, Below.refl _ _⟩
  · have hs := fun A c w hr => trainSpec_ok A c zs w hr (by omega)
    have hi := fun A c w hr hg => trainImpl_ok A c zs w hr (by omega) hg
    unfold IIB at hs hi
    generalize trainOut zs = x at hs hi
    obtain ⟨⟨x, y⟩, b⟩ := x
    dsimp only at hs hi
    have Hs := hide hs
    have Hi := hide hi
    have HX := hide (ints_each zs)
    clear hs hi
    go_enter Tryd.func7, Tryd.ntmps7
    go_wp2_with fail
    refine (toIntS_ok A c zs _ HR.out.1 (by omega)).mono ?_
    rintro e w1 ⟨rfl, ho1, hb1⟩
    have r1 := rdI_new ho1
    go_wp2_with fail
    refine (Hs.out _ _ _ r1).mono ?_
    rintro e w2 ⟨rfl, hb2⟩
    have hb02 := kept_trans hb1 hb2
    clear ho1 r1 hb1 hb2
    go_wp2_with fail
    refine (toIntS_ok A c zs _ (reads_kept HR.out.1 hb02) (by omega)).mono ?_
    rintro e w3 ⟨rfl, ho3, hb3⟩
    have r3 := rdI_new ho3
    have hb03 := kept_trans hb02 hb3
    have HO3 := hide (owns_base ho3 hb02.size)
    clear ho3 hb02 hb3
    go_wp2_with fail
    refine (Hi.out _ _ _ r3 (handle_kept HG.out hb03)).mono ?_
    rintro e w4 ⟨rfl, hb4⟩
    have hb04 := kept_trans hb03 hb4
    have HO4 := hide (owns_kept HO3.out hb4)
    have HR4 := hide (reads_kept HR.out.1 hb04)
    clear r3 hb03 hb4
    go_wp2_with fail
    refine (toIntS_ok A c zs _ HR4.out (by omega)).mono ?_
    rintro e w5 ⟨rfl, ho5, hb5⟩
    have HO5 := hide (owns_base ho5 hb04.size)
    have HO45 := hide (owns_kept HO4.out hb5)
    have hb05 := kept_trans hb04 hb5
    clear ho5 hb04 hb5
    go_wp2_with fail
    refine (eqIntS_ok w.heap.size zs.length _ _ _ _ HO45.out HO5.out HX.out).mono ?_
    rintro e w6 ⟨rfl, hb6⟩
    have hb06 := kept_trans hb05 hb6
    clear hb05 hb6
    go_wp2_with fail
    go_ret
    exact ⟨rfl, hb06⟩

set_option maxRecDepth 100000 in
theorem exTrain_lifted (os : Os) (started : os.Started) (H : Type) (enc : TypeId × Value → H) :
    ReturnsInHanded {} Tryd.checked os 7 .any (fun w args => (Rows.fnExactTrainRatioSpec.pre enc Tryd.prog Tryd.f7 [] false w args ∧ laidMetH Tryd.prog theLaid w) ∧ sizedMet enc Tryd.prog Tryd.f7 (OpenSpec.ofChange Rows.fnExactTrainRatioSpec) false w args)
      (Rows.fnExactTrainRatioSpec.post enc Tryd.prog Tryd.f7 false true false false) := by
  refine returnsInHanded_of_change_and (C := Tryd.checked) (X := fun w _ => laidMetH Tryd.prog theLaid w) (fun _ _ _ hh h => h.of_heap hh) Tryd.own started (by kernel_rfl) Tryd.func7
    (ChangeSpec.witness_at (enc := enc) (C := Tryd.checked) (os := os) (X := fun w _ => laidMetH Tryd.prog theLaid w) false (laidWorld os) #[.slice none 0 0] 8 rfl (by kernel_rfl) (by kernel_rfl) (by kernel_rfl) (by kernel_rfl) (by kernel_rfl) (laidWorld_met os _)) ?_
  intro W base args ds gs before hval0 hW _ _ hL _
  have hval : ∀ (j : Nat) t v, Tryd.f7.params[j]? = some t → args[j]? = some v → Value.okWide Tryd.prog W .any base t v := hval0
  have hW' := hW
  obtain ⟨p, q, hA0, hV0, rfl, hfz, hnd⟩ := hW
  have hA : DataW.TrodAll enc Tryd.prog W 0 (fun _ => true) true Tryd.f7.params.toList args.toList ds p := hA0
  have hV : DataW.TrodVars enc Tryd.prog W (fun _ => true) [] gs q := hV0
  rw [Tryd.params7] at hA hval
  have hg := handle_of_laid hL
  obtain ⟨rfl, rfl⟩ : gs = [] ∧ q = [] := by
    cases gs with
    | nil => exact ⟨rfl, hV⟩
    | cons g r => exact absurd hV (by intro h; cases h)
  obtain ⟨v0, d0, rfl, rfl, h0⟩ := trodAll_one hA
  have h0k := h0
  obtain ⟨a0, len, cap, rfl⟩ := okWide_slice Tryd.underlying29 (hval 0 29 v0 rfl rfl)
  obtain ⟨fuel, hf⟩ := h0
  obtain ⟨A, c, zs, hv, hr⟩ := open_intsR Tryd.underlying29 Tryd.underlying3 (by kernel_rfl) hf
  rw [hv] at h0k hval hf ⊢
  clear hA0 hval0
  simp only [List.append_nil] at hW'
  rw [hv] at hW'
  refine (exTrainLaw A c zs W hr hg).mono fun e W' ⟨he, hb⟩ => ?_
  subst he
  exact ⟨_, rfl, _, _, _, [], _, [], hW', trodAll_mk1 (shut_bool Tryd.underlying4 _), trodAll_mk1 (Below.trod Tryd.laidOut (by kernel_rfl) (of_decide_eq_true (by kernel_rfl)) h0k hb (fun x hx => by simpa using hW'.lt x hx)), rfl, hb.frame _, fun h => by cases h⟩

theorem exTrain_row : Rows.FnExactTrainRatioSaid :=
  OpenClaim.holds_of_wide 7 Tryd.f7 rfl rfl rfl rfl rfl rfl rfl ⟨rfl, rfl, rfl, rfl, rfl⟩ rfl rfl rfl rfl rfl (by kernel_rfl) Tryd.func7 (by kernel_rfl)
    (of_decide_eq_true (by kernel_rfl)) (by unfold Func.isWrapper; first | (rw [if_pos (by decide +kernel)]; kernel_rfl) | (rw [if_neg (by decide +kernel)]; exact ⟨rfl, rfl⟩))
    (fun os started H enc _ => exTrain_lifted os started H enc)

theorem exTrain_holds : Rows.FnExactTrainRatioCardSaid :=
  Claim7.holds_tied_plain_at .later [] [.handle] true (true, "85218d0d5ad8b28a4c3c6d827174e40ec4c47f608e78e1b43088282c33ffb9c5") true
    exTrain_row (fun _ h => by cases h) (by kernel_rfl) (fun _ h => by cases h) fnExactTrainRatio_row_tie rfl ⟨rfl, rfl⟩ (by kernel_rfl) rfl
    (fun f fn hf hfn => by
      obtain rfl : f = 7 := Option.some.inj ((show Tryd.prog.funcNamed Rows.fnExactTrainRatioRow.func = some 7 by kernel_rfl).symm.trans hf) |>.symm
      obtain rfl : fn = Tryd.f7 := (Option.some.inj (Tryd.func7.symm.trans hfn)).symm
      exact ⟨by kernel_rfl, fun j t ht => by
        rw [Tryd.params7] at ht
        have hts : t ∈ [29] := by
          rw [Array.getElem?_eq_some_iff] at ht
          obtain ⟨hj, ht⟩ := ht
          rw [← ht]
          exact Array.getElem_mem_toList hj
        simp only [List.mem_cons, List.not_mem_nil, or_false] at hts
        subst hts
        · exact (show Tryd.prog.wantsStandIn 29 = false by kernel_rfl)⟩)
    (by kernel_rfl)

end Go.Proofs.YtiiocjkhjogfkaaDoor
