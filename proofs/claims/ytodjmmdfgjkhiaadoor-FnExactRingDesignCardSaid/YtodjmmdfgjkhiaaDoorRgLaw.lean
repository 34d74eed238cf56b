/-
  The program's RingDesign returns what the reference's returns, for all arguments: the law FnExactRingDesign answers true. No condition but the card's own: the variable errors.errorType holds what the program's text lays.
-/
import Derived.Test.YtodjmmdfgjkhiaaDoorRg
import Derived.Test.YtodjmmdfgjkhiaaDoorHandle
namespace Go.Proofs.YtodjmmdfgjkhiaaDoor
open Go.ChangeShapes Go.WideShapes Go.RowKit

theorem ringResD_len (r q p : Int) (i : Bool) : (ringRes r q p i).1.length ≤ 12 := by
  unfold ringRes
  split
  · unfold tidyRes doneW
    split
    · rename_i h
      exact (designB_small h.2).1
    · simp
  · simp

set_option maxRecDepth 100000 in
set_option maxHeartbeats 2000000 in
theorem ringLaw (r q : Int) (i : Bool) (p : Int) (w : World) (hg : Handle w) :
    Calls Tryd.prog 3 #[.int .i64 r, .int .i64 q, .bool i, .int .i64 p] w fun e w' => e = .returned (.bool true) ∧ Below w.heap.size w w' := by
  have HG := hide hg
  clear hg
  have hl := ringResD_len r q p i
  have hs := fun w => ringSpec_ok r q p i w
  have hi := fun w hg => ringImpl_ok r q p i w hg
  unfold WlPost at hs hi
  generalize ringRes r q p i = x at hs hi hl
  obtain ⟨xs, ok⟩ := x
  dsimp only at hs hi hl
  have Hs := hide hs
  have Hi := hide hi
  clear hs hi
  go_enter Tryd.func3, Tryd.ntmps3
  go_wp2_with fail
  refine (Hs.out _).mono ?_
  rintro e w2 ⟨v2, rfl, ho2, hb2⟩
  go_wp2_with fail
  refine (Hi.out _ (handle_kept HG.out hb2)).mono ?_
  rintro e w4 ⟨v4, rfl, ho4, hb4⟩
  have hb04 := kept_trans hb2 hb4
  go_wp2_with fail
  have ho2_4 := has_kept ho2 hb4
  refine (eqWheelS_ok _ _ xs _ (has_reads ho4) (has_reads ho2_4)).mono ?_
  rintro e w5 ⟨rfl, hb5⟩
  have hb05 := kept_trans hb04 hb5
  cases ok
  all_goals
    have ap2_4 := has_apart ho2 ho4
    go_wp2_with fail
    refine (markWheelS_ok w2.heap.size xs.length _ _ 1 _ (has_kept ho4 hb5) (by decide) (by omega)).mono ?_
    rintro e w10 ⟨rfl, ho4_10, hg10⟩
    have hb010 := kept_grown hb05 hg10 (fun k hk => Nat.le_trans hb2.size (has_lt ho4 k hk).1)
    have ho2_10 := has_grown (has_kept ho2_4 hb5) hg10 ap2_4
    go_wp2_with fail
    refine (heldWheelS_ok _ xs.length 1 _ (has_reads ho4_10) (by decide) (by omega)).mono ?_
    rintro e w11 ⟨rfl, rfl⟩
    go_wp2_with fail
    refine (Hi.out _ (handle_kept HG.out hb010)).mono ?_
    rintro e w13 ⟨v13, rfl, ho13, hb13⟩
    have hb013 := kept_trans hb010 hb13
    go_wp2_with fail
    refine (eqWheelS_ok _ _ xs _ (has_reads ho13) (has_reads (has_kept ho2_10 hb13))).mono ?_
    rintro e w14 ⟨rfl, hb14⟩
    have hb014 := kept_trans hb013 hb14
    go_wp2_with fail
    refine (heldWheelS_ok _ xs.length 1 _ (has_reads (has_kept (has_kept ho4_10 hb13) hb14)) (by decide) (by omega)).mono ?_
    rintro e w15 ⟨rfl, rfl⟩
    go_wp2_with fail
    go_ret
    exact ⟨rfl, hb014⟩

set_option maxRecDepth 100000 in
theorem ringD_lifted (os : Os) (started : os.Started) (H : Type) (enc : TypeId × Value → H) :
    ReturnsInHanded {} Tryd.checked os 3 .any (fun w args => (Rows.fnExactRingDesignSpec.pre enc Tryd.prog Tryd.f3 [] false w args ∧ laidMetH Tryd.prog theLaid w) ∧ sizedMet enc Tryd.prog Tryd.f3 (OpenSpec.ofChange Rows.fnExactRingDesignSpec) false w args)
      (Rows.fnExactRingDesignSpec.post enc Tryd.prog Tryd.f3 false true false false) := by
  refine returnsInHanded_of_change_and (C := Tryd.checked) (X := fun w _ => laidMetH Tryd.prog theLaid w) (fun _ _ _ hh h => h.of_heap hh) Tryd.own started (by kernel_rfl) Tryd.func3
    (ChangeSpec.witness_at (enc := enc) (C := Tryd.checked) (os := os) (X := fun w _ => laidMetH Tryd.prog theLaid w) false (laidWorld os) #[.int .i64 0, .int .i64 0, .bool false, .int .i64 0] 8 rfl (by kernel_rfl) (by kernel_rfl) (by kernel_rfl) (by kernel_rfl) (by kernel_rfl) (laidWorld_met os _)) ?_
  intro W base args ds gs before hval0 hW _ _ hL _
  have hval : ∀ (j : Nat) t v, Tryd.f3.params[j]? = some t → args[j]? = some v → Value.okWide Tryd.prog W .any base t v := hval0
  have hW' := hW
  obtain ⟨p, q, hA0, hV0, rfl, hfz, hnd⟩ := hW
  have hA : DataW.TrodAll enc Tryd.prog W 0 (fun _ => true) true Tryd.f3.params.toList args.toList ds p := hA0
  have hV : DataW.TrodVars enc Tryd.prog W (fun _ => true) [] gs q := hV0
  rw [Tryd.params3] at hA hval
  have hg := handle_of_laid hL
  obtain ⟨rfl, rfl⟩ : gs = [] ∧ q = [] := by
    cases gs with
    | nil => exact ⟨rfl, hV⟩
    | cons g r => exact absurd hV (by intro h; cases h)
  obtain ⟨v0, v1, v2, v3, d0, d1, d2, d3, p0, p1, p2, p3, rfl, rfl, rfl, h0, h1, h2, h3⟩ := trodAll_four hA
  obtain ⟨a, rfl, rfl, rfl, wa⟩ := open_int Tryd.underlying3 (hval 0 3 v0 rfl rfl) h0
  obtain ⟨b, rfl, rfl, rfl, wb⟩ := open_int Tryd.underlying3 (hval 1 3 v1 rfl rfl) h1
  obtain ⟨c, rfl, rfl, rfl⟩ := open_bool Tryd.underlying4 (hval 2 4 v2 rfl rfl) h2
  obtain ⟨d, rfl, rfl, rfl, wd⟩ := open_int Tryd.underlying3 (hval 3 3 v3 rfl rfl) h3
  clear hA0 hval0
  simp only [List.append_nil] at hW'
  refine (ringLaw a b c d W hg).mono fun e W' ⟨he, hb⟩ => ?_
  subst he
  exact ⟨_, rfl, _, _, _, [], [], [], hW', trodAll_mk1 (shut_bool Tryd.underlying4 _), trodAll_mk4 (shut_int Tryd.underlying3 wa) (shut_int Tryd.underlying3 wb) (shut_bool Tryd.underlying4 _) (shut_int Tryd.underlying3 wd), rfl, hb.frame _, fun h => by cases h⟩

theorem ringD_row : Rows.FnExactRingDesignSaid :=
  OpenClaim.holds_of_wide 3 Tryd.f3 rfl rfl rfl rfl rfl rfl rfl ⟨rfl, rfl, rfl, rfl, rfl⟩ rfl rfl rfl rfl rfl (by kernel_rfl) Tryd.func3 (by kernel_rfl)
    (of_decide_eq_true (by kernel_rfl)) (by unfold Func.isWrapper; first | (rw [if_pos (by decide +kernel)]; kernel_rfl) | (rw [if_neg (by decide +kernel)]; exact ⟨rfl, rfl⟩))
    (fun os started H enc _ => ringD_lifted os started H enc)

theorem ringD_holds : Rows.FnExactRingDesignCardSaid :=
  Claim7.holds_tied_plain_at .later [] [.handle] true (true, "866b9be77658736eb5ee7d367484f788c174bcfff45dd8d7e25691279d46cf27") true
    ringD_row (fun _ h => by cases h) (by kernel_rfl) (fun _ h => by cases h) fnExactRingDesign_row_tie rfl ⟨rfl, rfl⟩ (by kernel_rfl) rfl
    (fun f fn hf hfn => by
      obtain rfl : f = 3 := Option.some.inj ((show Tryd.prog.funcNamed Rows.fnExactRingDesignRow.func = some 3 by kernel_rfl).symm.trans hf) |>.symm
      obtain rfl : fn = Tryd.f3 := (Option.some.inj (Tryd.func3.symm.trans hfn)).symm
      exact ⟨by kernel_rfl, fun j t ht => by
        rw [Tryd.params3] at ht
        have hts : t ∈ [3, 3, 4, 3] := by
          rw [Array.getElem?_eq_some_iff] at ht
          obtain ⟨hj, ht⟩ := ht
          rw [← ht]
          exact Array.getElem_mem_toList hj
        simp only [List.mem_cons, List.not_mem_nil, or_false] at hts
        rcases hts with rfl | rfl | rfl | rfl
        · exact (show Tryd.prog.wantsStandIn 3 = false by kernel_rfl)
        · exact (show Tryd.prog.wantsStandIn 3 = false by kernel_rfl)
        · exact (show Tryd.prog.wantsStandIn 4 = false by kernel_rfl)
        · exact (show Tryd.prog.wantsStandIn 3 = false by kernel_rfl)⟩)
    (by kernel_rfl)

end Go.Proofs.YtodjmmdfgjkhiaaDoor
