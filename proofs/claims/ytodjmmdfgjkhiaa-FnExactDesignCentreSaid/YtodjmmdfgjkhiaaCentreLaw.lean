/-
  The program's DesignCentre returns what the reference's returns, for all arguments: the law FnExactDesignCentre answers true. No condition.
-/
import Derived.Test.YtodjmmdfgjkhiaaWg
import Derived.Test.YtodjmmdfgjkhiaaOpenW
namespace Go.Proofs.Ytodjmmdfgjkhiaa
open Go.ChangeShapes Go.WideShapes Go.ChangeAt Go.RowKit

set_option maxHeartbeats 1000000 in
theorem centreLaw (v : Value) (ws : List W9) (w : World) (hr : Reads w 9 v ws.length (wlCells ws)) :
    Calls Try.prog 3 #[v] w fun e w' => e = .returned (.bool true) ∧ Below w.heap.size w w' := by
  have Hr := hide hr
  obtain ⟨_, hm, A, c, rfl, _⟩ := hr
  by_cases hbig : 1048576 < ws.length
  · go_enter Try.func3, Try.ntmps3
    go_wp2
    go_ret
    exact ⟨rfl, Below.refl _ _⟩
  · have himp := fun v w (hr : Reads w 9 v ws.length (wlCells ws)) => centreImpl_ok v ws w hr (by omega)
    have hspe := fun v w (hr : Reads w 9 v ws.length (wlCells ws)) => centreSpec_ok v ws w hr (by omega)
    unfold CentrePost at himp hspe
    generalize centreRes ws = r at himp hspe
    obtain ⟨cc, ok⟩ := r
    dsimp only at himp hspe
    have Himp := hide himp
    have Hspe := hide hspe
    clear himp hspe
    go_enter Try.func3, Try.ntmps3
    go_wp2_with (first | (go_at_call 9; go_in) | fail)
    refine (toWheelS_ok _ ws _ Hr.out (by omega)).mono ?_
    rintro e w1 ⟨v1, rfl, ho1, hb1⟩
    go_wp2_with fail
    refine (Hspe.out _ _ (owns_reads ho1)).mono ?_
    rintro e w2 ⟨rfl, hb2⟩
    have hb02 := hide (kept_alloc (kept_trans hb1 hb2) (.cells cc.arr 26))
    have hblk := hide (blk_new w2 cc 26)
    rw [val_spell]
    go_wp2_with fail
    refine (toWheelS_ok _ ws _ (reads_kept Hr.out hb02.out) (by omega)).mono ?_
    rintro e w3 ⟨v3, rfl, ho3, hb3⟩
    have hb03 := hide (kept_trans hb02.out hb3)
    have hblk3 := hide (blk_kept hblk.out hb3)
    go_wp2_with fail
    refine (Himp.out _ _ (owns_reads ho3)).mono ?_
    rintro e w4 ⟨rfl, hb4⟩
    have hb04 := hide (kept_alloc (kept_trans hb03.out hb4) (.cells cc.arr 26))
    have hblk4 := blk_kept hblk3.out hb4
    have hz4 := blk_lt hblk4
    obtain ⟨p0, p1, p2, p3, p4, p5, p6, p7⟩ := blk_cells hblk4
    rw [val_spell]
    clear hb2 hb3 hblk hblk4
    cases ok
    all_goals
      go_wp2_with fail
      rw [← val_spell]
      refine (eqCyc_ok cc _).mono ?_
      rintro e w4' ⟨rfl, hb4'⟩
      have hb04' := kept_trans hb04.out hb4'
      have hb34' := kept_trans (kept_alloc hb4 (.cells cc.arr 26)) hb4'
      go_wp2_with fail
      refine (toWheelS_ok _ ws _ (reads_kept Hr.out hb04') (by omega)).mono ?_
      rintro e w5 ⟨v5, rfl, ho5, hb5⟩
      have hb05 := kept_trans hb04' hb5
      go_wp2_with fail
      refine (eqWheelS_ok _ _ ws _ (reads_kept (owns_reads ho3) (kept_trans hb34' hb5)) (owns_reads ho5)).mono ?_
      rintro e w6 ⟨rfl, hb6⟩
      go_wp2_with fail
      go_ret
      exact ⟨rfl, kept_trans hb05 hb6⟩

theorem Try.own : ownKnob Try.prog.godebug = none := by kernel_rfl
theorem Try.laidOut : laidOutB Try.prog = true := by kernel_rfl

set_option maxRecDepth 100000 in
theorem centre_lifted (os : Os) (started : os.Started) (H : Type) (enc : TypeId × Value → H) :
    ReturnsInHanded {} Try.checked os 3 .any (Rows.fnExactDesignCentreSpec.pre6 enc Try.prog Try.f3 Rows.fnExactDesignCentreRow.domain false) (Rows.fnExactDesignCentreSpec.post enc Try.prog Try.f3 false true false false) := by
  refine returnsInHanded_of_change (C := Try.checked) Try.own started (by kernel_rfl) Try.func3
    (ChangeSpec.witness6 (enc := enc) (C := Try.checked) false ⟨#[], #[.slice none 0 0], []⟩ 8 (by kernel_rfl) (by kernel_rfl) (by kernel_rfl) (by kernel_rfl)) ?_
  intro W base args ds gs before hval0 hW hcnd _
  have hval : ∀ (j : Nat) t v, Try.f3.params[j]? = some t → args[j]? = some v → Value.okWide Try.prog W .any base t v := hval0
  have hW' := hW
  obtain ⟨p, q, hA0, hV, rfl, hfz, hnd⟩ := hW
  have hA : DataW.TrodAll enc Try.prog W 0 (fun _ => true) true Try.f3.params.toList args.toList ds p := hA0
  rw [Try.params3] at hA hval
  obtain ⟨v0, d0, rfl, rfl, h0⟩ := trodAll_one hA
  obtain ⟨rfl, rfl⟩ := trodVars_none hV
  have h0k := h0
  obtain ⟨a0, len, cap, rfl⟩ := okWide_slice Try.underlying22 (hval 0 22 v0 rfl rfl)
  obtain ⟨fuel, hf⟩ := h0
  obtain ⟨ws, hr⟩ := open_wheels Try.underlying22 Try.underlying53 (by kernel_rfl) ⟨by kernel_rfl, by kernel_rfl, Try.underlying3⟩ ⟨by kernel_rfl, by kernel_rfl, Try.underlying51⟩ ⟨by kernel_rfl, by kernel_rfl, Try.underlying24⟩ ⟨by kernel_rfl, Try.underlying3⟩ hf
  clear hA0 hval0
  simp only [List.append_nil] at hW'
  refine (centreLaw _ ws W hr).mono fun e W' ⟨he, hb⟩ => ?_
  subst he
  exact ⟨_, rfl, _, _, _, [], _, [], hW', trodAll_mk1 (shut_bool Try.underlying4 _), trodAll_mk1 (Below.trod Try.laidOut (by kernel_rfl) (of_decide_eq_true (by kernel_rfl)) h0k hb (fun x hx => by simpa using hW'.lt x hx)), rfl, hb.frame _, fun h => by cases h⟩

theorem centre_holds : Rows.FnExactDesignCentreSaid :=
  OpenClaim.holds_of_wide 3 Try.f3 rfl rfl rfl rfl rfl rfl rfl ⟨rfl, rfl, rfl, rfl, rfl⟩ rfl rfl rfl rfl rfl (by kernel_rfl) Try.func3 (by kernel_rfl)
    (of_decide_eq_true (by kernel_rfl)) (by unfold Func.isWrapper; first | (rw [if_pos (by decide +kernel)]; kernel_rfl) | (rw [if_neg (by decide +kernel)]; exact ⟨rfl, rfl⟩))
    (fun os started H enc _ => centre_lifted os started H enc)

end Go.Proofs.Ytodjmmdfgjkhiaa
