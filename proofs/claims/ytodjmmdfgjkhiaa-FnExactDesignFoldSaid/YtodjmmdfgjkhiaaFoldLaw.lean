/-
  The program's DesignFold returns what the reference's returns, for all arguments: the law FnExactDesignFold answers true. No condition.
-/
import Derived.Test.YtodjmmdfgjkhiaaWg
import Derived.Test.YtodjmmdfgjkhiaaOpenW
namespace Go.Proofs.Ytodjmmdfgjkhiaa
open Go.ChangeShapes Go.WideShapes Go.ChangeAt Go.RowKit

set_option maxHeartbeats 1000000 in
theorem foldLaw (v : Value) (ws : List W9) (w : World) (hr : Reads w 9 v ws.length (wlCells ws)) :
    Calls Try.prog 4 #[v] w fun e w' => e = .returned (.bool true) ∧ Below w.heap.size w w' := by
  have Hr := hide hr
  obtain ⟨_, hm, A, c, rfl, _⟩ := hr
  by_cases hbig : 1048576 < ws.length
  · go_enter Try.func4, Try.ntmps4
    go_wp2
    go_ret
    exact ⟨rfl, Below.refl _ _⟩
  · have himp := fun v w (hr : Reads w 9 v ws.length (wlCells ws)) => foldImpl_ok v ws w hr (by omega)
    have hspe := fun v w (hr : Reads w 9 v ws.length (wlCells ws)) => foldSpec_ok v ws w hr (by omega)
    generalize foldRes ws = r at himp hspe
    have Himp := hide himp
    have Hspe := hide hspe
    clear himp hspe
    go_enter Try.func4, Try.ntmps4
    go_wp2_with (first | (go_at_call 9; go_in) | fail)
    refine (toWheelS_ok _ ws _ Hr.out (by omega)).mono ?_
    rintro e w1 ⟨v1, rfl, ho1, hb1⟩
    go_wp2_with fail
    refine (Hspe.out _ _ (owns_reads ho1)).mono ?_
    rintro e w2 ⟨rfl, hb2⟩
    have hb02 := kept_trans hb1 hb2
    go_wp2_with fail
    refine (toWheelS_ok _ ws _ (reads_kept Hr.out hb02) (by omega)).mono ?_
    rintro e w3 ⟨v3, rfl, ho3, hb3⟩
    have hb03 := kept_trans hb02 hb3
    go_wp2_with fail
    refine (Himp.out _ _ (owns_reads ho3)).mono ?_
    rintro e w4 ⟨rfl, hb4⟩
    have hb04 := kept_trans hb03 hb4
    go_wp2_with fail
    refine (toWheelS_ok _ ws _ (reads_kept Hr.out hb04) (by omega)).mono ?_
    rintro e w5 ⟨v5, rfl, ho5, hb5⟩
    have hb05 := kept_trans hb04 hb5
    go_wp2_with fail
    refine (eqWheelS_ok _ _ ws _ (reads_kept (owns_reads ho3) (kept_trans hb4 hb5)) (owns_reads ho5)).mono ?_
    rintro e w6 ⟨rfl, hb6⟩
    go_wp2_with fail
    go_ret
    exact ⟨rfl, kept_trans hb05 hb6⟩

theorem Try.own : ownKnob Try.prog.godebug = none := by kernel_rfl
theorem Try.laidOut : laidOutB Try.prog = true := by kernel_rfl

set_option maxRecDepth 100000 in
theorem fold_lifted (os : Os) (started : os.Started) (H : Type) (enc : TypeId × Value → H) :
    ReturnsInHanded {} Try.checked os 4 .any (Rows.fnExactDesignFoldSpec.pre6 enc Try.prog Try.f4 Rows.fnExactDesignFoldRow.domain false) (Rows.fnExactDesignFoldSpec.post enc Try.prog Try.f4 false true false false) := by
  refine returnsInHanded_of_change (C := Try.checked) Try.own started (by kernel_rfl) Try.func4
    (ChangeSpec.witness6 (enc := enc) (C := Try.checked) false ⟨#[], #[.slice none 0 0], []⟩ 8 (by kernel_rfl) (by kernel_rfl) (by kernel_rfl) (by kernel_rfl)) ?_
  intro W base args ds gs before hval0 hW hcnd _
  have hval : ∀ (j : Nat) t v, Try.f4.params[j]? = some t → args[j]? = some v → Value.okWide Try.prog W .any base t v := hval0
  have hW' := hW
  obtain ⟨p, q, hA0, hV, rfl, hfz, hnd⟩ := hW
  have hA : DataW.TrodAll enc Try.prog W 0 (fun _ => true) true Try.f4.params.toList args.toList ds p := hA0
  rw [Try.params4] at hA hval
  obtain ⟨v0, d0, rfl, rfl, h0⟩ := trodAll_one hA
  obtain ⟨rfl, rfl⟩ := trodVars_none hV
  have h0k := h0
  obtain ⟨a0, len, cap, rfl⟩ := okWide_slice Try.underlying22 (hval 0 22 v0 rfl rfl)
  obtain ⟨fuel, hf⟩ := h0
  obtain ⟨ws, hr⟩ := open_wheels Try.underlying22 Try.underlying53 (by kernel_rfl) ⟨by kernel_rfl, by kernel_rfl, Try.underlying3⟩ ⟨by kernel_rfl, by kernel_rfl, Try.underlying51⟩ ⟨by kernel_rfl, by kernel_rfl, Try.underlying24⟩ ⟨by kernel_rfl, Try.underlying3⟩ hf
  clear hA0 hval0
  simp only [List.append_nil] at hW'
  refine (foldLaw _ ws W hr).mono fun e W' ⟨he, hb⟩ => ?_
  subst he
  exact ⟨_, rfl, _, _, _, [], _, [], hW', trodAll_mk1 (shut_bool Try.underlying4 _), trodAll_mk1 (Below.trod Try.laidOut (by kernel_rfl) (of_decide_eq_true (by kernel_rfl)) h0k hb (fun x hx => by simpa using hW'.lt x hx)), rfl, hb.frame _, fun h => by cases h⟩

theorem fold_holds : Rows.FnExactDesignFoldSaid :=
  OpenClaim.holds_of_wide 4 Try.f4 rfl rfl rfl rfl rfl rfl rfl ⟨rfl, rfl, rfl, rfl, rfl⟩ rfl rfl rfl rfl rfl (by kernel_rfl) Try.func4 (by kernel_rfl)
    (of_decide_eq_true (by kernel_rfl)) (by unfold Func.isWrapper; first | (rw [if_pos (by decide +kernel)]; kernel_rfl) | (rw [if_neg (by decide +kernel)]; exact ⟨rfl, rfl⟩))
    (fun os started H enc _ => fold_lifted os started H enc)

end Go.Proofs.Ytodjmmdfgjkhiaa
