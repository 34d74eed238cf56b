/-
  The program's DesignFaster returns what the reference's returns, for all arguments: the law FnExactDesignFaster answers true. No condition.
-/
import Derived.Test.YtodjmmdfgjkhiaaWe
import Derived.Test.YtodjmmdfgjkhiaaOpenW
namespace Go.Proofs.Ytodjmmdfgjkhiaa
open Go.ChangeShapes Go.WideShapes Go.ChangeAt Go.RowKit

theorem tidyRes_len (ws : List W9) : (tidyRes ws).1.length ≤ 12 := by
  unfold tidyRes doneW
  split
  · rename_i h
    exact (designB_small h.2).1
  · simp

theorem fasterRes_len (n : Int) (ws : List W9) : (fasterRes n ws).1.length ≤ 12 := by
  unfold fasterRes changeRes
  split
  · split
    · exact tidyRes_len _
    · simp
  · simp

set_option maxRecDepth 100000 in
set_option maxHeartbeats 2000000 in
theorem fasterLaw (v : Value) (ws : List W9) (m : Int) (w : World) (hr : Reads w 9 v ws.length (wlCells ws)) :
    Calls Try.prog 7 #[v, .int .i64 m] w fun e w' => e = .returned (.bool true) ∧ Below w.heap.size w w' := by
  have Hr := hide hr
  obtain ⟨_, hm, A, c, rfl, _⟩ := hr
  by_cases hbig : 1048576 < ws.length
  · go_enter Try.func7, Try.ntmps7
    go_wp2
    go_ret
    exact ⟨rfl, Below.refl _ _⟩
  · have hl := fasterRes_len m ws
    have himp := fun v w (hr : Reads w 9 v ws.length (wlCells ws)) => fasterImpl_ok m v ws w hr (by omega)
    have hspe := fun v w (hr : Reads w 9 v ws.length (wlCells ws)) => fasterSpec_ok m v ws w hr (by omega)
    unfold WlPost at himp hspe
    generalize fasterRes m ws = r at hl himp hspe
    obtain ⟨xs, ok⟩ := r
    dsimp only at hl himp hspe
    have Himp := hide himp
    have Hspe := hide hspe
    clear himp hspe
    go_enter Try.func7, Try.ntmps7
    go_wp2_with (first | (go_at_call 9; go_in) | fail)
    refine (toWheelS_ok _ ws _ Hr.out (by omega)).mono ?_
    rintro e w1 ⟨v1, rfl, ho1, hb1⟩
    go_wp2_with fail
    refine (Hspe.out _ _ (owns_reads ho1)).mono ?_
    rintro e w2 ⟨v2, rfl, ho2, hb2⟩
    have hb02 := kept_trans hb1 hb2
    go_wp2_with fail
    refine (toWheelS_ok _ ws _ (reads_kept Hr.out hb02) (by omega)).mono ?_
    rintro e w3 ⟨v3, rfl, ho3', hb3⟩
    have ho3 := has_owns ho3'
    have hb03 := kept_trans hb02 hb3
    go_wp2_with fail
    refine (Himp.out _ _ (has_reads ho3)).mono ?_
    rintro e w4 ⟨v4, rfl, ho4, hb4⟩
    have hb04 := kept_trans hb03 hb4
    go_wp2_with fail
    have ho2_4 := has_kept (has_kept ho2 hb3) hb4
    refine (eqWheelS_ok _ _ xs _ (has_reads ho4) (has_reads ho2_4)).mono ?_
    rintro e w5 ⟨rfl, hb5⟩
    have hb05 := kept_trans hb04 hb5
    cases ok
    all_goals
      go_wp2_with fail
      refine (toWheelS_ok _ ws _ (reads_kept Hr.out hb05) (by omega)).mono ?_
      rintro e w6 ⟨v6, rfl, ho6, hb6⟩
      have hb06 := kept_trans hb05 hb6
      have ho3_6 := has_kept (has_kept (has_kept ho3 hb4) hb5) hb6
      go_wp2_with fail
      refine (eqWheelS_ok _ _ ws _ (has_reads ho3_6) (owns_reads ho6)).mono ?_
      rintro e w7 ⟨rfl, hb7⟩
      have hb07 := kept_trans hb06 hb7
      have ho3_7 := has_kept ho3_6 hb7
      have ho4_7 := has_kept (has_kept (has_kept ho4 hb5) hb6) hb7
      have ho2_7 := has_kept (has_kept (has_kept ho2_4 hb5) hb6) hb7
      go_wp2_with fail
      -- the argument is marked; the result is as it was
      refine (markWheelS_ok w2.heap.size ws.length _ _ 1 _ ho3_7 (by decide) (by omega)).mono ?_
      rintro e w8 ⟨rfl, ho3_8, hg8⟩
      have hb08 := kept_grown hb07 hg8 (fun k hk => Nat.le_trans hb02.size (has_lt ho3 k hk).1)
      have ap3_4 := has_apart ho3 ho4
      have ap2_3 := has_apart ho2 ho3
      have ap2_4 := has_apart (has_kept ho2 hb3) ho4
      have ho4_8 : Has w8 w3.heap.size 9 v4 xs.length (wlCells xs) := has_grown ho4_7 hg8 (by
        rcases ap3_4 with h | h
        · rw [h]; cases v4.ownBlock <;> simp
        · exact .inr (Ne.symm h))
      have ho2_8 := has_grown ho2_7 hg8 ap2_3
      go_wp2_with fail
      refine (eqWheelS_ok _ _ xs _ (has_reads ho4_8) (has_reads ho2_8)).mono ?_
      rintro e w9 ⟨rfl, hb9⟩
      have hb09 := kept_trans hb08 hb9
      go_wp2_with fail
      refine (markWheelS_ok w3.heap.size xs.length _ _ 1 _ (has_kept ho4_8 hb9) (by decide) (by omega)).mono ?_
      rintro e w10 ⟨rfl, ho4_10, hg10⟩
      have hb010 := kept_grown hb09 hg10 (fun k hk => Nat.le_trans hb03.size (has_lt ho4 k hk).1)
      have ho2_10 := has_grown (has_kept ho2_8 hb9) hg10 ap2_4
      go_wp2_with fail
      refine (heldWheelS_ok _ xs.length 1 _ (has_reads ho4_10) (by decide) (by omega)).mono ?_
      rintro e w11 ⟨rfl, rfl⟩
      go_wp2_with fail
      refine (toWheelS_ok _ ws _ (reads_kept Hr.out hb010) (by omega)).mono ?_
      rintro e w12 ⟨v12, rfl, ho12, hb12⟩
      have hb012 := kept_trans hb010 hb12
      go_wp2_with fail
      refine (Himp.out _ _ (owns_reads ho12)).mono ?_
      rintro e w13 ⟨v13, rfl, ho13, hb13⟩
      have hb013 := kept_trans hb012 hb13
      go_wp2_with fail
      refine (eqWheelS_ok _ _ xs _ (has_reads ho13) (has_reads (has_kept (has_kept ho2_10 hb12) hb13))).mono ?_
      rintro e w14 ⟨rfl, hb14⟩
      have hb014 := kept_trans hb013 hb14
      go_wp2_with fail
      refine (heldWheelS_ok _ xs.length 1 _ (has_reads (has_kept (has_kept (has_kept ho4_10 hb12) hb13) hb14)) (by decide) (by omega)).mono ?_
      rintro e w15 ⟨rfl, rfl⟩
      go_wp2_with fail
      go_ret
      exact ⟨rfl, hb014⟩

theorem Try.own : ownKnob Try.prog.godebug = none := by kernel_rfl
theorem Try.laidOut : laidOutB Try.prog = true := by kernel_rfl

set_option maxRecDepth 100000 in
theorem faster_lifted (os : Os) (started : os.Started) (H : Type) (enc : TypeId × Value → H) :
    ReturnsInHanded {} Try.checked os 7 .any (Rows.fnExactDesignFasterSpec.pre6 enc Try.prog Try.f7 Rows.fnExactDesignFasterRow.domain false) (Rows.fnExactDesignFasterSpec.post enc Try.prog Try.f7 false true false false) := by
  refine returnsInHanded_of_change (C := Try.checked) Try.own started (by kernel_rfl) Try.func7
    (ChangeSpec.witness6 (enc := enc) (C := Try.checked) false ⟨#[], #[.slice none 0 0, .int .i64 0], []⟩ 8 (by kernel_rfl) (by kernel_rfl) (by kernel_rfl) (by kernel_rfl)) ?_
  intro W base args ds gs before hval0 hW hcnd _
  have hval : ∀ (j : Nat) t v, Try.f7.params[j]? = some t → args[j]? = some v → Value.okWide Try.prog W .any base t v := hval0
  have hW' := hW
  obtain ⟨p, q, hA0, hV, rfl, hfz, hnd⟩ := hW
  have hA : DataW.TrodAll enc Try.prog W 0 (fun _ => true) true Try.f7.params.toList args.toList ds p := hA0
  rw [Try.params7] at hA hval
  obtain ⟨v0, v1, d0, d1, p0, p1, rfl, rfl, rfl, h0, h1⟩ := trodAll_two hA
  obtain ⟨rfl, rfl⟩ := trodVars_none hV
  have h0k := h0
  obtain ⟨a0, len, cap, rfl⟩ := okWide_slice Try.underlying22 (hval 0 22 v0 rfl rfl)
  obtain ⟨fuel, hf⟩ := h0
  obtain ⟨ws, hr⟩ := open_wheels Try.underlying22 Try.underlying53 (by kernel_rfl) ⟨by kernel_rfl, by kernel_rfl, Try.underlying3⟩ ⟨by kernel_rfl, by kernel_rfl, Try.underlying51⟩ ⟨by kernel_rfl, by kernel_rfl, Try.underlying24⟩ ⟨by kernel_rfl, Try.underlying3⟩ hf
  obtain ⟨m, rfl, rfl, rfl, wm⟩ := open_int Try.underlying3 (hval 1 3 v1 rfl rfl) h1
  clear hA0 hval0
  simp only [List.append_nil] at hW'
  refine (fasterLaw _ ws m W hr).mono fun e W' ⟨he, hb⟩ => ?_
  subst he
  exact ⟨_, rfl, _, _, _, [], _, [], hW', trodAll_mk1 (shut_bool Try.underlying4 _), trodAll_mk2 (Below.trod Try.laidOut (by kernel_rfl) (of_decide_eq_true (by kernel_rfl)) h0k hb (fun x hx => by simpa using hW'.lt x hx)) (shut_int Try.underlying3 wm), rfl, hb.frame _, fun h => by cases h⟩

theorem faster_holds : Rows.FnExactDesignFasterSaid :=
  OpenClaim.holds_of_wide 7 Try.f7 rfl rfl rfl rfl rfl rfl rfl ⟨rfl, rfl, rfl, rfl, rfl⟩ rfl rfl rfl rfl rfl (by kernel_rfl) Try.func7 (by kernel_rfl)
    (of_decide_eq_true (by kernel_rfl)) (by unfold Func.isWrapper; first | (rw [if_pos (by decide +kernel)]; kernel_rfl) | (rw [if_neg (by decide +kernel)]; exact ⟨rfl, rfl⟩))
    (fun os started H enc _ => faster_lifted os started H enc)

end Go.Proofs.Ytodjmmdfgjkhiaa
