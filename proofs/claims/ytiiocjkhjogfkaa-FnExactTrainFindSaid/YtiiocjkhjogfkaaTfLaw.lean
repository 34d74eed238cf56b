/-
  The program's TrainFind returns what the reference's returns, for all arguments: the law FnExactTrainFind answers true at every two integers. No condition.
-/
import Derived.Test.YtiiocjkhjogfkaaRows
import Derived.Test.YtiiocjkhjogfkaaBase
import Derived.Test.YtiiocjkhjogfkaaInts
import Derived.Test.YtiiocjkhjogfkaaTf
import Derived.ProofKit
namespace Go.Proofs.Ytiiocjkhjogfkaa
open Go.ChangeShapes Go.WideShapes Go.ChangeAt Go.RowKit

theorem intsAt (xs : List Int) (i : Nat) (h : i < xs.length) : ∃ z : Int, (xs.map (Value.int .i64))[i]? = some (.int .i64 z) := ⟨xs[i], by simp [h]⟩

theorem tfAll_len (top bottom : Int) : (tfAll top bottom).1.length ≤ 2 := by
  have : ∀ f a, (tfFrom f top bottom a).1.length ≤ 2 := by
    intro f
    induction f with
    | zero => intro a; simp [tfFrom]
    | succ f ih => intro a; simp only [tfFrom]; split <;> simp [ih]
  unfold tfAll
  split <;> simp [this]

set_option maxHeartbeats 800000 in
theorem lawFind (top bottom : Int) (w : World) :
    Calls Try.prog 3 #[.int .i64 top, .int .i64 bottom] w fun e w' => e = .returned (.bool true) ∧ Below w.heap.size w w' := by
  have hl := tfAll_len top bottom
  have hx := intsAt (tfAll top bottom).1
  generalize hr : tfAll top bottom = r at hl hx
  have Hr := hide hr
  clear hr
  obtain ⟨xs, ok⟩ := r
  dsimp only at hl hx
  have Hx : Hid _ := hx
  clear hx
  go_enter Try.func3, Try.ntmps3
  go_wp2_with fail
  refine (specFind top bottom _).mono ?_
  rw [Hr.out]
  rintro e w1 ⟨v1, rfl, ho1, hb1⟩
  go_wp2_with fail
  refine (implFind top bottom _).mono ?_
  rw [Hr.out]
  rintro e w2 ⟨v2, rfl, ho2, hb2⟩
  go_wp2_with fail
  have ho1' := owns_kept ho1 hb2
  refine (eqIntS_ok w.heap.size _ _ _ _ _ (owns_base ho2 hb1.size) ho1' Hx.out).mono ?_
  rintro e w3 ⟨rfl, hb3⟩
  cases ok
  all_goals
    go_wp2_with fail
    refine (markIntS_ok w1.heap.size _ _ _ _ _ (owns_kept ho2 hb3) Hx.out (by omega) (by omega)).mono ?_
    rintro e w4 ⟨rfl, ho4, hg4⟩
    go_wp2_with fail
    refine (heldIntS_ok w1.heap.size _ _ _ _ _ ho4 (fun i hi => marks_get _ _ i hi) (by omega) (by omega)).mono ?_
    rintro e w' ⟨rfl, rfl⟩
    go_wp2_with fail
    refine (implFind top bottom _).mono ?_
    rw [Hr.out]
    rintro e w5 ⟨v5, rfl, ho5, hb5⟩
    go_wp2_with fail
    have ho1'' := owns_kept ((owns_kept ho1' hb3).kept hg4 (owns_apart ho1 ho2)) hb5
    have hle : w.heap.size ≤ _ := Nat.le_trans hb1.size (Nat.le_trans hb2.size (Nat.le_trans hb3.size hg4.size))
    refine (eqIntS_ok w.heap.size _ _ _ _ _ (owns_base ho5 hle) ho1'' Hx.out).mono ?_
    rintro e w6 ⟨rfl, hb6⟩
    go_wp2_with fail
    refine (heldIntS_ok w1.heap.size _ _ _ _ _ (owns_kept (owns_kept ho4 hb5) hb6) (fun i hi => marks_get _ _ i hi) (by omega) (by omega)).mono ?_
    rintro e w' ⟨rfl, rfl⟩
    go_wp2_with fail
    go_ret
    exact ⟨rfl, kept_trans (kept_trans (kept_grown (kept_trans (kept_trans hb1 hb2) hb3) hg4 (fun k hk => Nat.le_trans hb1.size (ho2.lt k hk).1)) hb5) hb6⟩

theorem Try.own : ownKnob Try.prog.godebug = none := by kernel_rfl

set_option maxRecDepth 100000 in
theorem find_lifted (os : Os) (started : os.Started) (H : Type) (enc : TypeId × Value → H) :
    ReturnsInHanded {} Try.checked os 3 .any (Rows.fnExactTrainFindSpec.pre6 enc Try.prog Try.f3 Rows.fnExactTrainFindRow.domain false) (Rows.fnExactTrainFindSpec.post enc Try.prog Try.f3 false true false false) := by
  refine returnsInHanded_of_change (C := Try.checked) Try.own started (by kernel_rfl) Try.func3
    (ChangeSpec.witness6 (enc := enc) (C := Try.checked) false ⟨#[], #[.int .i64 0, .int .i64 0], []⟩ 8 (by kernel_rfl) (by kernel_rfl) (by kernel_rfl) (by kernel_rfl)) ?_
  intro W base args ds gs before hval0 hW hcnd _
  have hval : ∀ (j : Nat) t v, Try.f3.params[j]? = some t → args[j]? = some v → Value.okWide Try.prog W .any base t v := hval0
  have hW' := hW
  obtain ⟨p, q, hA0, hV, rfl, hfz, hnd⟩ := hW
  have hA : DataW.TrodAll enc Try.prog W 0 (fun _ => true) true Try.f3.params.toList args.toList ds p := hA0
  rw [Try.params3] at hA hval
  obtain ⟨v0, v1, d0, d1, p0, p1, rfl, rfl, rfl, h0, h1⟩ := trodAll_two hA
  obtain ⟨rfl, rfl⟩ := trodVars_none hV
  obtain ⟨a, rfl, rfl, rfl, wa⟩ := open_int Try.underlying3 (hval 0 3 v0 rfl rfl) h0
  obtain ⟨b, rfl, rfl, rfl, wb⟩ := open_int Try.underlying3 (hval 1 3 v1 rfl rfl) h1
  clear hA0 hval0
  simp only [List.append_nil] at hW'
  refine (lawFind a b W).mono fun e W' ⟨he, hb⟩ => ?_
  subst he
  exact ⟨_, rfl, _, _, _, [], [], [], hW', trodAll_mk1 (shut_bool Try.underlying4 _), trodAll_mk2 (shut_int Try.underlying3 wa) (shut_int Try.underlying3 wb), rfl, hb.frame _, fun h => by cases h⟩

theorem find_holds : Rows.FnExactTrainFindSaid :=
  OpenClaim.holds_of_wide 3 Try.f3 rfl rfl rfl rfl rfl rfl rfl ⟨rfl, rfl, rfl, rfl, rfl⟩ rfl rfl rfl rfl rfl (by kernel_rfl) Try.func3 (by kernel_rfl)
    (of_decide_eq_true (by kernel_rfl)) (by unfold Func.isWrapper; first | (rw [if_pos (by decide +kernel)]; kernel_rfl) | (rw [if_neg (by decide +kernel)]; exact ⟨rfl, rfl⟩))
    (fun os started H enc _ => find_lifted os started H enc)

end Go.Proofs.Ytiiocjkhjogfkaa
