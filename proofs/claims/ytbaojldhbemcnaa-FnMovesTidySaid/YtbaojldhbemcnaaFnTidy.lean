/-
  Tidy moves lead to the same place: the law FnMovesTidy answers true at every code. No condition.
-/
import Derived.Test.YtbaojldhbemcnaaTidyS
import Derived.Test.YtbaojldhbemcnaaTidyQ
import Derived.Test.YtbaojldhbemcnaaReach
import Derived.Test.YtbaojldhbemcnaaOpen
namespace Go.Proofs.Ytbaojldhbemcnaa
open Go.ChangeShapes Go.WideShapes Go.ChangeAt Go.RowKit

theorem mv_full (ms : List (Int × Int)) : mvX ms ms.length = (ms.map Prod.fst).sum ∧ mvY ms ms.length = (ms.map Prod.snd).sum ∧ mvSum ms ms.length = (ms.map mvLen).sum := by
  simp [mvX, mvY, mvSum]

theorem sum_rev' (l : List Int) : l.reverse.sum = l.sum := by
  induction l with
  | nil => rfl
  | cons a l ih => simp [ih]; omega

/-- What the tidy moves keep, and that they are tidy. -/
theorem tidy_keeps (ms : List (Int × Int)) (h1 : mvsIn ms = true) (h2 : mvsIn (Tidy.acc ms).reverse = true) :
    tidyRes (Tidy.acc ms).reverse = ((Tidy.acc ms).reverse, true) ∧ mvX (Tidy.acc ms).reverse (Tidy.acc ms).reverse.length = mvX ms ms.length ∧ mvY (Tidy.acc ms).reverse (Tidy.acc ms).reverse.length = mvY ms ms.length ∧ movesLen (Tidy.acc ms).reverse = movesLen ms := by
  have a := mv_full ms
  have b := mv_full (Tidy.acc ms).reverse
  refine ⟨by simp [tidyRes, h2, Tidy.acc_idem], ?_, ?_, ?_⟩
  · rw [a.1, b.1, List.map_reverse, sum_rev', Tidy.acc_sum Prod.fst rfl (fun _ _ _ _ _ => rfl)]
  · rw [a.2.1, b.2.1, List.map_reverse, sum_rev', Tidy.acc_sum Prod.snd rfl (fun _ _ _ _ _ => rfl)]
  · unfold movesLen
    rw [h1, h2, if_pos rfl, if_pos rfl, a.2.2, b.2.2, List.map_reverse, sum_rev', Tidy.acc_sum mvLen (by simp [mvLen]) (fun l m hl hm hd => by simpa [mvLen] using Tidy.len_join l m hl hm hd)]

set_option maxRecDepth 100000 in
set_option maxHeartbeats 2000000 in
theorem lawFnTidy (A : Option Addr) (c : Nat) (bs : List Int) (w : World) (hcode : CodeIn w A c bs) :
    Calls Try.prog 7 #[.slice A bs.length c] w fun e w' => e = .returned (.bool true) ∧ Below w.heap.size w w' := by
  have Hcode := hide hcode
  have hm := hcode.1.2.1
  clear hcode
  by_cases hbig : 1048576 < bs.length
  · go_enter Try.func7, Try.ntmps7
    go_wp2
    go_ret
    exact ⟨rfl, Below.refl _ _⟩
  · go_enter Try.func7, Try.ntmps7
    go_wp2_with fail
    refine (drawTidy_ok A c bs _ Hcode.out).mono ?_
    rintro e w1 ⟨v1, ms, rfl, ho1, hl, hb1⟩
    have hr1 := owns_reads ho1
    clear ho1 hl
    by_cases hok : mvsIn ms = true ∧ mvsIn (Tidy.acc ms).reverse = true
    · have hres : tidyRes ms = ((Tidy.acc ms).reverse, true) := by simp [tidyRes, hok]
      obtain ⟨ht, hx, hy, hll⟩ := tidy_keeps ms hok.1 hok.2
      have himp := fun v w hr => implTidy_ok v ms w hr
      have hspe := fun v w hr => specTidy_ok v ms w hr
      unfold TidyPost at himp hspe
      rw [hres] at himp hspe
      have himp2 := fun v w hr => implTidy_ok v (Tidy.acc ms).reverse w hr
      unfold TidyPost at himp2
      rw [ht] at himp2
      have hin2 := hok.2
      have hrm := fun v w hr => reached_ok v ms w hr hok.1
      have hrx := fun v w hr => reached_ok v (Tidy.acc ms).reverse w hr hok.2
      rw [hx, hy] at hrx
      have hlm := fun v w hr => implLen_ok v ms w hr
      have hlx := fun v w hr => implLen_ok v (Tidy.acc ms).reverse w hr
      rw [hll] at hlx
      dsimp only at himp hspe himp2
      clear hok hres ht hx hy hll hin2
      generalize (Tidy.acc ms).reverse = xs at *
      generalize mvX ms ms.length = sx at *
      generalize mvY ms ms.length = sy at *
      generalize movesLen ms = L at *
      have Himp := hide himp
      have Hspe := hide hspe
      have Himp2 := hide himp2
      have Hrm := hide hrm
      have Hrx := hide hrx
      have Hlm := hide hlm
      have Hlx := hide hlx
      clear himp hspe himp2 hrm hrx hlm hlx
      go_wp2_with fail
      refine (Himp.out _ _ hr1).mono ?_
      rintro e w2 ⟨v2, rfl, ho2, hb2⟩
      have hb02 := kept_trans hb1 hb2
      go_wp2_with fail
      refine (Hspe.out _ _ (reads_kept hr1 hb2)).mono ?_
      rintro e w3 ⟨v3, rfl, ho3, hb3⟩
      have hb03 := kept_trans hb02 hb3
      go_wp2_with fail
      refine (sameMoves_ok _ _ xs _ (has_reads (has_kept ho2 hb3)) (has_reads ho3)).mono ?_
      rintro e w4 ⟨rfl, hb4⟩
      have hb04 := kept_trans hb03 hb4
      have hr2 := has_reads (has_kept (has_kept ho2 hb3) hb4)
      have hr1' := reads_kept (reads_kept (reads_kept hr1 hb2) hb3) hb4
      clear ho2 ho3 hr1 hb1 hb2 hb3 hb4 hb02 hb03
      go_wp2_with fail
      refine (Himp2.out _ _ hr2).mono ?_
      rintro e w5 ⟨v5, rfl, ho5, hb5⟩
      have hb05 := kept_trans hb04 hb5
      have hr2_5 := reads_kept hr2 hb5
      go_wp2_with fail
      refine (sameMoves_ok _ _ xs _ (has_reads ho5) hr2_5).mono ?_
      rintro e w6 ⟨rfl, hb6⟩
      have hb06 := kept_trans hb05 hb6
      have hr2_6 := reads_kept hr2_5 hb6
      have hr1_6 := reads_kept (reads_kept hr1' hb5) hb6
      clear ho5 hr2 hr2_5 hr1' hb5 hb6 hb05
      go_wp2_with fail
      refine (Hrx.out _ _ hr2_6).mono ?_
      rintro e w7 ⟨rfl, hb7⟩
      go_wp2_with fail
      refine (Hrm.out _ _ (reads_kept hr1_6 hb7)).mono ?_
      rintro e w8 ⟨rfl, hb8⟩
      have hb68 := kept_trans hb7 hb8
      have hb08 := kept_trans hb06 hb68
      go_wp2_with fail
      refine (Hlx.out _ _ (reads_kept hr2_6 hb68)).mono ?_
      rintro e w9 ⟨rfl, hb9⟩
      go_wp2_with fail
      refine (Hlm.out _ _ (reads_kept (reads_kept hr1_6 hb68) hb9)).mono ?_
      rintro e w10 ⟨rfl, hb10⟩
      go_wp2_with fail
      go_ret
      exact ⟨by simp, kept_trans (kept_trans hb08 hb9) hb10⟩
    · have hres : tidyRes ms = ([], false) := by simp only [tidyRes, if_neg hok]
      have himp := fun v w hr => implTidy_ok v ms w hr
      have hspe := fun v w hr => specTidy_ok v ms w hr
      unfold TidyPost at himp hspe
      rw [hres] at himp hspe
      have Himp := hide himp
      have Hspe := hide hspe
      clear himp hspe hok hres
      go_wp2_with fail
      refine (Himp.out _ _ hr1).mono ?_
      rintro e w2 ⟨v2, rfl, ho2, hb2⟩
      have hb02 := kept_trans hb1 hb2
      go_wp2_with fail
      refine (Hspe.out _ _ (reads_kept hr1 hb2)).mono ?_
      rintro e w3 ⟨v3, rfl, ho3, hb3⟩
      have hb03 := kept_trans hb02 hb3
      go_wp2_with fail
      refine (sameMoves_ok _ _ [] _ (has_reads (has_kept ho2 hb3)) (has_reads ho3)).mono ?_
      rintro e w4 ⟨rfl, hb4⟩
      have hb04 := kept_trans hb03 hb4
      go_wp2_with fail
      refine (sameMoves_ok _ _ [] _ (has_reads (has_kept (has_kept ho2 hb3) hb4)) (has_reads (has_kept ho3 hb4))).mono ?_
      rintro e w5 ⟨rfl, hb5⟩
      go_wp2_with fail
      go_ret
      exact ⟨rfl, kept_trans hb04 hb5⟩

theorem Try.own : ownKnob Try.prog.godebug = none := by kernel_rfl
theorem Try.laidOut : laidOutB Try.prog = true := by kernel_rfl

set_option maxRecDepth 100000 in
theorem fntidy_lifted (os : Os) (started : os.Started) (H : Type) (enc : TypeId × Value → H) :
    ReturnsInHanded {} Try.checked os 7 .any (Rows.fnMovesTidySpec.pre6 enc Try.prog Try.f7 Rows.fnMovesTidyRow.domain false) (Rows.fnMovesTidySpec.post enc Try.prog Try.f7 false true false false) := by
  refine returnsInHanded_of_change (C := Try.checked) Try.own started (by kernel_rfl) Try.func7
    (ChangeSpec.witness6 (enc := enc) (C := Try.checked) false ⟨#[], #[.slice none 0 0], []⟩ 8 (by kernel_rfl) (by kernel_rfl) (by kernel_rfl) (by kernel_rfl)) ?_
  intro W base args ds gs before hval0 hW hcnd _
  have hval : ∀ (j : Nat) t v, Try.f7.params[j]? = some t → args[j]? = some v → Value.okWide Try.prog W .any base t v := hval0
  have hW' := hW
  obtain ⟨p, q, hA0, hV, rfl, hfz, hnd⟩ := hW
  have hA : DataW.TrodAll enc Try.prog W 0 (fun _ => true) true Try.f7.params.toList args.toList ds p := hA0
  rw [Try.params7] at hA hval
  obtain ⟨v0, d0, rfl, rfl, h0⟩ := trodAll_one hA
  obtain ⟨rfl, rfl⟩ := trodVars_none hV
  have h0k := h0
  obtain ⟨a0, len, cap, rfl⟩ := okWide_slice Try.underlying29 (hval 0 29 v0 rfl rfl)
  obtain ⟨fuel, hf⟩ := h0
  obtain ⟨A, c, bs, hv, hr⟩ := open_bytes Try.underlying29 Try.underlying5 (by kernel_rfl) hf
  rw [hv] at h0k hval hf ⊢
  clear hA0 hval0
  simp only [List.append_nil] at hW'
  rw [hv] at hW'
  refine (lawFnTidy A c bs W hr).mono fun e W' ⟨he, hb⟩ => ?_
  subst he
  exact ⟨_, rfl, _, _, _, [], _, [], hW', trodAll_mk1 (shut_bool Try.underlying4 _), trodAll_mk1 (Below.trod Try.laidOut (by kernel_rfl) (of_decide_eq_true (by kernel_rfl)) h0k hb (fun x hx => by simpa using hW'.lt x hx)), rfl, hb.frame _, fun h => by cases h⟩

theorem fntidy_holds : Rows.FnMovesTidySaid :=
  OpenClaim.holds_of_wide 7 Try.f7 rfl rfl rfl rfl rfl rfl rfl ⟨rfl, rfl, rfl, rfl, rfl⟩ rfl rfl rfl rfl rfl (by kernel_rfl) Try.func7 (by kernel_rfl)
    (of_decide_eq_true (by kernel_rfl)) (by unfold Func.isWrapper; first | (rw [if_pos (by decide +kernel)]; kernel_rfl) | (rw [if_neg (by decide +kernel)]; exact ⟨rfl, rfl⟩))
    (fun os started H enc _ => fntidy_lifted os started H enc)

end Go.Proofs.Ytbaojldhbemcnaa
