/-
  The program's PathOf returns what the reference's returns, for all arguments: the law FnExactPathOf answers true at every row. No condition.
-/
import Derived.Test.YtnlmiemnblppbaaPo
import Derived.Test.YtnlmiemnblppbaaPc
import Derived.Test.YtnlmiemnblppbaaOpenC
namespace Go.Proofs.Ytnlmiemnblppbaa
open Go.ChangeShapes Go.WideShapes Go.ChangeAt Go.RowKit

theorem poRes_len (cs : List C8) : (poRes cs).1.length ≤ 24 := by
  unfold poRes
  split
  · rename_i h
    unfold pathRes
    split
    · show (sPts cs cs.length).length ≤ 24
      rw [sPts_len cs cs.length (Nat.le_refl _)]
      exact (row_small h).2.1
    · simp
  · simp

theorem poRes_fin (cs : List C8) : ∀ z ∈ (poRes cs).1, FinZ z := by
  unfold poRes
  split
  · rename_i h
    unfold pathRes
    split
    · intro z hz
      simp only [sPts, List.take_length, List.mem_map] at hz
      obtain ⟨c, hc, rfl⟩ := hz
      obtain ⟨i, hi, rfl⟩ := List.mem_iff_getElem.1 hc
      have := sumZ_fin _ ((row_small h).2.2 i hi) 8 (Nat.le_refl _)
      exact ⟨Nat.le_trans this.1 (by decide), Nat.le_trans this.2 (by decide)⟩
    · intro z hz; cases hz
  · intro z hz; cases hz

set_option maxRecDepth 100000 in
set_option maxHeartbeats 2000000 in
theorem poLaw (v : Value) (cs : List C8) (w : World) (hr : Reads w 8 v cs.length (cyCells cs)) :
    Calls Try.prog 4 #[v] w fun e w' => e = .returned (.bool true) ∧ Below w.heap.size w w' := by
  have Hr := hide hr
  obtain ⟨_, hm, A, c, rfl, _⟩ := hr
  by_cases hbig : 1048576 < cs.length
  · go_enter Try.func4, Try.ntmps4
    go_wp2
    go_ret
    exact ⟨rfl, Below.refl _ _⟩
  · have hl := poRes_len cs
    have hfz := poRes_fin cs
    have himp := fun v w (hr : Reads w 8 v cs.length (cyCells cs)) => implPO_ok v cs w hr (by omega)
    have hspe := fun v w (hr : Reads w 8 v cs.length (cyCells cs)) => specPO_ok v cs w hr (by omega)
    unfold PoPost at himp hspe
    generalize poRes cs = r at hl hfz himp hspe
    obtain ⟨xs, ok⟩ := r
    dsimp only at hl hfz himp hspe
    have Himp := hide himp
    have Hspe := hide hspe
    have Hfz := hide hfz
    clear himp hspe hfz
    go_enter Try.func4, Try.ntmps4
    go_wp2_with (first | (go_at_call 16; go_in) | fail)
    refine (toCycS_ok _ cs _ Hr.out (by omega)).mono ?_
    rintro e w1 ⟨v1, rfl, ho1, hb1⟩
    go_wp2_with fail
    refine (Hspe.out _ _ (owns_reads ho1)).mono ?_
    rintro e w2 ⟨v2, rfl, ho2, hb2⟩
    have hb02 := kept_trans hb1 hb2
    go_wp2_with fail
    refine (toCycS_ok _ cs _ (reads_kept Hr.out hb02) (by omega)).mono ?_
    rintro e w3 ⟨v3, rfl, ho3', hb3⟩
    have ho3 := has_owns ho3'
    have hb03 := kept_trans hb02 hb3
    go_wp2_with fail
    refine (Himp.out _ _ (has_reads ho3)).mono ?_
    rintro e w4 ⟨v4, rfl, ho4, hb4⟩
    have hb04 := kept_trans hb03 hb4
    go_wp2_with fail
    have ho2_4 := has_kept (has_kept ho2 hb3) hb4
    refine (eqC_ok _ _ xs _ (has_reads ho4) (has_reads ho2_4) Hfz.out).mono ?_
    rintro e w5 ⟨rfl, hb5⟩
    have hb05 := kept_trans hb04 hb5
    cases ok
    all_goals
      go_wp2_with fail
      refine (toCycS_ok _ cs _ (reads_kept Hr.out hb05) (by omega)).mono ?_
      rintro e w6 ⟨v6, rfl, ho6, hb6⟩
      have hb06 := kept_trans hb05 hb6
      have ho3_6 := has_kept (has_kept (has_kept ho3 hb4) hb5) hb6
      go_wp2_with fail
      refine (eqCycS_ok _ _ cs _ (has_reads ho3_6) (owns_reads ho6)).mono ?_
      rintro e w7 ⟨rfl, hb7⟩
      have hb07 := kept_trans hb06 hb7
      have ho3_7 := has_kept ho3_6 hb7
      have ho4_7 := has_kept (has_kept (has_kept ho4 hb5) hb6) hb7
      have ho2_7 := has_kept (has_kept (has_kept ho2_4 hb5) hb6) hb7
      go_wp2_with fail
      -- the argument is marked; the result is as it was
      refine (markCycS_ok w2.heap.size cs.length _ _ 1 _ ho3_7 (by decide) (by omega)).mono ?_
      rintro e w8 ⟨rfl, ho3_8, hg8⟩
      have hb08 := kept_grown hb07 hg8 (fun k hk => Nat.le_trans hb02.size (has_lt ho3 k hk).1)
      have ap3_4 := has_apart ho3 ho4
      have ap2_3 := has_apart ho2 ho3
      have ap2_4 := has_apart (has_kept ho2 hb3) ho4
      have ho4_8 : Has w8 w3.heap.size 1 v4 xs.length (cCells xs) := has_grown ho4_7 hg8 (by
        rcases ap3_4 with h | h
        · rw [h]; cases v4.ownBlock <;> simp
        · exact .inr (Ne.symm h))
      have ho2_8 := has_grown ho2_7 hg8 ap2_3
      go_wp2_with fail
      refine (eqC_ok _ _ xs _ (has_reads ho4_8) (has_reads ho2_8) Hfz.out).mono ?_
      rintro e w9 ⟨rfl, hb9⟩
      have hb09 := kept_trans hb08 hb9
      go_wp2_with fail
      refine (markC_ok w3.heap.size xs.length _ _ 1 _ (has_kept ho4_8 hb9) (by omega)).mono ?_
      rintro e w10 ⟨rfl, ho4_10, hg10⟩
      have hb010 := kept_grown hb09 hg10 (fun k hk => Nat.le_trans hb03.size (has_lt ho4 k hk).1)
      have ho2_10 := has_grown (has_kept ho2_8 hb9) hg10 ap2_4
      go_wp2_with fail
      refine (heldC_ok _ xs.length 1 _ (has_reads ho4_10) (by omega)).mono ?_
      rintro e w11 ⟨rfl, rfl⟩
      go_wp2_with fail
      refine (toCycS_ok _ cs _ (reads_kept Hr.out hb010) (by omega)).mono ?_
      rintro e w12 ⟨v12, rfl, ho12, hb12⟩
      have hb012 := kept_trans hb010 hb12
      go_wp2_with fail
      refine (Himp.out _ _ (owns_reads ho12)).mono ?_
      rintro e w13 ⟨v13, rfl, ho13, hb13⟩
      have hb013 := kept_trans hb012 hb13
      go_wp2_with fail
      refine (eqC_ok _ _ xs _ (has_reads ho13) (has_reads (has_kept (has_kept ho2_10 hb12) hb13)) Hfz.out).mono ?_
      rintro e w14 ⟨rfl, hb14⟩
      have hb014 := kept_trans hb013 hb14
      go_wp2_with fail
      refine (heldC_ok _ xs.length 1 _ (has_reads (has_kept (has_kept (has_kept ho4_10 hb12) hb13) hb14)) (by omega)).mono ?_
      rintro e w15 ⟨rfl, rfl⟩
      go_wp2_with fail
      go_ret
      exact ⟨rfl, hb014⟩

theorem Try.own : ownKnob Try.prog.godebug = none := by kernel_rfl
theorem Try.laidOut : laidOutB Try.prog = true := by kernel_rfl

set_option maxRecDepth 100000 in
theorem pathOf_lifted (os : Os) (started : os.Started) (H : Type) (enc : TypeId × Value → H) :
    ReturnsInHanded {} Try.checked os 4 .any (Rows.fnExactPathOfSpec.pre6 enc Try.prog Try.f4 Rows.fnExactPathOfRow.domain false) (Rows.fnExactPathOfSpec.post enc Try.prog Try.f4 false true false false) := by
  refine returnsInHanded_of_change (C := Try.checked) Try.own started (by kernel_rfl) Try.func4
    (ChangeSpec.witness6 (enc := enc) (C := Try.checked) false ⟨#[], #[.slice none 0 0], []⟩ 8 (by kernel_rfl) (by kernel_rfl) (by kernel_rfl) (by kernel_rfl)) ?_
  intro W base args ds gs before hval0 hW hcnd _
  have hval : ∀ (j : Nat) t v, Try.f4.params[j]? = some t → args[j]? = some v → Value.okWide Try.prog W .any base t v := hval0
  have hW' := hW
  obtain ⟨p, q, hA0, hV, rfl, hfz, hnd⟩ := hW
  have hA : DataW.TrodAll enc Try.prog W 0 (fun _ => true) true Try.f4.params.toList args.toList ds p := hA0
  rw [Try.params4] at hA hval
  obtain ⟨v0, d0, rfl, rfl, h0⟩ := trodAll_one hA
  obtain ⟨rfl, rfl⟩ := trodVars_none hV
  have h0k := h0
  obtain ⟨a0, len, cap, rfl⟩ := okWide_slice Try.underlying36 (hval 0 36 v0 rfl rfl)
  obtain ⟨fuel, hf⟩ := h0
  obtain ⟨cs, hr⟩ := open_cycs Try.underlying36 Try.underlying80 (by kernel_rfl) ⟨by kernel_rfl, by kernel_rfl, Try.underlying49⟩ ⟨by kernel_rfl, Try.underlying3⟩ hf
  clear hA0 hval0
  simp only [List.append_nil] at hW'
  refine (poLaw _ cs W hr).mono fun e W' ⟨he, hb⟩ => ?_
  subst he
  exact ⟨_, rfl, _, _, _, [], _, [], hW', trodAll_mk1 (shut_bool Try.underlying4 _), trodAll_mk1 (Below.trod Try.laidOut (by kernel_rfl) (of_decide_eq_true (by kernel_rfl)) h0k hb (fun x hx => by simpa using hW'.lt x hx)), rfl, hb.frame _, fun h => by cases h⟩

theorem pathOf_holds : Rows.FnExactPathOfSaid :=
  OpenClaim.holds_of_wide 4 Try.f4 rfl rfl rfl rfl rfl rfl rfl ⟨rfl, rfl, rfl, rfl, rfl⟩ rfl rfl rfl rfl rfl (by kernel_rfl) Try.func4 (by kernel_rfl)
    (of_decide_eq_true (by kernel_rfl)) (by unfold Func.isWrapper; first | (rw [if_pos (by decide +kernel)]; kernel_rfl) | (rw [if_neg (by decide +kernel)]; exact ⟨rfl, rfl⟩))
    (fun os started H enc _ => pathOf_lifted os started H enc)

end Go.Proofs.Ytnlmiemnblppbaa
