/-
  Found trains have the ratio: the law FnTrainFind answers true at every code. No condition but the card's own: the variable errors.errorType holds what the program's text lays.
-/
import Derived.Test.YtiiocjkhjogfkaaDoorTfM
import Derived.Test.YtiiocjkhjogfkaaDoorDrTr
import Derived.Test.YtiiocjkhjogfkaaDoorHandle
namespace Go.Proofs.YtiiocjkhjogfkaaDoor
open Go.ChangeShapes Go.WideShapes Go.RowKit

theorem rdI_owns {w : World} {B : Nat} {v : Value} {zs : List Int} (h : w.ownsRow B 3 1 v zs.length (zs.map (Value.int .i64))) : ∃ A c, v = .slice A zs.length c ∧ RdI w A c zs := by
  have hr := owns_reads h
  rcases h.2 with ⟨rfl, h0⟩ | ⟨g, cap, cur, rfl, hb, hg, hn, hcap, hsz, htk⟩
  · refine ⟨none, 0, by rw [h0], ?_⟩
    have h1 : zs.length = 0 := h0
    exact ⟨by simpa [h1] using hr, by omega⟩
  · exact ⟨_, cap, rfl, hr, by omega⟩

theorem u_bd {U b : Int} (h1 : -240 ≤ U) (h2 : U ≤ 240) (h3 : 1 ≤ b) (h4 : b ≤ 1000) : -240000 ≤ U * b ∧ U * b ≤ 240000 := by
  have m1 := Int.mul_le_mul_of_nonneg_right h1 (show 0 ≤ b by omega)
  have m2 := Int.mul_le_mul_of_nonneg_right h2 (show 0 ≤ b by omega)
  omega

set_option maxRecDepth 100000 in
set_option maxHeartbeats 2000000 in
theorem fnFindLaw (A : Option Addr) (c : Nat) (bs : List Int) (w : World) (hcode : CodeIn w A c bs) (hg : Handle w) :
    Calls Tryd.prog 9 #[.slice A bs.length c] w fun e w' => e = .returned (.bool true) ∧ Below w.heap.size w w' := by
  have HG := hide hg
  have Hcode := hide hcode
  have hm := hcode.1.2.1
  clear hcode hg
  by_cases hbig : 1048576 < bs.length
  · go_enter Tryd.func9, Tryd.ntmps9
    go_wp2
    go_ret
    exact ⟨rfl, Below.refl _ _⟩
  · go_enter Tryd.func9, Tryd.ntmps9
    go_wp2_with fail
    refine (drawFind_ok A c bs _ Hcode.out).mono ?_
    rintro e w1 ⟨top, bottom, rfl, hb1⟩
    have HG1 := hide (handle_kept HG.out hb1)
    clear hm hbig HG Hcode
    have hi := fun w => implFind top bottom w
    have hs := fun w => specFind top bottom w
    cases hT : tfAll top bottom with
    | mk xs b =>
    rw [hT] at hi hs
    have Hi := hide hi
    have Hs := hide hs
    clear hi hs
    cases b with
    | true =>
      obtain ⟨p, q, rfl, hp, hq, hpq, ht, hbt⟩ := find_true hT
      obtain ⟨U, V, g, ho, hU, hV, hg1, hpU, hqV⟩ := pair_out hp hq
      have HF : Hid (-(U * bottom) = V * top) := found_ratio hpq hg1 hpU hqV
      have HO : Hid (trainOut [p, q] = ((U, V), true)) := ho
      obtain ⟨b1, b2⟩ := u_bd hU.1 hU.2 hbt.1 hbt.2
      obtain ⟨b3, b4⟩ := u_bd hV.1 hV.2 ht.1 ht.2
      clear hT hpq hg1 hpU hqV ho
      go_wp2_with fail
      refine (Hi.out _).mono ?_
      rintro e w2 ⟨v, rfl, hv2, hb2⟩
      obtain ⟨Av, cv, rfl, hr2⟩ := rdI_owns hv2
      have HR2 := hide hr2
      have hb02 := kept_trans hb1 hb2
      have HG2 := hide (handle_kept HG1.out hb2)
      clear hb1 hb2 HG1 Hi hv2 hr2
      dsimp only [List.length_cons, List.length_nil] at *
      go_wp2_with fail
      refine (Hs.out _).mono ?_
      rintro e w3 ⟨v', rfl, hv3, hb3⟩
      have HV3 := hide (owns_reads hv3)
      have hb03 := kept_trans hb02 hb3
      have HR3 := hide (rdI_kept HR2.out hb3)
      have HG3 := hide (handle_kept HG2.out hb3)
      clear hb02 hb3 HG2 Hs HR2 hv3
      go_wp2_with fail
      refine (sameInts_ok _ _ [p, q] _ HR3.out.1 HV3.out).mono ?_
      rintro e w4 ⟨rfl, hb4⟩
      have hb04 := kept_trans hb03 hb4
      have HR4 := hide (rdI_kept HR3.out hb4)
      have HG4 := hide (handle_kept HG3.out hb4)
      clear hb03 hb4 HG3 HR3 HV3
      go_wp2_with fail
      refine (trainImpl_ok Av cv [p, q] _ HR4.out (by simp) HG4.out).mono ?_
      rw [HO.out]
      rintro e w5 ⟨rfl, hb5⟩
      have hb05 := kept_trans hb04 hb5
      clear hb04 hb5 HG4 HR4 HO hp hq
      dsimp only
      go_wp2_with fail
      go_ret
      exact ⟨show Ending.returned (.bool (-(U * bottom) == V * top)) = _ by rw [HF.out]; simp, hb05⟩
    | false =>
      clear hT
      go_wp2_with fail
      refine (Hi.out _).mono ?_
      rintro e w2 ⟨v, rfl, hv2, hb2⟩
      have HR2 := hide (owns_reads hv2)
      have hb02 := kept_trans hb1 hb2
      clear hb1 hb2 HG1 Hi hv2
      dsimp only at *
      go_wp2_with fail
      refine (Hs.out _).mono ?_
      rintro e w3 ⟨v', rfl, hv3, hb3⟩
      have HV3 := hide (owns_reads hv3)
      have hb03 := kept_trans hb02 hb3
      have HR3 := hide (reads_kept HR2.out hb3)
      clear hb02 hb3 Hs HR2 hv3
      dsimp only at *
      go_wp2_with fail
      refine (sameInts_ok _ _ xs _ HR3.out HV3.out).mono ?_
      rintro e w4 ⟨rfl, hb4⟩
      have hb04 := kept_trans hb03 hb4
      have HR4 := hide (reads_kept HR3.out hb4)
      have HV4 := hide (reads_kept HV3.out hb4)
      clear hb03 hb4 HR3 HV3
      go_wp2_with fail
      refine (sameInts_ok _ _ xs _ HR4.out HV4.out).mono ?_
      rintro e w5 ⟨rfl, hb5⟩
      have hb05 := kept_trans hb04 hb5
      clear hb04 hb5 HR4 HV4
      go_wp2_with fail
      go_ret
      exact ⟨rfl, hb05⟩

set_option maxRecDepth 100000 in
theorem fnFind_lifted (os : Os) (started : os.Started) (H : Type) (enc : TypeId × Value → H) :
    ReturnsInHanded {} Tryd.checked os 9 .any (fun w args => (Rows.fnTrainFindSpec.pre enc Tryd.prog Tryd.f9 [] false w args ∧ laidMetH Tryd.prog theLaid w) ∧ sizedMet enc Tryd.prog Tryd.f9 (OpenSpec.ofChange Rows.fnTrainFindSpec) false w args)
      (Rows.fnTrainFindSpec.post enc Tryd.prog Tryd.f9 false true false false) := by
  refine returnsInHanded_of_change_and (C := Tryd.checked) (X := fun w _ => laidMetH Tryd.prog theLaid w) (fun _ _ _ hh h => h.of_heap hh) Tryd.own started (by kernel_rfl) Tryd.func9
    (ChangeSpec.witness_at (enc := enc) (C := Tryd.checked) (os := os) (X := fun w _ => laidMetH Tryd.prog theLaid w) false (laidWorld os) #[.slice none 0 0] 8 rfl (by kernel_rfl) (by kernel_rfl) (by kernel_rfl) (by kernel_rfl) (by kernel_rfl) (laidWorld_met os _)) ?_
  intro W base args ds gs before hval0 hW _ _ hL _
  have hval : ∀ (j : Nat) t v, Tryd.f9.params[j]? = some t → args[j]? = some v → Value.okWide Tryd.prog W .any base t v := hval0
  have hW' := hW
  obtain ⟨p, q, hA0, hV0, rfl, hfz, hnd⟩ := hW
  have hA : DataW.TrodAll enc Tryd.prog W 0 (fun _ => true) true Tryd.f9.params.toList args.toList ds p := hA0
  have hV : DataW.TrodVars enc Tryd.prog W (fun _ => true) [] gs q := hV0
  rw [Tryd.params9] at hA hval
  have hg := handle_of_laid hL
  obtain ⟨rfl, rfl⟩ : gs = [] ∧ q = [] := by
    cases gs with
    | nil => exact ⟨rfl, hV⟩
    | cons g r => exact absurd hV (by intro h; cases h)
  obtain ⟨v0, d0, rfl, rfl, h0⟩ := trodAll_one hA
  have h0k := h0
  obtain ⟨a0, len, cap, rfl⟩ := okWide_slice Tryd.underlying25 (hval 0 25 v0 rfl rfl)
  obtain ⟨fuel, hf⟩ := h0
  obtain ⟨A, c, bs, hv, hr⟩ := open_bytes Tryd.underlying25 Tryd.underlying5 (by kernel_rfl) hf
  rw [hv] at h0k hval hf ⊢
  clear hA0 hval0
  simp only [List.append_nil] at hW'
  rw [hv] at hW'
  refine (fnFindLaw A c bs W hr hg).mono fun e W' ⟨he, hb⟩ => ?_
  subst he
  exact ⟨_, rfl, _, _, _, [], _, [], hW', trodAll_mk1 (shut_bool Tryd.underlying4 _), trodAll_mk1 (Below.trod Tryd.laidOut (by kernel_rfl) (of_decide_eq_true (by kernel_rfl)) h0k hb (fun x hx => by simpa using hW'.lt x hx)), rfl, hb.frame _, fun h => by cases h⟩

theorem fnFind_row : Rows.FnTrainFindSaid :=
  OpenClaim.holds_of_wide 9 Tryd.f9 rfl rfl rfl rfl rfl rfl rfl ⟨rfl, rfl, rfl, rfl, rfl⟩ rfl rfl rfl rfl rfl (by kernel_rfl) Tryd.func9 (by kernel_rfl)
    (of_decide_eq_true (by kernel_rfl)) (by unfold Func.isWrapper; first | (rw [if_pos (by decide +kernel)]; kernel_rfl) | (rw [if_neg (by decide +kernel)]; exact ⟨rfl, rfl⟩))
    (fun os started H enc _ => fnFind_lifted os started H enc)

theorem fnFind_holds : Rows.FnTrainFindCardSaid :=
  Claim7.holds_tied_plain_at .later [] [.handle] true (true, "85218d0d5ad8b28a4c3c6d827174e40ec4c47f608e78e1b43088282c33ffb9c5") true
    fnFind_row (fun _ h => by cases h) (by kernel_rfl) (fun _ h => by cases h) fnTrainFind_row_tie rfl ⟨rfl, rfl⟩ (by kernel_rfl) rfl
    (fun f fn hf hfn => by
      obtain rfl : f = 9 := Option.some.inj ((show Tryd.prog.funcNamed Rows.fnTrainFindRow.func = some 9 by kernel_rfl).symm.trans hf) |>.symm
      obtain rfl : fn = Tryd.f9 := (Option.some.inj (Tryd.func9.symm.trans hfn)).symm
      exact ⟨by kernel_rfl, fun j t ht => by
        rw [Tryd.params9] at ht
        have hts : t ∈ [25] := by
          rw [Array.getElem?_eq_some_iff] at ht
          obtain ⟨hj, ht⟩ := ht
          rw [← ht]
          exact Array.getElem_mem_toList hj
        simp only [List.mem_cons, List.not_mem_nil, or_false] at hts
        subst hts
        · exact (show Tryd.prog.wantsStandIn 25 = false by kernel_rfl)⟩)
    (by kernel_rfl)

end Go.Proofs.YtiiocjkhjogfkaaDoor
