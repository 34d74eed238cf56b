/-
  Rounds are at most the teeth of the wheel: the law FnRounds answers true at every code. No condition but the card's own: the variable errors.errorType holds what the program's text lays.
-/
import Derived.Test.YtiiocjkhjogfkaaDoorDrRing
import Derived.Test.YtiiocjkhjogfkaaDoorHandle
namespace Go.Proofs.YtiiocjkhjogfkaaDoor
open Go.ChangeShapes Go.WideShapes Go.RowKit

set_option maxRecDepth 100000 in
set_option maxHeartbeats 2000000 in
theorem fnRoundsLaw (A : Option Addr) (c : Nat) (bs : List Int) (w : World) (hcode : CodeIn w A c bs) (hg : Handle w) :
    Calls Tryd.prog 6 #[.slice A bs.length c] w fun e w' => e = .returned (.bool true) ∧ Below w.heap.size w w' := by
  have HG := hide hg
  have Hcode := hide hcode
  have hm := hcode.1.2.1
  clear hcode hg
  by_cases hbig : 1048576 < bs.length
  · go_enter Tryd.func6, Tryd.ntmps6
    go_wp2
    go_ret
    exact ⟨rfl, Below.refl _ _⟩
  · go_enter Tryd.func6, Tryd.ntmps6
    go_wp2_with fail
    refine (drawRounds_ok A c bs _ Hcode.out).mono ?_
    rintro e w1 ⟨r, q, i, rfl, hb1⟩
    have HG1 := hide (handle_kept HG.out hb1)
    clear hm hbig HG Hcode
    by_cases hP : ringP r q i
    · have hF : Hid (roundsRes r q i = (q / (Int.gcd r q : Int), true)) := by simp [roundsRes, hP, Hid]
      have hO : Hid (cuspsRes r q i = (r / (Int.gcd r q : Int), true)) := by simp [cuspsRes, hP, Hid]
      obtain ⟨g, x, y, eg, ex, ey, g1, g2, x1, x2, y1, y2, r1, r2, q1, q2, er, eq⟩ := ring_parts hP
      have hF2 : Hid (roundsRes r q i = (y, true)) := by rw [Hid, hF.out, eg, ey]
      have hO2 : Hid (cuspsRes r q i = (x, true)) := by rw [Hid, hO.out, eg, ex]
      have hi := fun w hg => roundsImpl_ok r q i w hg
      have hs := fun w => roundsSpec_ok r q i w
      have ho := fun w hg => cuspsImpl_ok r q i w hg
      unfold IB at hi hs ho
      rw [hF2.out] at hi hs
      rw [hO2.out] at ho
      dsimp only at hi hs ho
      have Hi := hide hi
      have Hs := hide hs
      have Ho := hide ho
      have Er := hide er
      have Eq := hide eq
      clear hi hs ho hF hO hF2 hO2 hP eg ex ey er eq
      go_wp2_with fail
      refine (Hi.out _ HG1.out).mono ?_
      rintro e w2 ⟨rfl, hb2⟩
      have hb02 := kept_trans hb1 hb2
      have HG2 := hide (handle_kept HG1.out hb2)
      clear hb1 hb2 HG1 Hi
      go_wp2_with fail
      refine (Hs.out _).mono ?_
      rintro e w3 ⟨rfl, hb3⟩
      have hb03 := kept_trans hb02 hb3
      have HG3 := hide (handle_kept HG2.out hb3)
      clear hb02 hb3 HG2 Hs
      go_wp2_with fail
      refine (Ho.out _ HG3.out).mono ?_
      rintro e w4 ⟨rfl, hb4⟩
      have hb04 := kept_trans hb03 hb4
      clear hb03 hb4 HG3 Ho
      have z1 : ¬ y = 0 := by omega
      have z2 : ¬ x = 0 := by omega
      have e1 : IntKind.i64.wrap (q.tmod y) = 0 := by rw [Eq.out, Int.mul_tmod_left]; rfl
      have e2 : IntKind.i64.wrap (r.tmod x) = 0 := by rw [Er.out, Int.mul_tmod_left]; rfl
      have e3 : IntKind.i64.wrap (q.tdiv y) = g := by rw [Eq.out, Int.mul_tdiv_cancel _ z1]; exact IntWalk.i64_in _ (by omega)
      have e4 : IntKind.i64.wrap (r.tdiv x) = g := by rw [Er.out, Int.mul_tdiv_cancel _ z2]; exact IntWalk.i64_in _ (by omega)
      have e5 : q % y = 0 := by rw [Eq.out]; exact Int.mul_emod_left ..
      have e6 : r % x = 0 := by rw [Er.out]; exact Int.mul_emod_left ..
      have e7 : q / y = g := by rw [Eq.out]; exact Int.mul_ediv_cancel _ z1
      have e8 : r / x = g := by rw [Er.out]; exact Int.mul_ediv_cancel _ z2
      have z3 : (y == 0) = false := beq_eq_false_iff_ne.2 z1
      have z4 : (x == 0) = false := beq_eq_false_iff_ne.2 z2
      go_wp2_with fail
      go_quiet (fail)
      go_wp2_with fail
      go_ret
      exact ⟨by simp, kept_trans hb04 (kept_drewN _ _)⟩
    · have hF : Hid (roundsRes r q i = (0, false)) := by simp [roundsRes, hP, Hid]
      have hi := fun w hg => roundsImpl_ok r q i w hg
      have hs := fun w => roundsSpec_ok r q i w
      unfold IB at hi hs
      rw [hF.out] at hi hs
      dsimp only at hi hs
      have Hi := hide hi
      have Hs := hide hs
      clear hi hs hF hP
      go_wp2_with fail
      refine (Hi.out _ HG1.out).mono ?_
      rintro e w2 ⟨rfl, hb2⟩
      have hb02 := kept_trans hb1 hb2
      clear hb1 hb2
      go_wp2_with fail
      refine (Hs.out _).mono ?_
      rintro e w3 ⟨rfl, hb3⟩
      go_wp2_with fail
      go_ret
      exact ⟨rfl, kept_trans hb02 hb3⟩

set_option maxRecDepth 100000 in
theorem fnRounds_lifted (os : Os) (started : os.Started) (H : Type) (enc : TypeId × Value → H) :
    ReturnsInHanded {} Tryd.checked os 6 .any (fun w args => (Rows.fnRoundsSpec.pre enc Tryd.prog Tryd.f6 [] false w args ∧ laidMetH Tryd.prog theLaid w) ∧ sizedMet enc Tryd.prog Tryd.f6 (OpenSpec.ofChange Rows.fnRoundsSpec) false w args)
      (Rows.fnRoundsSpec.post enc Tryd.prog Tryd.f6 false true false false) := by
  refine returnsInHanded_of_change_and (C := Tryd.checked) (X := fun w _ => laidMetH Tryd.prog theLaid w) (fun _ _ _ hh h => h.of_heap hh) Tryd.own started (by kernel_rfl) Tryd.func6
    (ChangeSpec.witness_at (enc := enc) (C := Tryd.checked) (os := os) (X := fun w _ => laidMetH Tryd.prog theLaid w) false (laidWorld os) #[.slice none 0 0] 8 rfl (by kernel_rfl) (by kernel_rfl) (by kernel_rfl) (by kernel_rfl) (by kernel_rfl) (laidWorld_met os _)) ?_
  intro W base args ds gs before hval0 hW _ _ hL _
  have hval : ∀ (j : Nat) t v, Tryd.f6.params[j]? = some t → args[j]? = some v → Value.okWide Tryd.prog W .any base t v := hval0
  have hW' := hW
  obtain ⟨p, q, hA0, hV0, rfl, hfz, hnd⟩ := hW
  have hA : DataW.TrodAll enc Tryd.prog W 0 (fun _ => true) true Tryd.f6.params.toList args.toList ds p := hA0
  have hV : DataW.TrodVars enc Tryd.prog W (fun _ => true) [] gs q := hV0
  rw [Tryd.params6] at hA hval
  have hg := handle_of_laid hL
  obtain ⟨rfl, rfl⟩ : gs = [] ∧ q = [] := by
    cases gs with
    | nil => exact ⟨rfl, hV⟩
    | cons g r => exact absurd hV (by intro h; cases h)
  obtain ⟨v0, d0, rfl, rfl, h0⟩ := trodAll_one hA
  have h0k := h0
  obtain ⟨a0, len, cap, rfl⟩ := okWide_slice Tryd.underlying25 (hval 0 25 v0 rfl rfl)
  obtain ⟨fuel, hf⟩ := h0
  obtain ⟨A, c, bs, hv, hr⟩ := open_bytes Tryd.underlying25 Tryd.underlying5 (by kernel_rfl) hf
  rw [hv] at h0k hval hf ⊢
  clear hA0 hval0
  simp only [List.append_nil] at hW'
  rw [hv] at hW'
  refine (fnRoundsLaw A c bs W hr hg).mono fun e W' ⟨he, hb⟩ => ?_
  subst he
  exact ⟨_, rfl, _, _, _, [], _, [], hW', trodAll_mk1 (shut_bool Tryd.underlying4 _), trodAll_mk1 (Below.trod Tryd.laidOut (by kernel_rfl) (of_decide_eq_true (by kernel_rfl)) h0k hb (fun x hx => by simpa using hW'.lt x hx)), rfl, hb.frame _, fun h => by cases h⟩

theorem fnRounds_row : Rows.FnRoundsSaid :=
  OpenClaim.holds_of_wide 6 Tryd.f6 rfl rfl rfl rfl rfl rfl rfl ⟨rfl, rfl, rfl, rfl, rfl⟩ rfl rfl rfl rfl rfl (by kernel_rfl) Tryd.func6 (by kernel_rfl)
    (of_decide_eq_true (by kernel_rfl)) (by unfold Func.isWrapper; first | (rw [if_pos (by decide +kernel)]; kernel_rfl) | (rw [if_neg (by decide +kernel)]; exact ⟨rfl, rfl⟩))
    (fun os started H enc _ => fnRounds_lifted os started H enc)

theorem fnRounds_holds : Rows.FnRoundsCardSaid :=
  Claim7.holds_tied_plain_at .later [] [.handle] true (true, "85218d0d5ad8b28a4c3c6d827174e40ec4c47f608e78e1b43088282c33ffb9c5") true
    fnRounds_row (fun _ h => by cases h) (by kernel_rfl) (fun _ h => by cases h) fnRounds_row_tie rfl ⟨rfl, rfl⟩ (by kernel_rfl) rfl
    (fun f fn hf hfn => by
      obtain rfl : f = 6 := Option.some.inj ((show Tryd.prog.funcNamed Rows.fnRoundsRow.func = some 6 by kernel_rfl).symm.trans hf) |>.symm
      obtain rfl : fn = Tryd.f6 := (Option.some.inj (Tryd.func6.symm.trans hfn)).symm
      exact ⟨by kernel_rfl, fun j t ht => by
        rw [Tryd.params6] at ht
        have hts : t ∈ [25] := by
          rw [Array.getElem?_eq_some_iff] at ht
          obtain ⟨hj, ht⟩ := ht
          rw [← ht]
          exact Array.getElem_mem_toList hj
        simp only [List.mem_cons, List.not_mem_nil, or_false] at hts
        subst hts
        · exact (show Tryd.prog.wantsStandIn 25 = false by kernel_rfl)⟩)
    (by kernel_rfl)

end Go.Proofs.YtiiocjkhjogfkaaDoor
