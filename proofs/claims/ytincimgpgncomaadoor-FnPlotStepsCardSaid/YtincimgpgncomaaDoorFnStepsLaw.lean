/-
  Loops repeat steps: the law FnPlotSteps answers true at every code. No condition of ours; the card's own: unicode/utf8.acceptRanges and unicode/utf8.first hold what the program's text lays.
-/
import Derived.Test.YtincimgpgncomaaDoorLp
import Derived.Test.YtincimgpgncomaaDoorDw
import Derived.Test.YtincimgpgncomaaDoorWit
import Derived.ChangeMaps5
namespace Go.Proofs.YtincimgpgncomaaDoor
open Go.ChangeShapes Go.WideShapes Go.RowKit
open Go.ChangeMaps (open_string shut_string)

set_option maxRecDepth 100000 in
set_option maxHeartbeats 2000000 in
theorem fnStepsLaw (A : Option Addr) (c : Nat) (bs : List Int) (w : World) (hcode : CodeIn w A c bs) :
    Calls Tryd.prog 6 #[.slice A bs.length c] w fun e w' => e = .returned (.bool true) ∧ Below w.heap.size w w' := by
  have Hcode := hide hcode
  have hm := hcode.1.2.1
  clear hcode
  by_cases hbig : 1048576 < bs.length
  · go_enter Tryd.func6, Tryd.ntmps6
    go_wp2
    go_ret
    exact ⟨rfl, Below.refl _ _⟩
  · go_enter Tryd.func6, Tryd.ntmps6
    go_wp2_with fail
    refine (drawSteps_ok A c bs _ Hcode.out).mono ?_
    rintro e w1 ⟨s, rfl, hs, hb1⟩
    clear hm hbig Hcode
    have hi := fun w => stepsImpl_ok s w
    have hsp := fun w => stepsSpec_ok s w
    have hl := fun w => stepsImpl_ok (loopT 51 s) w
    have hq : stepsB s = -1 ∨ ∃ o : Nat, stepsB s = o ∧ 1 ≤ o ∧ o ≤ 500 ∧ (stepsB (loopT 51 s) = -1 ∨ stepsB (loopT 51 s) = 3 * (o : Int)) := by
      unfold stepsB
      cases hp : progB s with
      | none => exact .inl rfl
      | some o =>
        refine .inr ⟨o.length, rfl, ?_, progB_len hp, ?_⟩
        · have := List.length_pos_iff.2 (progB_ne hp); omega
        · rcases prog_loop (d := 51) (by decide) (by decide) hp with h | h
          · rw [h]; exact .inl rfl
          · rw [h]
            refine .inr ?_
            dsimp only
            rw [repB_len]
            show (((51 - 48) * o.length : Nat) : Int) = _
            omega
    generalize stepsB s = n at *
    generalize stepsB (loopT 51 s) = m at *
    unfold loopT at hl
    have Hi := hide hi
    have Hs := hide hsp
    have Hl := hide hl
    clear hi hsp hl
    have s1 : ¬ 9223372036854775807 < 3 + s.size := by omega
    have s2 : ¬ 9223372036854775807 < 3 + s.size + 2 := by omega
    rcases hq with rfl | ⟨o, rfl, h1, h2, h3⟩
    · go_wp2_with fail
      refine (Hi.out _).mono ?_
      rintro e w2 ⟨rfl, hb2⟩
      go_wp2_with fail
      refine (Hs.out _).mono ?_
      rintro e w3 ⟨rfl, hb3⟩
      go_wp2_with fail
      go_ret
      exact ⟨rfl, kept_trans (kept_trans hb1 hb2) hb3⟩
    · have o0 : ¬ (o : Int) < 0 := by omega
      have o1 : (1 : Int) ≤ (o : Int) := by omega
      have o2 : (o : Int) ≤ 500 := by omega
      rcases h3 with rfl | rfl
      all_goals
        go_wp2_with fail
        refine (Hi.out _).mono ?_
        rintro e w2 ⟨rfl, hb2⟩
        go_wp2_with fail
        refine (Hs.out _).mono ?_
        rintro e w3 ⟨rfl, hb3⟩
        go_wp2_with fail
        refine (Hl.out _).mono ?_
        rintro e w4 ⟨rfl, hb4⟩
        have q : IntKind.i64.wrap (3 * (o : Int)) = 3 * o := IntWalk.i64_in _ (by omega)
        go_wp2_with fail
        go_ret
        exact ⟨by simp, kept_trans (kept_trans (kept_trans hb1 hb2) hb3) hb4⟩

set_option maxRecDepth 100000 in
theorem fnSteps_lifted (os : Os) (started : os.Started) (H : Type) (enc : TypeId × Value → H) :
    ReturnsInHanded {} Tryd.checked os 6 .any (fun w args => (Rows.fnPlotStepsSpec.pre enc Tryd.prog Tryd.f6 [] false w args ∧ laidMetH Tryd.prog theLaid w) ∧ sizedMet enc Tryd.prog Tryd.f6 (OpenSpec.ofChange Rows.fnPlotStepsSpec) false w args)
      (Rows.fnPlotStepsSpec.post enc Tryd.prog Tryd.f6 false true false false) := by
  refine returnsInHanded_of_change_and (C := Tryd.checked) (X := fun w _ => laidMetH Tryd.prog theLaid w) (fun _ _ _ hh h => h.of_heap hh) Tryd.own started (by kernel_rfl) Tryd.func6
    (ChangeSpec.witness_shaped (enc := enc) (C := Tryd.checked) (os := os) (X := fun w _ => laidMetH Tryd.prog theLaid w) false (World.laidAll Tryd.prog os theLaid) #[.slice none 0 0] 8 (World.laidAll_os _ _ _) (laidAll_shaped os) (by kernel_rfl) (by kernel_rfl) (by kernel_rfl) (laidAll_met os _)) ?_
  intro W base args ds gs before hval0 hW _ _ hL _
  have hval : ∀ (j : Nat) t v, Tryd.f6.params[j]? = some t → args[j]? = some v → Value.okWide Tryd.prog W .any base t v := hval0
  have hW' := hW
  obtain ⟨p, q, hA0, hV0, rfl, hfz, hnd⟩ := hW
  have hA : DataW.TrodAll enc Tryd.prog W 0 (fun _ => true) true Tryd.f6.params.toList args.toList ds p := hA0
  have hV : DataW.TrodVars enc Tryd.prog W (fun _ => true) [] gs q := hV0
  rw [Tryd.params6] at hA hval
  obtain ⟨rfl, rfl⟩ : gs = [] ∧ q = [] := by
    cases gs with
    | nil => exact ⟨rfl, hV⟩
    | cons g r => exact absurd hV (by intro h; cases h)
  obtain ⟨v0, d0, rfl, rfl, h0⟩ := trodAll_one hA
  have h0k := h0
  obtain ⟨a0, len, cap, rfl⟩ := okWide_slice Tryd.underlying26 (hval 0 26 v0 rfl rfl)
  obtain ⟨fuel, hf⟩ := h0
  obtain ⟨A, c, bs, hv, hr⟩ := open_bytes Tryd.underlying26 Tryd.underlying5 (by kernel_rfl) hf
  rw [hv] at h0k hval hf ⊢
  clear hA0 hval0
  simp only [List.append_nil] at hW'
  rw [hv] at hW'
  refine (fnStepsLaw A c bs W hr).mono fun e W' ⟨he, hb⟩ => ?_
  subst he
  exact ⟨_, rfl, _, _, _, [], _, [], hW', trodAll_mk1 (shut_bool Tryd.underlying4 _), trodAll_mk1 (Below.trod Tryd.laidOut (by kernel_rfl) (of_decide_eq_true (by kernel_rfl)) h0k hb (fun x hx => by simpa using hW'.lt x hx)), rfl, hb.frame _, fun h => by cases h⟩

theorem fnSteps_row : Rows.FnPlotStepsSaid :=
  OpenClaim.holds_of_wide 6 Tryd.f6 rfl rfl rfl rfl rfl rfl rfl ⟨rfl, rfl, rfl, rfl, rfl⟩ rfl rfl rfl rfl rfl (by kernel_rfl) Tryd.func6 (by kernel_rfl)
    (of_decide_eq_true (by kernel_rfl)) (by unfold Func.isWrapper; first | (rw [if_pos (by decide +kernel)]; kernel_rfl) | (rw [if_neg (by decide +kernel)]; exact ⟨rfl, rfl⟩))
    (fun os started H enc _ => fnSteps_lifted os started H enc)

theorem fnSteps_holds : Rows.FnPlotStepsCardSaid :=
  Claim7.holds_tied_plain_at .later [] [.data, .pinned] true (true, "2711de16ae8a941eab259656f75031f98e41807913f0020eaf4cca2541e08e90") true
    fnSteps_row (fun _ h => by cases h) (by kernel_rfl) (fun _ h => by cases h) fnPlotSteps_row_tie rfl ⟨rfl, rfl⟩ (by kernel_rfl) rfl
    (fun f fn hf hfn => by
      obtain rfl : f = 6 := Option.some.inj ((show Tryd.prog.funcNamed Rows.fnPlotStepsRow.func = some 6 by kernel_rfl).symm.trans hf) |>.symm
      obtain rfl : fn = Tryd.f6 := (Option.some.inj (Tryd.func6.symm.trans hfn)).symm
      exact ⟨by kernel_rfl, fun j t ht => by
        rw [Tryd.params6] at ht
        have hts : t ∈ [26] := by
          rw [Array.getElem?_eq_some_iff] at ht
          obtain ⟨hj, ht⟩ := ht
          rw [← ht]
          exact Array.getElem_mem_toList hj
        simp only [List.mem_cons, List.not_mem_nil, or_false] at hts
        subst hts
        · exact (show Tryd.prog.wantsStandIn 26 = false by kernel_rfl)⟩)
    (by kernel_rfl)

end Go.Proofs.YtincimgpgncomaaDoor
