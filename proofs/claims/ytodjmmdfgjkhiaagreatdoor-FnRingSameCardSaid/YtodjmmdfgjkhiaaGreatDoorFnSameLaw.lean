/-
  Two ways lead to the same curve: the law FnRingSame answers true at every code. No condition but the card's own: the variable errors.errorType holds what the program's text lays.
-/
import Derived.Test.YtodjmmdfgjkhiaaGreatDoorDrS
import Derived.Test.YtodjmmdfgjkhiaaGreatDoorSp
import Derived.Test.YtodjmmdfgjkhiaaGreatDoorHandle
namespace Go.Proofs.YtodjmmdfgjkhiaaGreatDoor
open Go.ChangeShapes Go.WideShapes Go.RowKit

set_option maxRecDepth 100000 in
set_option maxHeartbeats 2000000 in
theorem fnSameLaw (A : Option Addr) (c : Nat) (bs : List Int) (w : World) (hcode : CodeIn w A c bs) (hg : Handle w) :
    Calls Tryz.prog 3 #[.slice A bs.length c] w fun e w' => e = .returned (.bool true) ∧ Below w.heap.size w w' := by
  have HG := hide hg
  have Hcode := hide hcode
  have hm := hcode.1.2.1
  clear hcode hg
  by_cases hbig : 1048576 < bs.length
  · go_enter Tryz.func3, Tryz.ntmps3
    go_wp2
    go_ret
    exact ⟨rfl, Below.refl _ _⟩
  · go_enter Tryz.func3, Tryz.ntmps3
    go_wp2_with fail
    refine (drawSame_ok A c bs _ Hcode.out).mono ?_
    rintro e w1 ⟨r, q, p, o, rfl, hrq, hp, ho, hb1⟩
    have HG1 := hide (handle_kept HG.out hb1)
    clear hm hbig HG Hcode
    have hi := fun w hg => sameImpl_ok r q p o w hg
    have hs := fun w => sameSpec_ok r q p o w
    have hform := same_form hrq hp ho
    have Hi := hide hi
    have Hs := hide hs
    clear hi hs
    by_cases hc : p = q ∧ o = r - q
    · obtain ⟨rfl, rfl⟩ := hc
      have hx : sameRes r p p (r - p) = true := by rw [hform]; exact decide_eq_true ⟨rfl, rfl⟩
      have hx2 : sameRes r (r - p) (r - p) p = true := by
        rw [same_form (r := r) (q := r - p) (p := r - p) (o := p) ⟨by omega, by omega, by omega⟩ ho hp]
        exact decide_eq_true ⟨rfl, by omega⟩
      have Hi2 := hide (fun w hg => sameImpl_ok r (r - p) (r - p) p w hg)
      rw [hx] at Hi Hs
      rw [hx2] at Hi2
      clear hx hx2 hform
      have hd1 := fun w hg => ringImpl_ok r p p true w hg
      have hd2 := fun w hg => ringImpl_ok r (r - p) (r - p) true w hg
      generalize ringRes r p p true = z1 at hd1
      generalize ringRes r (r - p) (r - p) true = z2 at hd2
      obtain ⟨x1, k1⟩ := z1
      obtain ⟨x2, k2⟩ := z2
      unfold WlPost at hd1 hd2
      dsimp only at hd1 hd2
      have Hd1 := hide hd1
      have Hd2 := hide hd2
      clear hd1 hd2
      have hw : wrap64 (r - p) = r - p := by unfold wrap64; omega
      obtain ⟨t, ht⟩ : ∃ t, t = r - p := ⟨_, rfl⟩
      rw [← ht] at Hi Hs Hi2 Hd2 ho
      have Ht := hide (show wrap64 (r - p) = t from by rw [hw, ht])
      rw [← ht]
      clear hw ht hrq hp ho
      go_wp2_with fail
      refine (Hi.out _ HG1.out).mono ?_
      rintro e w2 ⟨rfl, hb2⟩
      have hb02 := kept_trans hb1 hb2
      have HG2 := hide (handle_kept HG1.out hb2)
      clear hb1 hb2 HG1
      go_wp2_with fail
      refine (Hs.out _).mono ?_
      rintro e w3 ⟨rfl, hb3⟩
      have hb03 := kept_trans hb02 hb3
      have HG3 := hide (handle_kept HG2.out hb3)
      clear hb02 hb3 HG2 Hs
      go_wp2_with fail
      refine (Hd1.out _ HG3.out).mono ?_
      rintro e w4 ⟨v4, rfl, _, hb4⟩
      have hb04 := kept_trans hb03 hb4
      have HG4 := hide (handle_kept HG3.out hb4)
      clear hb03 hb4 HG3 Hd1
      go_wp2_with fail
      rw [Ht.out]
      refine (Hd2.out _ HG4.out).mono ?_
      rintro e w5 ⟨v5, rfl, _, hb5⟩
      have hb05 := kept_trans hb04 hb5
      have HG5 := hide (handle_kept HG4.out hb5)
      clear hb04 hb5 HG4 Hd2
      go_wp2_with fail
      rw [Ht.out]
      refine (Hi2.out _ HG5.out).mono ?_
      rintro e w6 ⟨rfl, hb6⟩
      have hb06 := kept_trans hb05 hb6
      have HG6 := hide (handle_kept HG5.out hb6)
      clear hb05 hb6 HG5 Hi2
      cases k1
      · go_wp2_with fail
        go_ret
        exact ⟨rfl, hb06⟩
      · cases k2
        · go_wp2_with fail
          go_ret
          exact ⟨rfl, hb06⟩
        · go_wp2_with fail
          rw [Ht.out]
          refine (Hi.out _ HG6.out).mono ?_
          rintro e w7 ⟨rfl, hb7⟩
          go_wp2_with fail
          go_ret
          exact ⟨rfl, kept_trans hb06 hb7⟩
    · have hx : sameRes r q p o = false := by rw [hform]; exact decide_eq_false hc
      rw [hx] at Hi Hs
      clear hx hform hc hrq hp ho
      go_wp2_with fail
      refine (Hi.out _ HG1.out).mono ?_
      rintro e w2 ⟨rfl, hb2⟩
      have hb02 := kept_trans hb1 hb2
      clear hb1 hb2
      go_wp2_with fail
      refine (Hs.out _).mono ?_
      rintro e w3 ⟨rfl, hb3⟩
      go_wp2_with fail
      go_ret
      exact ⟨rfl, kept_trans hb02 hb3⟩

set_option maxRecDepth 100000 in
theorem fnSame_lifted (os : Os) (started : os.Started) (H : Type) (enc : TypeId × Value → H) :
    ReturnsInHanded {} Tryz.checked os 3 .any (fun w args => (Rows.fnRingSameSpec.pre enc Tryz.prog Tryz.f3 [] false w args ∧ laidMetH Tryz.prog theLaid w) ∧ sizedMet enc Tryz.prog Tryz.f3 (OpenSpec.ofChange Rows.fnRingSameSpec) false w args)
      (Rows.fnRingSameSpec.post enc Tryz.prog Tryz.f3 false true false false) := by
  refine returnsInHanded_of_change_and (C := Tryz.checked) (X := fun w _ => laidMetH Tryz.prog theLaid w) (fun _ _ _ hh h => h.of_heap hh) Tryz.own started (by kernel_rfl) Tryz.func3
    (ChangeSpec.witness_at (enc := enc) (C := Tryz.checked) (os := os) (X := fun w _ => laidMetH Tryz.prog theLaid w) false (laidWorld os) #[.slice none 0 0] 8 rfl (by kernel_rfl) (by kernel_rfl) (by kernel_rfl) (by kernel_rfl) (by kernel_rfl) (laidWorld_met os _)) ?_
  intro W base args ds gs before hval0 hW _ _ hL _
  have hval : ∀ (j : Nat) t v, Tryz.f3.params[j]? = some t → args[j]? = some v → Value.okWide Tryz.prog W .any base t v := hval0
  have hW' := hW
  obtain ⟨p, q, hA0, hV0, rfl, hfz, hnd⟩ := hW
  have hA : DataW.TrodAll enc Tryz.prog W 0 (fun _ => true) true Tryz.f3.params.toList args.toList ds p := hA0
  have hV : DataW.TrodVars enc Tryz.prog W (fun _ => true) [] gs q := hV0
  rw [Tryz.params3] at hA hval
  have hg := handle_of_laid hL
  obtain ⟨rfl, rfl⟩ : gs = [] ∧ q = [] := by
    cases gs with
    | nil => exact ⟨rfl, hV⟩
    | cons g r => exact absurd hV (by intro h; cases h)
  obtain ⟨v0, d0, rfl, rfl, h0⟩ := trodAll_one hA
  have h0k := h0
  obtain ⟨a0, len, cap, rfl⟩ := okWide_slice Tryz.underlying22 (hval 0 22 v0 rfl rfl)
  obtain ⟨fuel, hf⟩ := h0
  obtain ⟨A, c, bs, hv, hr⟩ := open_bytes Tryz.underlying22 Tryz.underlying5 (by kernel_rfl) hf
  rw [hv] at h0k hval hf ⊢
  clear hA0 hval0
  simp only [List.append_nil] at hW'
  rw [hv] at hW'
  refine (fnSameLaw A c bs W hr hg).mono fun e W' ⟨he, hb⟩ => ?_
  subst he
  exact ⟨_, rfl, _, _, _, [], _, [], hW', trodAll_mk1 (shut_bool Tryz.underlying4 _), trodAll_mk1 (Below.trod Tryz.laidOut (by kernel_rfl) (of_decide_eq_true (by kernel_rfl)) h0k hb (fun x hx => by simpa using hW'.lt x hx)), rfl, hb.frame _, fun h => by cases h⟩

theorem fnSame_row : Rows.FnRingSameSaid :=
  OpenClaim.holds_of_wide 3 Tryz.f3 rfl rfl rfl rfl rfl rfl rfl ⟨rfl, rfl, rfl, rfl, rfl⟩ rfl rfl rfl rfl rfl (by kernel_rfl) Tryz.func3 (by kernel_rfl)
    (of_decide_eq_true (by kernel_rfl)) (by unfold Func.isWrapper; first | (rw [if_pos (by decide +kernel)]; kernel_rfl) | (rw [if_neg (by decide +kernel)]; exact ⟨rfl, rfl⟩))
    (fun os started H enc _ => fnSame_lifted os started H enc)

theorem fnSame_holds : Rows.FnRingSameCardSaid :=
  Claim7.holds_tied_plain_at .later [] [.handle] true (true, "62d6807fc65f5230c93af5d28e165b40ff5d2c2168b4fd52b6eeda8a3dbe41cc") true
    fnSame_row (fun _ h => by cases h) (by kernel_rfl) (fun _ h => by cases h) fnRingSame_row_tie rfl ⟨rfl, rfl⟩ (by kernel_rfl) rfl
    (fun f fn hf hfn => by
      obtain rfl : f = 3 := Option.some.inj ((show Tryz.prog.funcNamed Rows.fnRingSameRow.func = some 3 by kernel_rfl).symm.trans hf) |>.symm
      obtain rfl : fn = Tryz.f3 := (Option.some.inj (Tryz.func3.symm.trans hfn)).symm
      exact ⟨by kernel_rfl, fun j t ht => by
        rw [Tryz.params3] at ht
        have hts : t ∈ [22] := by
          rw [Array.getElem?_eq_some_iff] at ht
          obtain ⟨hj, ht⟩ := ht
          rw [← ht]
          exact Array.getElem_mem_toList hj
        simp only [List.mem_cons, List.not_mem_nil, or_false] at hts
        subst hts
        · exact (show Tryz.prog.wantsStandIn 22 = false by kernel_rfl)⟩)
    (by kernel_rfl)

end Go.Proofs.YtodjmmdfgjkhiaaGreatDoor
