/-
  After whole turns the last gear is back: the law FnTrainTurns answers true at every code. No condition but the card's own: the variable errors.errorType holds what the program's text lays.
-/
import Derived.Test.YtiiocjkhjogfkaaDoorTrM
import Derived.Test.YtiiocjkhjogfkaaDoorDrTn
import Derived.Test.YtiiocjkhjogfkaaDoorHandle
namespace Go.Proofs.YtiiocjkhjogfkaaDoor
open Go.ChangeShapes Go.WideShapes Go.RowKit

set_option maxRecDepth 100000 in
set_option maxHeartbeats 2000000 in
theorem fnTurnsLaw (A : Option Addr) (c : Nat) (bs : List Int) (w : World) (hcode : CodeIn w A c bs) (hg : Handle w) :
    Calls Tryd.prog 11 #[.slice A bs.length c] w fun e w' => e = .returned (.bool true) ∧ Below w.heap.size w w' := by
  have HG := hide hg
  have Hcode := hide hcode
  have hm := hcode.1.2.1
  clear hcode hg
  by_cases hbig : 1048576 < bs.length
  · go_enter Tryd.func11, Tryd.ntmps11
    go_wp2
    go_ret
    exact ⟨rfl, Below.refl _ _⟩
  · go_enter Tryd.func11, Tryd.ntmps11
    go_wp2_with fail
    refine (drawTurns_ok A c bs _ Hcode.out).mono ?_
    rintro e w1 ⟨Az, cz, zs, rfl, hr, hl, hb1⟩
    have HG1 := hide (handle_kept HG.out hb1)
    have HR1 := hide hr
    clear hm hbig HG Hcode hr
    have hi := fun w hr hg => turnsImpl_ok Az cz zs w hr (by omega) hg
    have hs := fun w hr => turnsSpec_ok Az cz zs w hr (by omega)
    have ht := fun w hr hg => trainImpl_ok Az cz zs w hr (by omega) hg
    unfold IB2 at hi hs
    unfold IIB at ht
    cases hT : trainOut zs with
    | mk p b =>
    obtain ⟨U, V⟩ := p
    rw [hT] at hi hs ht
    dsimp only at hi hs ht
    have Hi := hide hi
    have Hs := hide hs
    have Ht := hide ht
    clear hi hs ht
    cases b with
    | false =>
      obtain ⟨rfl, rfl⟩ : U = 0 ∧ V = 0 := by have := out_false hT; simpa using this
      clear hT
      go_wp2_with fail
      refine (Hi.out _ HR1.out HG1.out).mono ?_
      rintro e w2 ⟨rfl, hb2⟩
      have hb02 := kept_trans hb1 hb2
      have HR2 := hide (rdI_kept HR1.out hb2)
      clear hb1 hb2 HG1 HR1
      go_wp2_with fail
      refine (Hs.out _ HR2.out).mono ?_
      rintro e w3 ⟨rfl, hb3⟩
      have hb03 := kept_trans hb02 hb3
      clear hb02 hb3 HR2
      go_wp2_with fail
      go_ret
      exact ⟨rfl, hb03⟩
    | true =>
      obtain ⟨⟨hgcd, ⟨hU1, hU2⟩, ⟨hV1, hV2⟩, hU0, hsg⟩, _, _, _⟩ := out_kept hT
      have HN : Hid (∀ n : Int, 1 ≤ n → n < V → ((n * U).tmod V == 0) = false) := fun n h1 h2 => turn_not hgcd h1 h2
      have HE : Hid ((V * U).tmod V = 0) := Int.mul_tmod_right V U
      obtain ⟨m1, m2⟩ := prod_i (M := 1000000000) (N := 1000000000) (show -1000000000 ≤ V ∧ V ≤ 1000000000 by omega) (show -1000000000 ≤ U ∧ U ≤ 1000000000 by omega)
      have m1' : -1000000000000000000 ≤ V * U := by omega
      have m2' : V * U ≤ 1000000000000000000 := by omega
      clear hT hgcd hU0 hsg m1 m2
      go_wp2_with fail
      refine (Hi.out _ HR1.out HG1.out).mono ?_
      rintro e w2 ⟨rfl, hb2⟩
      have hb02 := kept_trans hb1 hb2
      have HR2 := hide (rdI_kept HR1.out hb2)
      have HG2 := hide (handle_kept HG1.out hb2)
      clear hb1 hb2 HG1 HR1 Hi
      go_wp2_with fail
      refine (Hs.out _ HR2.out).mono ?_
      rintro e w3 ⟨rfl, hb3⟩
      have hb03 := kept_trans hb02 hb3
      have HR3 := hide (rdI_kept HR2.out hb3)
      have HG3 := hide (handle_kept HG2.out hb3)
      clear hb02 hb3 HR2 HG2 Hs
      go_wp2_with fail
      refine (Ht.out _ HR3.out HG3.out).mono ?_
      rintro e w4 ⟨rfl, hb4⟩
      have hb04 := kept_trans hb03 hb4
      clear hb03 hb4 HR3 HG3 Ht
      go_wp2_with fail
      go_loopw [11] (fun i wr => ∃ t : Nat, 1 ≤ t ∧ t ≤ 1000 ∧ i = .int .i64 t ∧ (t : Int) ≤ V ∧ Below w.heap.size w wr) (fun i _ => 1000 - (intOf i).toNat)
      case atStart => exact ⟨1, by omega, by omega, rfl, by omega, hb04⟩
      case round =>
        obtain ⟨t, ht1, ht2, rfl, htV, hb⟩ := hrel
        by_cases hlt : (t : Int) < V ∧ t < 1000
        · have hn := HN.out t (by omega) hlt.1
          obtain ⟨n1, n2⟩ := prod_i (M := 1000) (N := 1000000000) (show -1000 ≤ (t : Int) ∧ (t : Int) ≤ 1000 by omega) (show -1000000000 ≤ U ∧ U ≤ 1000000000 by omega)
          have n1' : -1000000000000 ≤ (t : Int) * U := by omega
          have n2' : (t : Int) * U ≤ 1000000000000 := by omega
          obtain ⟨l1, l2⟩ := hlt
          have l2' : (t : Int) < 1000 := by omega
          clear n1 n2
          go_wp2_with fail
          go_roundw
          case rel => exact ⟨t + 1, by omega, by omega, by go_num, by omega, hb⟩
          case measure => simp [intOf]; omega
        · have he := HE.out
          have hlt' : ¬ (t : Int) < V ∨ ¬ (t : Int) < 1000 := by omega
          have hb1 : ((V * U).tmod V == 0) = true := by rw [he]; rfl
          have hv1 : 1 ≤ V := hV1
          clear hlt he
          rcases hlt' with h | h
          · go_wp2_with fail
            go_ret
            exact ⟨by simp, hb⟩
          · by_cases h2 : (t : Int) < V
            · go_wp2_with fail
              go_ret
              exact ⟨by simp, hb⟩
            · go_wp2_with fail
              go_ret
              exact ⟨by simp, hb⟩

set_option maxRecDepth 100000 in
theorem fnTurns_lifted (os : Os) (started : os.Started) (H : Type) (enc : TypeId × Value → H) :
    ReturnsInHanded {} Tryd.checked os 11 .any (fun w args => (Rows.fnTrainTurnsSpec.pre enc Tryd.prog Tryd.f11 [] false w args ∧ laidMetH Tryd.prog theLaid w) ∧ sizedMet enc Tryd.prog Tryd.f11 (OpenSpec.ofChange Rows.fnTrainTurnsSpec) false w args)
      (Rows.fnTrainTurnsSpec.post enc Tryd.prog Tryd.f11 false true false false) := by
  refine returnsInHanded_of_change_and (C := Tryd.checked) (X := fun w _ => laidMetH Tryd.prog theLaid w) (fun _ _ _ hh h => h.of_heap hh) Tryd.own started (by kernel_rfl) Tryd.func11
    (ChangeSpec.witness_at (enc := enc) (C := Tryd.checked) (os := os) (X := fun w _ => laidMetH Tryd.prog theLaid w) false (laidWorld os) #[.slice none 0 0] 8 rfl (by kernel_rfl) (by kernel_rfl) (by kernel_rfl) (by kernel_rfl) (by kernel_rfl) (laidWorld_met os _)) ?_
  intro W base args ds gs before hval0 hW _ _ hL _
  have hval : ∀ (j : Nat) t v, Tryd.f11.params[j]? = some t → args[j]? = some v → Value.okWide Tryd.prog W .any base t v := hval0
  have hW' := hW
  obtain ⟨p, q, hA0, hV0, rfl, hfz, hnd⟩ := hW
  have hA : DataW.TrodAll enc Tryd.prog W 0 (fun _ => true) true Tryd.f11.params.toList args.toList ds p := hA0
  have hV : DataW.TrodVars enc Tryd.prog W (fun _ => true) [] gs q := hV0
  rw [Tryd.params11] at hA hval
  have hg := handle_of_laid hL
  obtain ⟨rfl, rfl⟩ : gs = [] ∧ q = [] := by
    cases gs with
    | nil => exact ⟨rfl, hV⟩
    | cons g r => exact absurd hV (by intro h; cases h)
  obtain ⟨v0, d0, rfl, rfl, h0⟩ := trodAll_one hA
  have h0k := h0
  obtain ⟨a0, len, cap, rfl⟩ := okWide_slice Tryd.underlying25 (hval 0 25 v0 rfl rfl)
  obtain ⟨fuel, hf⟩ := h0
  obtain ⟨A, c, bs, hv, hr⟩ := open_bytes Tryd.underlying25 Tryd.underlying5 (by kernel_rfl) hf
  rw [hv] at h0k hval hf ⊢
  clear hA0 hval0
  simp only [List.append_nil] at hW'
  rw [hv] at hW'
  refine (fnTurnsLaw A c bs W hr hg).mono fun e W' ⟨he, hb⟩ => ?_
  subst he
  exact ⟨_, rfl, _, _, _, [], _, [], hW', trodAll_mk1 (shut_bool Tryd.underlying4 _), trodAll_mk1 (Below.trod Tryd.laidOut (by kernel_rfl) (of_decide_eq_true (by kernel_rfl)) h0k hb (fun x hx => by simpa using hW'.lt x hx)), rfl, hb.frame _, fun h => by cases h⟩

theorem fnTurns_row : Rows.FnTrainTurnsSaid :=
  OpenClaim.holds_of_wide 11 Tryd.f11 rfl rfl rfl rfl rfl rfl rfl ⟨rfl, rfl, rfl, rfl, rfl⟩ rfl rfl rfl rfl rfl (by kernel_rfl) Tryd.func11 (by kernel_rfl)
    (of_decide_eq_true (by kernel_rfl)) (by unfold Func.isWrapper; first | (rw [if_pos (by decide +kernel)]; kernel_rfl) | (rw [if_neg (by decide +kernel)]; exact ⟨rfl, rfl⟩))
    (fun os started H enc _ => fnTurns_lifted os started H enc)

theorem fnTurns_holds : Rows.FnTrainTurnsCardSaid :=
  Claim7.holds_tied_plain_at .later [] [.handle] true (true, "85218d0d5ad8b28a4c3c6d827174e40ec4c47f608e78e1b43088282c33ffb9c5") true
    fnTurns_row (fun _ h => by cases h) (by kernel_rfl) (fun _ h => by cases h) fnTrainTurns_row_tie rfl ⟨rfl, rfl⟩ (by kernel_rfl) rfl
    (fun f fn hf hfn => by
      obtain rfl : f = 11 := Option.some.inj ((show Tryd.prog.funcNamed Rows.fnTrainTurnsRow.func = some 11 by kernel_rfl).symm.trans hf) |>.symm
      obtain rfl : fn = Tryd.f11 := (Option.some.inj (Tryd.func11.symm.trans hfn)).symm
      exact ⟨by kernel_rfl, fun j t ht => by
        rw [Tryd.params11] at ht
        have hts : t ∈ [25] := by
          rw [Array.getElem?_eq_some_iff] at ht
          obtain ⟨hj, ht⟩ := ht
          rw [← ht]
          exact Array.getElem_mem_toList hj
        simp only [List.mem_cons, List.not_mem_nil, or_false] at hts
        subst hts
        · exact (show Tryd.prog.wantsStandIn 25 = false by kernel_rfl)⟩)
    (by kernel_rfl)

end Go.Proofs.YtiiocjkhjogfkaaDoor
