/-
  Trains turned round have turned ratios: the law FnRatio answers true at every code. No condition but the card's own: the variable errors.errorType holds what the program's text lays.
-/
import Derived.Test.YtiiocjkhjogfkaaDoorRevM
import Derived.Test.YtiiocjkhjogfkaaDoorDrTn
import Derived.Test.YtiiocjkhjogfkaaDoorHandle
namespace Go.Proofs.YtiiocjkhjogfkaaDoor
open Go.ChangeShapes Go.WideShapes Go.RowKit

theorem rdI_owns' {w : World} {B : Nat} {v : Value} {zs : List Int} (h : w.ownsRow B 3 1 v zs.length (zs.map (Value.int .i64))) : ∃ A c, v = .slice A zs.length c ∧ RdI w A c zs := by
  have hr := owns_reads h
  rcases h.2 with ⟨rfl, h0⟩ | ⟨g, cap, cur, rfl, hb, hg, hn, hcap, hsz, htk⟩
  · refine ⟨none, 0, by rw [h0], ?_⟩
    have h1 : zs.length = 0 := h0
    exact ⟨by simpa [h1] using hr, by omega⟩
  · exact ⟨_, cap, rfl, hr, by omega⟩

/-- The numbers of both ratios, said for the walk. -/
theorem turned_say {zs : List Int} {U V : Int} (h : trainOut zs = ((U, V), true)) :
    (-1000000000 ≤ U ∧ U ≤ 1000000000) ∧ (1 ≤ V ∧ V ≤ 1000000000) ∧ U ≠ 0 ∧ (U < 0 ↔ zs.length / 2 % 2 = 1) ∧ 2 ≤ zs.length := by
  obtain ⟨⟨_, k1, k2, k3, k4⟩, _, l, _⟩ := out_kept h
  simp only [lenB, decide_eq_true_eq] at l
  exact ⟨k1, k2, k3, k4, l.1⟩

set_option maxRecDepth 100000 in
set_option maxHeartbeats 4000000 in
theorem fnRatioLaw (A : Option Addr) (c : Nat) (bs : List Int) (w : World) (hcode : CodeIn w A c bs) (hg : Handle w) :
    Calls Tryd.prog 10 #[.slice A bs.length c] w fun e w' => e = .returned (.bool true) ∧ Below w.heap.size w w' := by
  obtain ⟨i0, hi0, hz0, hz1, hz2⟩ := info_parts Tryd.infoInt
  have HI := hide hi0
  have HZ0 := hide hz0
  have HZ1 := hide hz1
  have HZ2 := hide hz2
  clear hi0 hz0 hz1 hz2
  have HG := hide hg
  have Hcode := hide hcode
  have hm := hcode.1.2.1
  clear hcode hg
  by_cases hbig : 1048576 < bs.length
  · go_enter Tryd.func10, Tryd.ntmps10
    go_wp2
    go_ret
    exact ⟨rfl, Below.refl _ _⟩
  · go_enter Tryd.func10, Tryd.ntmps10
    go_wp2_with fail
    refine (drawRatio_ok A c bs _ Hcode.out).mono ?_
    rintro e w1 ⟨Az, cz, zs, rfl, hr, hl, hb1⟩
    have HG1 := hide (handle_kept HG.out hb1)
    have HR1 := hide hr
    clear hm hbig HG Hcode hr
    have hs := fun w hr => trainSpec_ok Az cz zs w hr (by omega)
    have ht := fun w hr hg => trainImpl_ok Az cz zs w hr (by omega) hg
    unfold IIB at hs ht
    cases hT : trainOut zs with
    | mk p b =>
    obtain ⟨U, V⟩ := p
    rw [hT] at hs ht
    dsimp only at hs ht
    have Hs := hide hs
    have Ht := hide ht
    clear hs ht
    cases b with
    | false =>
      obtain ⟨rfl, rfl⟩ : U = 0 ∧ V = 0 := by have := out_false hT; simpa using this
      clear hT
      go_wp2_with fail
      refine (Ht.out _ HR1.out HG1.out).mono ?_
      rintro e w2 ⟨rfl, hb2⟩
      have hb02 := kept_trans hb1 hb2
      have HR2 := hide (rdI_kept HR1.out hb2)
      clear hb1 hb2 HG1 HR1
      go_wp2_with fail
      refine (Hs.out _ HR2.out).mono ?_
      rintro e w3 ⟨rfl, hb3⟩
      have hb03 := kept_trans hb02 hb3
      clear hb02 hb3 HR2
      go_wp2_with fail
      go_ret
      exact ⟨rfl, hb03⟩
    | true =>
      obtain ⟨⟨hU1, hU2⟩, ⟨hV1, hV2⟩, hU0, hsg, hl2⟩ := turned_say hT
      have HT := hide hT
      have Hsg := hide hsg
      clear hT hsg
      go_wp2_with fail
      refine (Ht.out _ HR1.out HG1.out).mono ?_
      rintro e w2 ⟨rfl, hb2⟩
      have hb02 := kept_trans hb1 hb2
      have HR2 := hide (rdI_kept HR1.out hb2)
      have HG2 := hide (handle_kept HG1.out hb2)
      clear hb1 hb2 HG1 HR1 Ht
      go_wp2_with fail
      refine (Hs.out _ HR2.out).mono ?_
      rintro e w3 ⟨rfl, hb3⟩
      have hb03 := kept_trans hb02 hb3
      have HR3 := hide (rdI_kept HR2.out hb3)
      have HG3 := hide (handle_kept HG2.out hb3)
      clear hb02 hb3 HR2 HG2 Hs
      have hbn : Below w3.heap.size w3 (w3.alloc (.cells #[] 3)) := kept_new _ _
      have ho0 : (w3.alloc (.cells #[] 3)).ownsRow w3.heap.size 3 1 (.slice (some ⟨w3.heap.size, 0, none⟩) 0 0) 0 [] := by
        simpa using World.ownsRow_lit (base := w3.heap.size) (e := 3) (size := 1) w3 #[] 0 (Nat.le_refl _) (by decide) (by simp)
      go_wp2_with fail
      go_loopw [10, 11] (fun v i wr => ∃ (t : Nat), t ≤ zs.length ∧ i = .int .i64 ((zs.length : Int) - 1 - t) ∧ wr.ownsRow w3.heap.size 3 1 v t ((zs.reverse.take t).map (.int .i64)) ∧ Below w3.heap.size w3 wr) (fun _ i _ => (intOf i + 1).toNat)
      case atStart => exact ⟨0, by omega, by go_num, by simpa using ho0, hbn⟩
      case round =>
        obtain ⟨t, ht, rfl, ho, hb⟩ := hrel
        clear ho0 hbn
        have HO := hide ho
        clear ho
        by_cases hlt : t < zs.length
        · obtain ⟨q, hq⟩ : ∃ q : Nat, q = zs.length - 1 - t := ⟨_, rfl⟩
          have eq : (zs.length : Int) - 1 - (t : Int) = (q : Int) := by omega
          have hql : q < zs.length := by omega
          have hR := rdI_kept HR3.out hb
          obtain ⟨_, _, A', c', he, hcel⟩ := hR.1
          injection he with e1 e2 e3
          obtain ⟨b, o, eb, hbl, hcell⟩ := hcel (by omega) (by omega)
          have ea : Az = some ⟨b, o, none⟩ := e1.trans eb
          have k1 := (hcell q (by omega)).trans (show (zs.map (Value.int .i64))[q]? = some (.int .i64 zs[q]) by simp [hql])
          have hx : zs.reverse.take (t + 1) = zs.reverse.take t ++ [zs[q]] := by
            rw [List.take_succ_eq_append_getElem (by simpa using hlt), List.getElem_reverse]
            simp [hq]
          have HX := hide hx
          clear hx hcell hcel e1 eb hR e3
          generalize zs[q] = x at *
          rw [eq, ea]
          have hqi : (q : Int) < (zs.length : Int) := by omega
          have hszb := hb.size
          have HEQ := hide eq
          clear ea eq hq
          go_wp2_with (at_builtin; refine wpList_append_one wr rfl _ _ 29 rfl w3.heap.size 3 i0 _ 1 8 Tryd.underlying29 HI.out HZ0.out HZ1.out HZ2.out rfl (by decide) _ _ _ rfl HO.out [.int .i64 x] _ _ rfl rfl (by simp [Value.oneCell']) (by omega) (by decide) hszb rfl (by simp) ?_)
          intro g6 cap6 w6 ho6 hg6 hr6
          have hb6 := kept_grown hb hg6 hr6
          have HO6 := hide ho6
          clear ho6 hg6 hr6
          go_wp2_with fail
          go_roundw
          case rel => exact ⟨t + 1, by omega, by have := HEQ.out; go_num, by have := HO6.out; rw [HX.out]; simpa using this, hb6⟩
          case measure => have := HEQ.out; simp [intOf] <;> omega
        · obtain rfl : t = zs.length := by omega
          have ho' := HO.out
          rw [show zs.reverse.take zs.length = zs.reverse by rw [← List.length_reverse, List.take_length]] at ho'
          have hzr : zs.length = zs.reverse.length := (List.length_reverse).symm
          rw [hzr] at ho'
          obtain ⟨A2, c2, hv, hr2⟩ := rdI_owns' ho'
          rw [List.length_reverse] at hv
          subst hv
          have HR4 := hide hr2
          have HG4 := hide (handle_kept HG3.out hb)
          have hb04 := kept_trans hb03 hb
          have ht : ∀ w, RdI w A2 c2 zs.reverse → Handle w → Calls Tryd.prog 20 #[.slice A2 zs.length c2] w (IIB (trainOut zs.reverse) w) := fun w hr hg => by
            have h := trainImpl_ok A2 c2 zs.reverse w hr (by rw [← hzr]; omega) hg
            rw [List.length_reverse] at h
            exact h
          clear hzr
          unfold IIB at ht
          cases hT2 : trainOut zs.reverse with
          | mk p b =>
          obtain ⟨a, d⟩ := p
          rw [hT2] at ht
          dsimp only at ht
          have Ht := hide ht
          clear ht ho' hr2 HO hb
          cases b with
          | false =>
            obtain ⟨rfl, rfl⟩ : a = 0 ∧ d = 0 := by have := out_false hT2; simpa using this
            clear hT2
            go_wp2_with fail
            refine (Ht.out _ HR4.out HG4.out).mono ?_
            rintro e w5 ⟨rfl, hb5⟩
            have hb05 := kept_trans hb04 hb5
            clear hb04 hb5
            by_cases hp : zs.length / 2 % 2 = 1
            · have hu : U < 0 := Hsg.out.2 hp
              go_wp2_with fail
              go_ret
              exact ⟨by first | rfl | (simp; done) | (simp; omega), hb05⟩
            · have hu : 0 < U := by have := Hsg.out; omega
              have hq0 : ((zs.length : Int) / 2 % 2 == 1) = false := beq_eq_false_iff_ne.2 (by omega)
              go_wp2_with fail
              go_ret
              exact ⟨by first | rfl | (simp; done) | (simp; omega), hb05⟩
          | true =>
            obtain ⟨⟨a1, a2⟩, ⟨d1, d2⟩, a0, asg, _⟩ := turned_say hT2
            rw [List.length_reverse] at asg
            have Asg := hide asg
            obtain ⟨q1, q2⟩ := turned HT.out hT2
            clear hT2 asg
            go_wp2_with fail
            refine (Ht.out _ HR4.out HG4.out).mono ?_
            rintro e w5 ⟨rfl, hb5⟩
            have hb05 := kept_trans hb04 hb5
            clear hb04 hb5
            by_cases hp : zs.length / 2 % 2 = 1
            · have hu : U < 0 := Hsg.out.2 hp
              have ha : a = -V := by have := Asg.out.2 hp; omega
              have hd : d = -U := by omega
              subst ha
              subst hd
              clear q1 q2
              go_wp2_with fail
              go_ret
              exact ⟨by first | rfl | (simp; done) | (simp; omega), hb05⟩
            · have hu : 0 < U := by have := Hsg.out; omega
              have hq0 : ((zs.length : Int) / 2 % 2 == 1) = false := beq_eq_false_iff_ne.2 (by omega)
              have ha : a = V := by have := Asg.out; omega
              have hd : d = U := by omega
              subst ha
              subst hd
              clear q1 q2
              go_wp2_with fail
              go_ret
              exact ⟨by first | rfl | (simp; done) | (simp; omega), hb05⟩

set_option maxRecDepth 100000 in
theorem fnRatio_lifted (os : Os) (started : os.Started) (H : Type) (enc : TypeId × Value → H) :
    ReturnsInHanded {} Tryd.checked os 10 .any (fun w args => (Rows.fnRatioSpec.pre enc Tryd.prog Tryd.f10 [] false w args ∧ laidMetH Tryd.prog theLaid w) ∧ sizedMet enc Tryd.prog Tryd.f10 (OpenSpec.ofChange Rows.fnRatioSpec) false w args)
      (Rows.fnRatioSpec.post enc Tryd.prog Tryd.f10 false true false false) := by
  refine returnsInHanded_of_change_and (C := Tryd.checked) (X := fun w _ => laidMetH Tryd.prog theLaid w) (fun _ _ _ hh h => h.of_heap hh) Tryd.own started (by kernel_rfl) Tryd.func10
    (ChangeSpec.witness_at (enc := enc) (C := Tryd.checked) (os := os) (X := fun w _ => laidMetH Tryd.prog theLaid w) false (laidWorld os) #[.slice none 0 0] 8 rfl (by kernel_rfl) (by kernel_rfl) (by kernel_rfl) (by kernel_rfl) (by kernel_rfl) (laidWorld_met os _)) ?_
  intro W base args ds gs before hval0 hW _ _ hL _
  have hval : ∀ (j : Nat) t v, Tryd.f10.params[j]? = some t → args[j]? = some v → Value.okWide Tryd.prog W .any base t v := hval0
  have hW' := hW
  obtain ⟨p, q, hA0, hV0, rfl, hfz, hnd⟩ := hW
  have hA : DataW.TrodAll enc Tryd.prog W 0 (fun _ => true) true Tryd.f10.params.toList args.toList ds p := hA0
  have hV : DataW.TrodVars enc Tryd.prog W (fun _ => true) [] gs q := hV0
  rw [Tryd.params10] at hA hval
  have hg := handle_of_laid hL
  obtain ⟨rfl, rfl⟩ : gs = [] ∧ q = [] := by
    cases gs with
    | nil => exact ⟨rfl, hV⟩
    | cons g r => exact absurd hV (by intro h; cases h)
  obtain ⟨v0, d0, rfl, rfl, h0⟩ := trodAll_one hA
  have h0k := h0
  obtain ⟨a0, len, cap, rfl⟩ := okWide_slice Tryd.underlying25 (hval 0 25 v0 rfl rfl)
  obtain ⟨fuel, hf⟩ := h0
  obtain ⟨A, c, bs, hv, hr⟩ := open_bytes Tryd.underlying25 Tryd.underlying5 (by kernel_rfl) hf
  rw [hv] at h0k hval hf ⊢
  clear hA0 hval0
  simp only [List.append_nil] at hW'
  rw [hv] at hW'
  refine (fnRatioLaw A c bs W hr hg).mono fun e W' ⟨he, hb⟩ => ?_
  subst he
  exact ⟨_, rfl, _, _, _, [], _, [], hW', trodAll_mk1 (shut_bool Tryd.underlying4 _), trodAll_mk1 (Below.trod Tryd.laidOut (by kernel_rfl) (of_decide_eq_true (by kernel_rfl)) h0k hb (fun x hx => by simpa using hW'.lt x hx)), rfl, hb.frame _, fun h => by cases h⟩

theorem fnRatio_row : Rows.FnRatioSaid :=
  OpenClaim.holds_of_wide 10 Tryd.f10 rfl rfl rfl rfl rfl rfl rfl ⟨rfl, rfl, rfl, rfl, rfl⟩ rfl rfl rfl rfl rfl (by kernel_rfl) Tryd.func10 (by kernel_rfl)
    (of_decide_eq_true (by kernel_rfl)) (by unfold Func.isWrapper; first | (rw [if_pos (by decide +kernel)]; kernel_rfl) | (rw [if_neg (by decide +kernel)]; exact ⟨rfl, rfl⟩))
    (fun os started H enc _ => fnRatio_lifted os started H enc)

theorem fnRatio_holds : Rows.FnRatioCardSaid :=
  Claim7.holds_tied_plain_at .later [] [.handle] true (true, "85218d0d5ad8b28a4c3c6d827174e40ec4c47f608e78e1b43088282c33ffb9c5") true
    fnRatio_row (fun _ h => by cases h) (by kernel_rfl) (fun _ h => by cases h) fnRatio_row_tie rfl ⟨rfl, rfl⟩ (by kernel_rfl) rfl
    (fun f fn hf hfn => by
      obtain rfl : f = 10 := Option.some.inj ((show Tryd.prog.funcNamed Rows.fnRatioRow.func = some 10 by kernel_rfl).symm.trans hf) |>.symm
      obtain rfl : fn = Tryd.f10 := (Option.some.inj (Tryd.func10.symm.trans hfn)).symm
      exact ⟨by kernel_rfl, fun j t ht => by
        rw [Tryd.params10] at ht
        have hts : t ∈ [25] := by
          rw [Array.getElem?_eq_some_iff] at ht
          obtain ⟨hj, ht⟩ := ht
          rw [← ht]
          exact Array.getElem_mem_toList hj
        simp only [List.mem_cons, List.not_mem_nil, or_false] at hts
        subst hts
        · exact (show Tryd.prog.wantsStandIn 25 = false by kernel_rfl)⟩)
    (by kernel_rfl)

end Go.Proofs.YtiiocjkhjogfkaaDoor
