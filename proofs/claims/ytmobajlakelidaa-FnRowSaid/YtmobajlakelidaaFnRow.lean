/-
  Rows can be shifted by 0: the law FnRow answers true at every code. No condition.
-/
import Derived.Test.YtmobajlakelidaaDr
import Derived.Test.YtmobajlakelidaaCySh
namespace Go.Proofs.Ytmobajlakelidaa
open Go.ChangeShapes Go.WideShapes Go.ChangeAt Go.RowKit

theorem shiftList_id (cs : List C8) (M : Nat) (hM : M % cs.length = 0) : shiftList cs M cs.length = cs := by
  apply List.ext_getElem?
  intro j
  by_cases hj : j < cs.length
  · have e : (j + M) % cs.length = j := by rw [Nat.add_mod, hM, Nat.add_zero, Nat.mod_mod, Nat.mod_eq_of_lt hj]
    simp [shiftList, shiftAt, hj, e]
  · rw [List.getElem?_eq_none (by simp [shiftList]; omega), List.getElem?_eq_none (by omega)]

theorem shiftRes_0 {cs : List C8} (h : rowB cs = true) : shiftRes cs 0 = (cs, true) := by
  have e := shiftList_id cs 0 (Nat.zero_mod _)
  simp [shiftRes, h, e]

theorem shiftRes_len {cs : List C8} (h : rowB cs = true) : shiftRes cs ((cs.length : Int) % 24) = (cs, true) := by
  have hl := rowB_len h
  have e : ((cs.length : Int) % 24).toNat % cs.length = 0 := by
    by_cases h24 : cs.length = 24
    · rw [h24]; rfl
    · rw [show ((cs.length : Int) % 24).toNat = cs.length by omega]; exact Nat.mod_self _
  simp [shiftRes, h, shiftList_id cs _ e]
  omega

theorem rowB_div {cs : List C8} (h : rowB cs = true) : (24 : Int) % (cs.length : Int) = 0 := by
  simp only [rowB, divB, Bool.and_eq_true, decide_eq_true_eq] at h
  have := h.2.2.2
  rw [show (24 : Int) = ((24 : Nat) : Int) from rfl, ← Int.natCast_emod, this]
  rfl

set_option maxHeartbeats 2000000 in
theorem lawFnRow (A : Option Addr) (c : Nat) (bs : List Int) (w : World) (hcode : CodeIn w A c bs) :
    Calls Try.prog 7 #[.slice A bs.length c] w fun e w' => e = .returned (.bool true) ∧ Below w.heap.size w w' := by
  have Hcode := hide hcode
  have hm := hcode.1.2.1
  clear hcode
  by_cases hbig : 1048576 < bs.length
  · go_enter Try.func7, Try.ntmps7
    go_wp2
    go_ret
    exact ⟨rfl, Below.refl _ _⟩
  · go_enter Try.func7, Try.ntmps7
    go_wp2_with fail
    refine (drawRow_ok A c bs _ Hcode.out).mono ?_
    rintro e w1 ⟨v1, cs, rfl, ho1, hl, hb1⟩
    have hr1 := owns_reads ho1
    clear ho1
    by_cases hok : rowB cs = true
    · have Hok := hide hok
      obtain ⟨hl1, hl2⟩ := rowB_len hok
      have hd := rowB_div hok
      have h0 := shiftRes_0 hok
      have hn := shiftRes_len hok
      have Hd := hide hd
      have H0 := hide h0
      have Hn := hide hn
      obtain ⟨_, _, A1, c1, hv, _⟩ := id hr1
      subst hv
      clear hok hd h0 hn
      go_wp2_with fail
      refine (rowImpl_ok _ cs _ hr1 (by omega)).mono ?_
      rintro e w2 ⟨rfl, hb2⟩
      rw [Hok.out]
      have hr2 := reads_kept hr1 hb2
      have hb02 := kept_trans hb1 hb2
      go_wp2_with fail
      refine (rowSpec_ok _ cs _ hr2 (by omega)).mono ?_
      rintro e w3 ⟨rfl, hb3⟩
      rw [Hok.out]
      have hr3 := reads_kept hr2 hb3
      have hb03 := kept_trans hb02 hb3
      clear hr1 hr2 hb1 hb2 hb3 hb02
      go_wp2_with fail
      have k0 := shiftImpl_ok _ cs 0 _ hr3 (by omega)
      rw [H0.out] at k0
      refine k0.mono ?_
      rintro e w4 ⟨v4, rfl, ho4, hb4⟩
      have hr4 := reads_kept hr3 hb4
      have hb04 := kept_trans hb03 hb4
      clear k0 hr3 hb03 hb4
      go_wp2_with fail
      have k1 := shiftImpl_ok _ cs ((cs.length : Int) % 24) _ hr4 (by omega)
      rw [Hn.out] at k1
      refine k1.mono ?_
      rintro e w5 ⟨v5, rfl, ho5, hb5⟩
      have hr5 := reads_kept hr4 hb5
      have hb05 := kept_trans hb04 hb5
      have hr45 := has_reads (has_kept ho4 hb5)
      have hr55 := has_reads ho5
      clear k1 hr4 hb04 hb5 ho4 ho5
      go_wp2_with fail
      refine (sameCycs_ok _ _ cs _ hr45 hr5).mono ?_
      rintro e w6 ⟨rfl, hb6⟩
      have hb06 := kept_trans hb05 hb6
      have hr6 := reads_kept hr5 hb6
      have hr56 := reads_kept hr55 hb6
      clear hr45 hr5 hr55 hb05 hb6
      go_wp2_with fail
      refine (sameCycs_ok _ _ cs _ hr56 hr6).mono ?_
      rintro e w7 ⟨rfl, hb7⟩
      have hz : ¬ (cs.length : Int) = 0 := by omega
      go_wp2_with fail
      go_ret
      exact ⟨by simp [Hd.out], kept_trans hb06 hb7⟩
    · have Hok : Hid (rowB cs = false) := by simpa [Hid] using hok
      clear hok
      go_wp2_with fail
      refine (rowImpl_ok _ cs _ hr1 (by omega)).mono ?_
      rintro e w2 ⟨rfl, hb2⟩
      rw [Hok.out]
      have hr2 := reads_kept hr1 hb2
      have hb02 := kept_trans hb1 hb2
      go_wp2_with fail
      refine (rowSpec_ok _ cs _ hr2 (by omega)).mono ?_
      rintro e w3 ⟨rfl, hb3⟩
      rw [Hok.out]
      have hb03 := kept_trans hb02 hb3
      go_wp2_with fail
      go_ret
      exact ⟨rfl, hb03⟩

theorem Try.own : ownKnob Try.prog.godebug = none := by kernel_rfl
theorem Try.laidOut : laidOutB Try.prog = true := by kernel_rfl

set_option maxRecDepth 100000 in
theorem fnrow_lifted (os : Os) (started : os.Started) (H : Type) (enc : TypeId × Value → H) :
    ReturnsInHanded {} Try.checked os 7 .any (Rows.fnRowSpec.pre6 enc Try.prog Try.f7 Rows.fnRowRow.domain false) (Rows.fnRowSpec.post enc Try.prog Try.f7 false true false false) := by
  refine returnsInHanded_of_change (C := Try.checked) Try.own started (by kernel_rfl) Try.func7
    (ChangeSpec.witness6 (enc := enc) (C := Try.checked) false ⟨#[], #[.slice none 0 0], []⟩ 8 (by kernel_rfl) (by kernel_rfl) (by kernel_rfl) (by kernel_rfl)) ?_
  intro W base args ds gs before hval0 hW hcnd _
  have hval : ∀ (j : Nat) t v, Try.f7.params[j]? = some t → args[j]? = some v → Value.okWide Try.prog W .any base t v := hval0
  have hW' := hW
  obtain ⟨p, q, hA0, hV, rfl, hfz, hnd⟩ := hW
  have hA : DataW.TrodAll enc Try.prog W 0 (fun _ => true) true Try.f7.params.toList args.toList ds p := hA0
  rw [Try.params7] at hA hval
  obtain ⟨v0, d0, rfl, rfl, h0⟩ := trodAll_one hA
  obtain ⟨rfl, rfl⟩ := trodVars_none hV
  have h0k := h0
  obtain ⟨a0, len, cap, rfl⟩ := okWide_slice Try.underlying34 (hval 0 34 v0 rfl rfl)
  obtain ⟨fuel, hf⟩ := h0
  obtain ⟨A, c, bs, hv, hr⟩ := open_bytes Try.underlying34 Try.underlying5 (by kernel_rfl) hf
  rw [hv] at h0k hval hf ⊢
  clear hA0 hval0
  simp only [List.append_nil] at hW'
  rw [hv] at hW'
  refine (lawFnRow A c bs W hr).mono fun e W' ⟨he, hb⟩ => ?_
  subst he
  exact ⟨_, rfl, _, _, _, [], _, [], hW', trodAll_mk1 (shut_bool Try.underlying4 _), trodAll_mk1 (Below.trod Try.laidOut (by kernel_rfl) (of_decide_eq_true (by kernel_rfl)) h0k hb (fun x hx => by simpa using hW'.lt x hx)), rfl, hb.frame _, fun h => by cases h⟩

theorem fnrow_holds : Rows.FnRowSaid :=
  OpenClaim.holds_of_wide 7 Try.f7 rfl rfl rfl rfl rfl rfl rfl ⟨rfl, rfl, rfl, rfl, rfl⟩ rfl rfl rfl rfl rfl (by kernel_rfl) Try.func7 (by kernel_rfl)
    (of_decide_eq_true (by kernel_rfl)) (by unfold Func.isWrapper; first | (rw [if_pos (by decide +kernel)]; kernel_rfl) | (rw [if_neg (by decide +kernel)]; exact ⟨rfl, rfl⟩))
    (fun os started H enc _ => fnrow_lifted os started H enc)

end Go.Proofs.Ytmobajlakelidaa
