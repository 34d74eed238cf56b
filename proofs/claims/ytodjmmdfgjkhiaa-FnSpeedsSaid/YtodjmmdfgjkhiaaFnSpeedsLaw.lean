/-
  The speeds ascend, and there are as many as the tidied design has wheels: the law FnSpeeds answers true at every code. No condition.
-/
import Derived.Test.YtodjmmdfgjkhiaaDd
import Derived.Test.YtodjmmdfgjkhiaaWg
namespace Go.Proofs.Ytodjmmdfgjkhiaa
open Go.ChangeShapes Go.WideShapes Go.ChangeAt Go.RowKit

theorem fold_asc (ds : List W9) : ∀ {ws : List W9}, Asc ws → Asc (foldW addW ws ds).1 := by
  induction ds with
  | nil => intro ws h; exact h
  | cons d ds ih =>
    intro ws h
    unfold foldW
    split
    · exact ih (addW_asc h d)
    · exact List.Pairwise.nil

theorem tidy_asc (ws : List W9) : Asc (tidyDes ws).1 := by
  unfold tidyDes
  split
  · unfold tidyRes doneW
    split
    · exact List.Pairwise.sublist List.filter_sublist (fold_asc ws List.Pairwise.nil)
    · exact List.Pairwise.nil
  · exact List.Pairwise.nil

theorem speeds_asc (ws : List W9) (t : Nat) (h1 : 1 ≤ t) (x y : Int) (hy : (speedsRes ws).1[t - 1]? = some y) (hx : (speedsRes ws).1[t]? = some x) : y < x := by
  have ha := tidy_asc ws
  unfold Asc at ha
  rw [List.pairwise_iff_getElem] at ha
  simp only [speedsRes, speedsOf, List.getElem?_map, Option.map_eq_some_iff] at hy hx
  obtain ⟨p, hp, rfl⟩ := hy
  obtain ⟨q, hq, rfl⟩ := hx
  obtain ⟨h2, rfl⟩ := List.getElem?_eq_some_iff.1 hp
  obtain ⟨h3, rfl⟩ := List.getElem?_eq_some_iff.1 hq
  exact ha (t - 1) t h2 h3 (by omega)

theorem speedsRes_len (ws : List W9) : (speedsRes ws).1.length ≤ 12 := by
  have := (tidyDes_ok ws).1
  simpa [speedsRes, speedsOf] using this

set_option maxHeartbeats 400000 in
theorem sameInts_ok (v v' : Value) (zs : List Int) (w : World) (hr : Reads w 1 v zs.length (ints zs)) (hr' : Reads w 1 v' zs.length (ints zs)) :
    Calls Try.prog 29 #[v, v'] w fun e w' => e = .returned (.bool true) ∧ Below w.heap.size w w' := by
  obtain ⟨_, hm, A, c, rfl, hc⟩ := hr
  obtain ⟨_, _, A', c', rfl, hc'⟩ := hr'
  go_enter Try.func29, Try.ntmps29
  go_wp2_with fail
  go_loopw [5] (fun i wr => ∃ t m : Nat, t ≤ zs.length ∧ i = .int .i64 t ∧ wr = w.drewN m) (fun i _ => zs.length - (intOf i).toNat)
  case atStart => exact ⟨0, 0, by omega, rfl, rfl⟩
  case round =>
    obtain ⟨t, m, ht, rfl, rfl⟩ := hrel
    by_cases hlt : t < zs.length
    · obtain ⟨b, o, rfl, hbl, hcell⟩ := hc (by omega) (by omega)
      obtain ⟨b', o', rfl, hbl', hcell'⟩ := hc' (by omega) (by omega)
      have h1 := (hcell t (by omega)).trans (ints_at zs t hlt)
      have h2 := (hcell' t (by omega)).trans (ints_at zs t hlt)
      clear hcell hc hcell' hc'
      generalize zs[t] = x at h1 h2
      have i3 : (0 : Int) ≤ (t : Int) := by omega
      have i4 : (t : Int) < (zs.length : Int) := by omega
      go_wp2_with fail
      go_quiet (fail)
      go_wp2_with fail
      go_roundw
      case rel => exact ⟨t + 1, _, by omega, by go_num, rfl⟩
      case measure => simp [intOf]; omega
    · go_wp2_with fail
      go_ret
      exact ⟨rfl, kept_drewN _ _⟩

set_option maxRecDepth 100000 in
set_option maxHeartbeats 2000000 in
theorem fnSpeedsLaw (A : Option Addr) (c : Nat) (bs : List Int) (w : World) (hcode : CodeIn w A c bs) :
    Calls Try.prog 8 #[.slice A bs.length c] w fun e w' => e = .returned (.bool true) ∧ Below w.heap.size w w' := by
  have Hcode := hide hcode
  have hm := hcode.1.2.1
  clear hcode
  by_cases hbig : 1048576 < bs.length
  · go_enter Try.func8, Try.ntmps8
    go_wp2
    go_ret
    exact ⟨rfl, Below.refl _ _⟩
  · go_enter Try.func8, Try.ntmps8
    go_wp2_with fail
    refine (drawSpeeds_ok A c bs _ Hcode.out).mono ?_
    rintro e w1 ⟨v, ws, rfl, ho, hl12, hb1⟩
    clear hm hbig Hcode
    have hl := speedsRes_len ws
    have hasc := speeds_asc ws
    have htl : (speedsRes ws).1.length = (tidyDes ws).1.length := by simp [speedsRes, speedsOf]
    have htb : (tidyDes ws).2 = (speedsRes ws).2 := rfl
    have himp := fun v w (hr : Reads w 9 v ws.length (wlCells ws)) => speedsImpl_ok v ws w hr (by omega)
    have hspe := fun v w (hr : Reads w 9 v ws.length (wlCells ws)) => speedsSpec_ok v ws w hr (by omega)
    have htid := fun v w (hr : Reads w 9 v ws.length (wlCells ws)) => tidyImpl_ok v ws w hr (by omega)
    unfold InPost at himp hspe
    unfold WlPost at htid
    generalize speedsRes ws = r at hl himp hspe hasc htl htb
    generalize tidyDes ws = z at htid htl htb
    obtain ⟨xs, ok⟩ := r
    obtain ⟨ts, ok2⟩ := z
    dsimp only at hl himp hspe htid htl htb
    subst htb
    have Himp := hide himp
    have Hspe := hide hspe
    have Htid := hide htid
    have Hasc := hide hasc
    clear himp hspe htid hasc
    go_wp2_with fail
    refine (Himp.out _ _ (has_reads ho)).mono ?_
    rintro e w2 ⟨v2, rfl, ho2, hb2⟩
    have hb02 := kept_trans hb1 hb2
    have ho_2 := has_kept ho hb2
    go_wp2_with fail
    refine (Hspe.out _ _ (has_reads ho_2)).mono ?_
    rintro e w3 ⟨v3, rfl, ho3, hb3⟩
    have hb03 := kept_trans hb02 hb3
    have ho2_3 := has_kept ho2 hb3
    have ho_3 := has_kept ho_2 hb3
    go_wp2_with fail
    refine (sameInts_ok _ _ xs _ (has_reads ho2_3) (has_reads ho3)).mono ?_
    rintro e w4 ⟨rfl, hb4⟩
    have hb04 := kept_trans hb03 hb4
    have ho2_4 := has_kept ho2_3 hb4
    have ho3_4 := has_kept ho3 hb4
    have ho_4 := has_kept ho_3 hb4
    cases ok2
    · go_wp2_with fail
      refine (sameInts_ok _ _ xs _ (has_reads ho2_4) (has_reads ho3_4)).mono ?_
      rintro e w5 ⟨rfl, hb5⟩
      go_wp2_with fail
      go_ret
      exact ⟨rfl, kept_trans hb04 hb5⟩
    · go_wp2_with fail
      refine (Htid.out _ _ (has_reads ho_4)).mono ?_
      rintro e w5 ⟨v5, rfl, ho5, hb5⟩
      have hb05 := kept_trans hb04 hb5
      obtain ⟨_, hm2, A2, c2, rfl, hc2⟩ := has_reads (has_kept ho2_4 hb5)
      obtain ⟨_, hm5, A5, c5, rfl, hc5⟩ := has_reads ho5
      have htl' : (xs.length : Int) = (ts.length : Int) := by omega
      have Hb := hide hb05
      clear ho ho2 ho3 ho_2 ho_3 ho_4 ho2_3 ho2_4 ho3_4 ho5 hb1 hb2 hb3 hb4 hb5 hb02 hb03 hb04 hb05 Himp Hspe Htid hc5
      go_wp2_with fail
      go_loopw [10] (fun i wr => ∃ t m : Nat, 1 ≤ t ∧ (t ≤ xs.length ∨ t = 1) ∧ i = .int .i64 t ∧ wr = w5.drewN m) (fun i _ => xs.length - (intOf i).toNat)
      case atStart => exact ⟨1, 0, by omega, .inr rfl, rfl, rfl⟩
      case round =>
        obtain ⟨t, m, ht1, ht, rfl, rfl⟩ := hrel
        by_cases hlt : t < xs.length
        · obtain ⟨b, o, rfl, hbl, hcell⟩ := hc2 (by omega) (by omega)
          have h1 := (hcell t (by omega)).trans (ints_at xs t hlt)
          have h2 := (hcell (t - 1) (by omega)).trans (ints_at xs (t - 1) (by omega))
          have h3 := Hasc.out t ht1 xs[t] xs[t - 1] (List.getElem?_eq_getElem (by omega)) (List.getElem?_eq_getElem hlt)
          clear hcell hc2
          generalize xs[t] = x at h1 h3
          generalize xs[t - 1] = y at h2 h3
          have i1 : (0 : Int) ≤ (t : Int) := by omega
          have i2 : (t : Int) < (xs.length : Int) := by omega
          have i3 : (0 : Int) ≤ (t : Int) - 1 := by omega
          have i4 : (t : Int) - 1 < (xs.length : Int) := by omega
          have i5 : ((t : Int) - 1).toNat = t - 1 := by omega
          go_wp2_with fail
          go_quiet (fail)
          go_wp2_with fail
          go_roundw
          case rel => exact ⟨t + 1, _, by omega, .inl (by omega), by go_num, rfl⟩
          case measure => simp [intOf]; omega
        · go_wp2_with fail
          go_ret
          exact ⟨by simp, kept_trans Hb.out (kept_drewN _ _)⟩

theorem Try.own : ownKnob Try.prog.godebug = none := by kernel_rfl
theorem Try.laidOut : laidOutB Try.prog = true := by kernel_rfl

set_option maxRecDepth 100000 in
theorem fnSpeeds_lifted (os : Os) (started : os.Started) (H : Type) (enc : TypeId × Value → H) :
    ReturnsInHanded {} Try.checked os 8 .any (Rows.fnSpeedsSpec.pre6 enc Try.prog Try.f8 Rows.fnSpeedsRow.domain false) (Rows.fnSpeedsSpec.post enc Try.prog Try.f8 false true false false) := by
  refine returnsInHanded_of_change (C := Try.checked) Try.own started (by kernel_rfl) Try.func8
    (ChangeSpec.witness6 (enc := enc) (C := Try.checked) false ⟨#[], #[.slice none 0 0], []⟩ 8 (by kernel_rfl) (by kernel_rfl) (by kernel_rfl) (by kernel_rfl)) ?_
  intro W base args ds gs before hval0 hW hcnd _
  have hval : ∀ (j : Nat) t v, Try.f8.params[j]? = some t → args[j]? = some v → Value.okWide Try.prog W .any base t v := hval0
  have hW' := hW
  obtain ⟨p, q, hA0, hV, rfl, hfz, hnd⟩ := hW
  have hA : DataW.TrodAll enc Try.prog W 0 (fun _ => true) true Try.f8.params.toList args.toList ds p := hA0
  rw [Try.params8] at hA hval
  obtain ⟨v0, d0, rfl, rfl, h0⟩ := trodAll_one hA
  obtain ⟨rfl, rfl⟩ := trodVars_none hV
  have h0k := h0
  obtain ⟨a0, len, cap, rfl⟩ := okWide_slice Try.underlying44 (hval 0 44 v0 rfl rfl)
  obtain ⟨fuel, hf⟩ := h0
  obtain ⟨A, c, bs, hv, hr⟩ := open_bytes Try.underlying44 Try.underlying5 (by kernel_rfl) hf
  rw [hv] at h0k hval hf ⊢
  clear hA0 hval0
  simp only [List.append_nil] at hW'
  rw [hv] at hW'
  refine (fnSpeedsLaw A c bs W hr).mono fun e W' ⟨he, hb⟩ => ?_
  subst he
  exact ⟨_, rfl, _, _, _, [], _, [], hW', trodAll_mk1 (shut_bool Try.underlying4 _), trodAll_mk1 (Below.trod Try.laidOut (by kernel_rfl) (of_decide_eq_true (by kernel_rfl)) h0k hb (fun x hx => by simpa using hW'.lt x hx)), rfl, hb.frame _, fun h => by cases h⟩

theorem fnSpeeds_holds : Rows.FnSpeedsSaid :=
  OpenClaim.holds_of_wide 8 Try.f8 rfl rfl rfl rfl rfl rfl rfl ⟨rfl, rfl, rfl, rfl, rfl⟩ rfl rfl rfl rfl rfl (by kernel_rfl) Try.func8 (by kernel_rfl)
    (of_decide_eq_true (by kernel_rfl)) (by unfold Func.isWrapper; first | (rw [if_pos (by decide +kernel)]; kernel_rfl) | (rw [if_neg (by decide +kernel)]; exact ⟨rfl, rfl⟩))
    (fun os started H enc _ => fnSpeeds_lifted os started H enc)

end Go.Proofs.Ytodjmmdfgjkhiaa
