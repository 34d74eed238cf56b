/-
  Turned round it is a polygon: the law FnPolyBack answers true at every code. No condition.
-/
import Derived.Test.YtmobajlakelidaaDp
import Derived.Test.YtmobajlakelidaaCyBi
namespace Go.Proofs.Ytmobajlakelidaa
open Go.ChangeShapes Go.WideShapes Go.ChangeAt Go.RowKit

set_option maxRecDepth 100000 in
set_option maxHeartbeats 1000000 in
theorem sameCy_ok (v v' : Value) (cs : List C8) (w : World) (hr : Reads w 8 v cs.length (cyCells cs)) (hr' : Reads w 8 v' cs.length (cyCells cs)) :
    Calls Try.prog 23 #[v, v'] w fun e w' => e = .returned (.bool true) ∧ Below w.heap.size w w' := by
  obtain ⟨_, hm, A, c, rfl, hc⟩ := hr
  obtain ⟨_, _, A', c', rfl, hc'⟩ := hr'
  go_enter Try.func23, Try.ntmps23
  go_wp2_with fail
  go_loopw [5] (fun i wr => ∃ t m : Nat, t ≤ cs.length ∧ i = .int .i64 t ∧ wr = w.drewN m) (fun i _ => cs.length - (intOf i).toNat)
  case atStart => exact ⟨0, 0, by omega, rfl, rfl⟩
  case round =>
    obtain ⟨t, m, ht, rfl, rfl⟩ := hrel
    by_cases hlt : t < cs.length
    · obtain ⟨b, o, rfl, hbl, hcell⟩ := hc (by omega) (by omega)
      obtain ⟨b', o', rfl, hbl', hcell'⟩ := hc' (by omega) (by omega)
      have hA := cyc_cells hcell t hlt
      have hB := cyc_cells hcell' t hlt
      clear hcell hc hcell' hc'
      generalize cs[t] = p at hA hB
      have hq : ∀ W, (binOp .neq 39 p.val p.val).run Try.prog W = .ok (.bool false) W := fun W => by rw [neqCy, C8.eqB_self]; rfl
      rw [val_spell] at hq
      obtain ⟨p0, p1, p2, p3, p4, p5, p6, p7⟩ := hA
      obtain ⟨q0, q1, q2, q3, q4, q5, q6, q7⟩ := hB
      have i3 : (0 : Int) ≤ (t : Int) := by omega
      have i4 : (t : Int) < (cs.length : Int) := by omega
      go_wp2_with fail
      go_quiet (fail)
      go_wp2_with fail
      go_roundw
      case rel => exact ⟨t + 1, _, by omega, by go_num, rfl⟩
      case measure => simp [intOf]; omega
    · go_wp2_with fail
      go_ret
      exact ⟨rfl, kept_drewN _ _⟩


theorem drawPB_ok (A : Option Addr) (c : Nat) (bs : List Int) (w : World) (hc : CodeIn w A c bs) : Calls Try.prog 24 #[.slice A bs.length c] w fun e w' => ∃ v cs, e = .returned v ∧ Has w' w.heap.size 8 v cs.length (cyCells cs) ∧ cs.length ≤ 30 ∧ Below w.heap.size w w' := by
  have H := hide hc
  clear hc
  go_enter Try.func24, Try.ntmps24
  go_wp2_with fail
  refine (l6Open_ok A c bs _ H.out.1 H.out.2.1 H.out.2.2.1 H.out.2.2.2).mono ?_
  rintro e w1 ⟨R, rfl, hR, hR1, hb1⟩
  go_wp2_with fail
  refine (l92Poly_ok R 0 _ hR1 (by decide)).mono ?_
  rintro e w2 ⟨v, cs, rfl, hh, hl, hg2⟩
  have hb2 := kept_of_new hb1 hg2 hR
  have hh2 := has_base hh hb1.size
  clear hh
  go_wp2_with fail
  go_ret
  exact ⟨v, cs, rfl, hh2, hl, hb2⟩

theorem polyB_rev (cs : List C8) : polyB cs.reverse = polyB cs := by simp [polyB, allSmall]

set_option maxRecDepth 100000 in
set_option maxHeartbeats 4000000 in
theorem lawPolyBack (A : Option Addr) (c : Nat) (bs : List Int) (w : World) (hcode : CodeIn w A c bs) :
    Calls Try.prog 8 #[.slice A bs.length c] w fun e w' => e = .returned (.bool true) ∧ Below w.heap.size w w' := by
  have Hcode := hide hcode
  have hm := hcode.1.2.1
  clear hcode
  by_cases hbig : 1048576 < bs.length
  · go_enter Try.func8, Try.ntmps8
    go_wp2
    go_ret
    exact ⟨rfl, Below.refl _ _⟩
  · go_enter Try.func8, Try.ntmps8
    go_wp2_with fail
    refine (drawPB_ok A c bs _ Hcode.out).mono ?_
    rintro e w1 ⟨v, cs, rfl, ho1, hl, hb1⟩
    clear hm hbig Hcode
    have himp := fun w hr => backImpl_ok v cs w hr (by omega)
    have hspe := fun w hr => backSpec_ok v cs w hr (by omega)
    have hpv := fun u w (hr : Reads w 8 u cs.reverse.length (cyCells cs.reverse)) => polyImpl_ok u cs.reverse w hr (by simp; omega)
    rw [polyB_rev] at hpv
    have hcase : backRes cs = ([], false) ∨ (backRes cs = (cs.reverse, true) ∧ polyB cs = true ∧ 1 ≤ cs.length) := by
      unfold backRes
      split
      · rename_i h
        exact .inr ⟨rfl, h, (polyB_len h).1⟩
      · exact .inl rfl
    unfold CyPost at himp hspe
    have Hr1 := hide (has_reads ho1)
    rcases hcase with hres | ⟨hres, hpo, hl1⟩
    · rw [hres] at himp hspe
      dsimp only at himp hspe
      have Himp := hide himp
      have Hspe := hide hspe
      clear himp hspe hpv ho1 hres
      go_wp2_with fail
      refine (Himp.out _ Hr1.out).mono ?_
      rintro e w2 ⟨v2, rfl, ho2, hb2⟩
      have Hr2 := hide (reads_kept Hr1.out hb2)
      have hb02 := kept_trans hb1 hb2
      clear Hr1 hb1 hb2
      go_wp2_with fail
      refine (Hspe.out _ Hr2.out).mono ?_
      rintro e w3 ⟨v3, rfl, ho3, hb3⟩
      have hb03 := kept_trans hb02 hb3
      have ho2_3 := has_kept ho2 hb3
      clear Hr2 hb02 ho2 hb3
      go_wp2_with fail
      refine (sameCy_ok _ _ [] _ (has_reads ho2_3) (has_reads ho3)).mono ?_
      rintro e w4 ⟨rfl, hb4⟩
      go_wp2_with fail
      refine (sameCy_ok _ _ [] _ (reads_kept (has_reads ho2_3) hb4) (reads_kept (has_reads ho3) hb4)).mono ?_
      rintro e w5 ⟨rfl, hb5⟩
      go_wp2_with fail
      go_ret
      exact ⟨by simp, kept_trans (kept_trans hb03 hb4) hb5⟩
    · rw [hres] at himp hspe
      rw [hpo] at hpv
      dsimp only at himp hspe
      have Himp := hide himp
      have Hspe := hide hspe
      have Hpv := hide hpv
      clear himp hspe hpv ho1 hres hpo
      go_wp2_with fail
      refine (Himp.out _ Hr1.out).mono ?_
      rintro e w2 ⟨v2, rfl, ho2, hb2⟩
      have Hr2 := hide (reads_kept Hr1.out hb2)
      have hb02 := kept_trans hb1 hb2
      clear Hr1 hb1 hb2
      go_wp2_with fail
      refine (Hspe.out _ Hr2.out).mono ?_
      rintro e w3 ⟨v3, rfl, ho3, hb3⟩
      have Hr3 := hide (reads_kept Hr2.out hb3)
      have hb03 := kept_trans hb02 hb3
      have ho2_3 := has_kept ho2 hb3
      clear Hr2 hb02 ho2 hb3
      go_wp2_with fail
      refine (sameCy_ok _ _ cs.reverse _ (has_reads ho2_3) (has_reads ho3)).mono ?_
      rintro e w4 ⟨rfl, hb4⟩
      have hb04 := kept_trans hb03 hb4
      have hr4 := reads_kept Hr3.out hb4
      have hz4 := reads_kept (has_reads ho2_3) hb4
      have Hz4 := hide hz4
      clear ho3 ho2_3 hb4 hb03 Hr3
      obtain ⟨_, _, A1, c1, rfl, hc1⟩ := hr4
      obtain ⟨_, _, A2, c2, rfl, hc2⟩ := hz4
      have hrl : cs.reverse.length = cs.length := List.length_reverse
      obtain ⟨K, hK⟩ : ∃ K, cs.length = K + 1 := ⟨cs.length - 1, by omega⟩
      have hm2 : K ≤ 30 := by omega
      obtain ⟨b, o, rfl, hbl, hcell⟩ := hc1 (by omega) (by omega)
      obtain ⟨b2, o2, rfl, hbl2, hcell2⟩ := hc2 (by omega) (by omega)
      have hA := cyc_cells hcell K (by omega)
      have hB := cyc_cells hcell2 0 (by omega)
      have hsame : (cs.reverse)[0]'(by omega) = cs[K]'(by omega) := by
        rw [List.getElem_reverse]
        congr 1
        omega
      rw [hsame] at hB
      simp only [Nat.zero_mul, Nat.add_zero] at hB
      clear hcell hcell2 hc1 hc2 hsame
      generalize cs[K] = p at hA hB
      have hq : ∀ W, (binOp .eql 39 p.val p.val).run Try.prog W = .ok (.bool true) W := fun W => by rw [eqlCy, C8.eqB_self]
      rw [val_spell] at hq
      obtain ⟨p0, p1, p2, p3, p4, p5, p6, p7⟩ := hA
      obtain ⟨q0, q1, q2, q3, q4, q5, q6, q7⟩ := hB
      rw [hrl] at Hz4 Hpv ⊢
      clear hrl hl1 hl
      generalize cs.length = L at *
      subst hK
      have i1 : (0 : Int) ≤ (K : Int) := by omega
      have i2 : (K : Int) < ((K + 1 : Nat) : Int) := by omega
      have i3 : (0 : Int) < ((K + 1 : Nat) : Int) := by omega
      have i4 : (0 : Int) < (K : Int) + 1 := by omega
      have i5 : (K : Int) < (K : Int) + 1 := by omega
      have i6 : IntKind.i64.wrap ((K : Int) + 1 - 1) = (K : Int) := by rw [Int.add_sub_cancel]; exact IntWalk.i64_in _ (by have h9 := hm2; omega)
      have i7 : IntKind.i64.wrap (((K + 1 : Nat) : Int) - 1) = (K : Int) := by rw [show ((K + 1 : Nat) : Int) - 1 = (K : Int) + 1 - 1 from by omega]; exact i6
      have i8 : IntKind.i64.wrap (K : Int) = (K : Int) := IntWalk.i64_in _ (by have h9 := hm2; omega)
      go_wp2_with fail
      go_region_held3 (fun w' => w'.cell? ⟨b2, o2, none⟩ = some (.int .i64 p.a0) ∧ w'.cell? ⟨b2, o2 + 1, none⟩ = some (.int .i64 p.a1) ∧ w'.cell? ⟨b2, o2 + 2, none⟩ = some (.int .i64 p.a2) ∧ w'.cell? ⟨b2, o2 + 3, none⟩ = some (.int .i64 p.a3) ∧ w'.cell? ⟨b2, o2 + 4, none⟩ = some (.int .i64 p.a4) ∧ w'.cell? ⟨b2, o2 + 5, none⟩ = some (.int .i64 p.a5) ∧ w'.cell? ⟨b2, o2 + 6, none⟩ = some (.int .i64 p.a6) ∧ w'.cell? ⟨b2, o2 + 7, none⟩ = some (.int .i64 p.a7) ∧ w'.cell? ⟨b, o + K * 8, none⟩ = some (.int .i64 p.a0) ∧ w'.cell? ⟨b, o + K * 8 + 1, none⟩ = some (.int .i64 p.a1) ∧ w'.cell? ⟨b, o + K * 8 + 2, none⟩ = some (.int .i64 p.a2) ∧ w'.cell? ⟨b, o + K * 8 + 3, none⟩ = some (.int .i64 p.a3) ∧ w'.cell? ⟨b, o + K * 8 + 4, none⟩ = some (.int .i64 p.a4) ∧ w'.cell? ⟨b, o + K * 8 + 5, none⟩ = some (.int .i64 p.a5) ∧ w'.cell? ⟨b, o + K * 8 + 6, none⟩ = some (.int .i64 p.a6) ∧ w'.cell? ⟨b, o + K * 8 + 7, none⟩ = some (.int .i64 p.a7))
        (first | go_keep | (go_split_ands; exact ⟨kept_cell hb5 ‹_›, kept_cell hb5 ‹_›, kept_cell hb5 ‹_›, kept_cell hb5 ‹_›, kept_cell hb5 ‹_›, kept_cell hb5 ‹_›, kept_cell hb5 ‹_›, kept_cell hb5 ‹_›, kept_cell hb5 ‹_›, kept_cell hb5 ‹_›, kept_cell hb5 ‹_›, kept_cell hb5 ‹_›, kept_cell hb5 ‹_›, kept_cell hb5 ‹_›, kept_cell hb5 ‹_›, kept_cell hb5 ‹_›⟩))
        (first
          | (go_at_call 12; refine (Hpv.out _ _ (reads_kept Hz4.out (kept_drew _))).mono ?_; rintro e w5 ⟨rfl, hb5⟩))
      go_wp2_with fail
      go_ret
      exact ⟨by simp, kept_trans (kept_trans hb04 (kept_drew _)) hb5⟩

theorem Try.own : ownKnob Try.prog.godebug = none := by kernel_rfl
theorem Try.laidOut : laidOutB Try.prog = true := by kernel_rfl

set_option maxRecDepth 100000 in
theorem fnPolyBack_lifted (os : Os) (started : os.Started) (H : Type) (enc : TypeId × Value → H) :
    ReturnsInHanded {} Try.checked os 8 .any (Rows.fnPolyBackSpec.pre6 enc Try.prog Try.f8 Rows.fnPolyBackRow.domain false) (Rows.fnPolyBackSpec.post enc Try.prog Try.f8 false true false false) := by
  refine returnsInHanded_of_change (C := Try.checked) Try.own started (by kernel_rfl) Try.func8
    (ChangeSpec.witness6 (enc := enc) (C := Try.checked) false ⟨#[], #[.slice none 0 0], []⟩ 8 (by kernel_rfl) (by kernel_rfl) (by kernel_rfl) (by kernel_rfl)) ?_
  intro W base args ds gs before hval0 hW hcnd _
  have hval : ∀ (j : Nat) t v, Try.f8.params[j]? = some t → args[j]? = some v → Value.okWide Try.prog W .any base t v := hval0
  have hW' := hW
  obtain ⟨p, q, hA0, hV, rfl, hfz, hnd⟩ := hW
  have hA : DataW.TrodAll enc Try.prog W 0 (fun _ => true) true Try.f8.params.toList args.toList ds p := hA0
  rw [Try.params8] at hA hval
  obtain ⟨v0, d0, rfl, rfl, h0⟩ := trodAll_one hA
  obtain ⟨rfl, rfl⟩ := trodVars_none hV
  have h0k := h0
  obtain ⟨a0, len, cap, rfl⟩ := okWide_slice Try.underlying34 (hval 0 34 v0 rfl rfl)
  obtain ⟨fuel, hf⟩ := h0
  obtain ⟨A, c, bs, hv, hr⟩ := open_bytes Try.underlying34 Try.underlying5 (by kernel_rfl) hf
  rw [hv] at h0k hval hf ⊢
  clear hA0 hval0
  simp only [List.append_nil] at hW'
  rw [hv] at hW'
  refine (lawPolyBack A c bs W hr).mono fun e W' ⟨he, hb⟩ => ?_
  subst he
  exact ⟨_, rfl, _, _, _, [], _, [], hW', trodAll_mk1 (shut_bool Try.underlying4 _), trodAll_mk1 (Below.trod Try.laidOut (by kernel_rfl) (of_decide_eq_true (by kernel_rfl)) h0k hb (fun x hx => by simpa using hW'.lt x hx)), rfl, hb.frame _, fun h => by cases h⟩

theorem fnPolyBack_holds : Rows.FnPolyBackSaid :=
  OpenClaim.holds_of_wide 8 Try.f8 rfl rfl rfl rfl rfl rfl rfl ⟨rfl, rfl, rfl, rfl, rfl⟩ rfl rfl rfl rfl rfl (by kernel_rfl) Try.func8 (by kernel_rfl)
    (of_decide_eq_true (by kernel_rfl)) (by unfold Func.isWrapper; first | (rw [if_pos (by decide +kernel)]; kernel_rfl) | (rw [if_neg (by decide +kernel)]; exact ⟨rfl, rfl⟩))
    (fun os started H enc _ => fnPolyBack_lifted os started H enc)

end Go.Proofs.Ytmobajlakelidaa
