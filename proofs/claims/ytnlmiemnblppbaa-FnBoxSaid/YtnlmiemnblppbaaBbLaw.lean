/-
  No point is beyond the box: the law FnBox answers true at every code. No condition.
-/
import Derived.Test.YtnlmiemnblppbaaHp
import Derived.Test.YtnlmiemnblppbaaBx
namespace Go.Proofs.Ytnlmiemnblppbaa
open Go.ChangeShapes Go.WideShapes Go.ChangeAt Go.RowKit

theorem drawBox_ok (A : Option Addr) (c : Nat) (bs : List Int) (w : World) (hc : CodeIn w A c bs) : Calls Try.prog 35 #[.slice A bs.length c] w fun e w' => ∃ v zs, e = .returned v ∧ Has w' w.heap.size 1 v zs.length (cCells zs) ∧ zs.length ≤ 24 ∧ Below w.heap.size w w' := by
  have H := hide hc
  clear hc
  go_enter Try.func35, Try.ntmps35
  go_wp2_with fail
  refine (l6Open_ok A c bs _ H.out.1 H.out.2.1 H.out.2.2.1 H.out.2.2.2).mono ?_
  rintro e w1 ⟨R, rfl, hR, hR1, hb1⟩
  go_wp2_with fail
  refine (l92Path_ok R 0 _ hR1 (by decide)).mono ?_
  rintro e w2 ⟨v, zs, rfl, hh, hl, _, _, hg2, -⟩
  have hb2 := kept_of_new hb1 hg2 hR
  have hh2 := has_base hh hb1.size
  clear hh
  go_wp2_with fail
  go_ret
  exact ⟨v, zs, rfl, hh2, hl, hb2⟩

theorem part_fin (x : Nat) (h : partB x = true) : fieldW Ieee.single x ≤ 250 := by
  obtain ⟨_, hr⟩ := part_rung x h
  unfold fieldW
  unfold rungW at hr
  rw [s_binade]
  omega

theorem lessW_or (a b : Nat) : lessW a b = a ∨ lessW a b = b := by
  unfold lessW
  split
  · exact .inr rfl
  · exact .inl rfl
theorem moreW_or (a b : Nat) : moreW a b = a ∨ moreW a b = b := by
  unfold moreW
  split
  · exact .inr rfl
  · exact .inl rfl

theorem best_part (op : Nat → Nat → Nat) (hop : ∀ a b, op a b = a ∨ op a b = b) (ps : List Nat) (h : ∀ i, i < ps.length → partB (ps.getD i 0) = true) (hn : 0 < ps.length) (t : Nat) (ht : t ≤ ps.length) : partB (bestN op ps t) = true := by
  induction t with
  | zero => exact h 0 hn
  | succ t ih =>
    show partB (op (bestN op ps t) (ps.getD t 0)) = true
    rcases hop (bestN op ps t) (ps.getD t 0) with e | e
    · rw [e]; exact ih (by omega)
    · rw [e]; exact h t (by omega)

theorem less_key (a b : Nat) (ha : partB a = true) (hb : partB b = true) : keyW Ieee.single (lessW a b) ≤ keyW Ieee.single a ∧ keyW Ieee.single (lessW a b) ≤ keyW Ieee.single b := by
  have ho : (FloatKind.f32.format.order b a == some Ordering.lt) = decide (keyW Ieee.single b < keyW Ieee.single a) := ord_lt Ieee.single b a (part_rung b hb).1 (part_rung a ha).1
  unfold lessW
  rw [ho]
  by_cases h : keyW Ieee.single b < keyW Ieee.single a
  · rw [if_pos (decide_eq_true h)]; omega
  · rw [if_neg (by rw [decide_eq_false h]; decide)]; omega

theorem more_key (a b : Nat) (ha : partB a = true) (hb : partB b = true) : keyW Ieee.single a ≤ keyW Ieee.single (moreW a b) ∧ keyW Ieee.single b ≤ keyW Ieee.single (moreW a b) := by
  have ho : (FloatKind.f32.format.order b a == some Ordering.gt) = decide (keyW Ieee.single a < keyW Ieee.single b) := ord_gt Ieee.single b a (part_rung b hb).1 (part_rung a ha).1
  unfold moreW
  rw [ho]
  by_cases h : keyW Ieee.single a < keyW Ieee.single b
  · rw [if_pos (decide_eq_true h)]; omega
  · rw [if_neg (by rw [decide_eq_false h]; decide)]; omega

theorem best_less (ps : List Nat) (h : ∀ i, i < ps.length → partB (ps.getD i 0) = true) (hn : 0 < ps.length) (t : Nat) (ht : t ≤ ps.length) (i : Nat) (hi : i < t) : keyW Ieee.single (bestN lessW ps t) ≤ keyW Ieee.single (ps.getD i 0) := by
  induction t with
  | zero => omega
  | succ t ih =>
    have hk := less_key (bestN lessW ps t) (ps.getD t 0) (best_part lessW lessW_or ps h hn t (by omega)) (h t (by omega))
    show keyW Ieee.single (lessW (bestN lessW ps t) (ps.getD t 0)) ≤ _
    by_cases h1 : i = t
    · subst h1; exact hk.2
    · exact Int.le_trans hk.1 (ih (by omega) (by omega))

theorem best_more (ps : List Nat) (h : ∀ i, i < ps.length → partB (ps.getD i 0) = true) (hn : 0 < ps.length) (t : Nat) (ht : t ≤ ps.length) (i : Nat) (hi : i < t) : keyW Ieee.single (ps.getD i 0) ≤ keyW Ieee.single (bestN moreW ps t) := by
  induction t with
  | zero => omega
  | succ t ih =>
    have hk := more_key (bestN moreW ps t) (ps.getD t 0) (best_part moreW moreW_or ps h hn t (by omega)) (h t (by omega))
    show _ ≤ keyW Ieee.single (moreW (bestN moreW ps t) (ps.getD t 0))
    by_cases h1 : i = t
    · subst h1; exact hk.2
    · exact Int.le_trans (ih (by omega) (by omega)) hk.1

theorem not_less (x lo : Nat) (hx : partB x = true) (hl : partB lo = true) (h : keyW Ieee.single lo ≤ keyW Ieee.single x) : (FloatKind.f32.format.order x lo == some Ordering.lt) = false := by
  have ho : (FloatKind.f32.format.order x lo == some Ordering.lt) = decide (keyW Ieee.single x < keyW Ieee.single lo) := ord_lt Ieee.single x lo (part_rung x hx).1 (part_rung lo hl).1
  rw [ho]
  exact decide_eq_false (by omega)

theorem not_more (x hi : Nat) (hx : partB x = true) (hl : partB hi = true) (h : keyW Ieee.single x ≤ keyW Ieee.single hi) : (FloatKind.f32.format.order x hi == some Ordering.gt) = false := by
  have ho : (FloatKind.f32.format.order x hi == some Ordering.gt) = decide (keyW Ieee.single hi < keyW Ieee.single x) := ord_gt Ieee.single x hi (part_rung x hx).1 (part_rung hi hl).1
  rw [ho]
  exact decide_eq_false (by omega)

theorem xs_parts {zs : List (Nat × Nat)} (hp : pathOk zs = true) : ∀ i, i < (xsZ zs).length → partB ((xsZ zs).getD i 0) = true := by
  intro i hi
  rw [xsZ_len] at hi
  rw [xsZ_at zs i hi]
  simp only [pathOk, Bool.and_eq_true, List.all_eq_true, ptB] at hp
  exact (hp.2 _ (List.getElem_mem hi)).1
theorem ys_parts {zs : List (Nat × Nat)} (hp : pathOk zs = true) : ∀ i, i < (ysZ zs).length → partB ((ysZ zs).getD i 0) = true := by
  intro i hi
  rw [ysZ_len] at hi
  rw [ysZ_at zs i hi]
  simp only [pathOk, Bool.and_eq_true, List.all_eq_true, ptB] at hp
  exact (hp.2 _ (List.getElem_mem hi)).2

set_option maxRecDepth 100000 in
set_option maxHeartbeats 4000000 in
theorem lawBox (A : Option Addr) (c : Nat) (bs : List Int) (w : World) (hcode : CodeIn w A c bs) :
    Calls Try.prog 8 #[.slice A bs.length c] w fun e w' => e = .returned (.bool true) ∧ Below w.heap.size w w' := by
  have Hcode := hide hcode
  have hm := hcode.1.2.1
  clear hcode
  by_cases hbig : 1048576 < bs.length
  · go_enter Try.func8, Try.ntmps8
    go_wp2
    go_ret
    exact ⟨rfl, Below.refl _ _⟩
  · go_enter Try.func8, Try.ntmps8
    go_wp2_with fail
    refine (drawBox_ok A c bs _ Hcode.out).mono ?_
    rintro e w1 ⟨v, zs, rfl, hh, hl, hb1⟩
    have Hr := hide (has_reads hh)
    clear hh hm hbig Hcode
    cases hp : pathOk zs with
    | false =>
      have Hi := hide (fun w hr => implBoxF_ok v zs w hr hp)
      have Hs := hide (fun w hr => specBoxF_ok v zs w hr hp)
      have Hz := hide (fun W => singleAlike_ok (0, 0) W ⟨by decide, by decide⟩)
      clear hp hl
      go_wp2_with fail
      refine (Hi.out _ Hr.out).mono ?_
      rintro e w2 ⟨rfl, rfl⟩
      go_wp2_with fail
      refine (Hs.out _ Hr.out).mono ?_
      rintro e w2 ⟨rfl, rfl⟩
      go_wp2_with fail
      refine (Hz.out _).mono ?_
      rintro e w2 ⟨rfl, rfl⟩
      go_wp2_with fail
      refine (Hz.out _).mono ?_
      rintro e w2 ⟨rfl, rfl⟩
      go_wp2_with fail
      refine (Hz.out _).mono ?_
      rintro e w2 ⟨rfl, rfl⟩
      go_wp2_with fail
      refine (Hz.out _).mono ?_
      rintro e w2 ⟨rfl, rfl⟩
      go_wp2_with fail
      go_ret
      exact ⟨by simp, hb1⟩
    | true =>
      have hn : 0 < zs.length := by
        simp only [pathOk, Bool.and_eq_true, decide_eq_true_eq] at hp
        omega
      have hxp := xs_parts hp
      have hyp := ys_parts hp
      have hxn : 0 < (xsZ zs).length := by rw [xsZ_len]; exact hn
      have hyn : 0 < (ysZ zs).length := by rw [ysZ_len]; exact hn
      have p1 := best_part lessW lessW_or _ hxp hxn zs.length (by rw [xsZ_len]; exact Nat.le_refl _)
      have p2 := best_part lessW lessW_or _ hyp hyn zs.length (by rw [ysZ_len]; exact Nat.le_refl _)
      have p3 := best_part moreW moreW_or _ hxp hxn zs.length (by rw [xsZ_len]; exact Nat.le_refl _)
      have p4 := best_part moreW moreW_or _ hyp hyn zs.length (by rw [ysZ_len]; exact Nat.le_refl _)
      have hall : ∀ t (h : t < zs.length), (FloatKind.f32.format.order (zs[t]).1 (bestN lessW (xsZ zs) zs.length) == some Ordering.lt) = false ∧ (FloatKind.f32.format.order (zs[t]).2 (bestN lessW (ysZ zs) zs.length) == some Ordering.lt) = false ∧ (FloatKind.f32.format.order (zs[t]).1 (bestN moreW (xsZ zs) zs.length) == some Ordering.gt) = false ∧ (FloatKind.f32.format.order (zs[t]).2 (bestN moreW (ysZ zs) zs.length) == some Ordering.gt) = false := by
        intro t h
        have a1 := hxp t (by rw [xsZ_len]; exact h)
        have a2 := hyp t (by rw [ysZ_len]; exact h)
        have k1 := best_less _ hxp hxn zs.length (by rw [xsZ_len]; exact Nat.le_refl _) t h
        have k2 := best_less _ hyp hyn zs.length (by rw [ysZ_len]; exact Nat.le_refl _) t h
        have k3 := best_more _ hxp hxn zs.length (by rw [xsZ_len]; exact Nat.le_refl _) t h
        have k4 := best_more _ hyp hyn zs.length (by rw [ysZ_len]; exact Nat.le_refl _) t h
        rw [xsZ_at zs t h] at a1 k1 k3
        rw [ysZ_at zs t h] at a2 k2 k4
        exact ⟨not_less _ _ a1 p1 k1, not_less _ _ a2 p2 k2, not_more _ _ a1 p3 k3, not_more _ _ a2 p4 k4⟩
      have Hall := hide hall
      have hi0 := fun w hr => implBox_ok v zs w hr hp hn (by omega)
      have hs0 := fun w hr => specBox_ok v zs w hr hp hn
      have Hz1 := hide (fun W => singleAlike_ok (bestN lessW (xsZ zs) zs.length, bestN lessW (ysZ zs) zs.length) W ⟨part_fin _ p1, part_fin _ p2⟩)
      have Hz2 := hide (fun W => singleAlike_ok (bestN moreW (xsZ zs) zs.length, bestN moreW (ysZ zs) zs.length) W ⟨part_fin _ p3, part_fin _ p4⟩)
      unfold lowZ highZ at hi0 hs0
      have Hi := hide hi0
      have Hs := hide hs0
      dsimp only at Hz1 Hz2
      clear hi0 hs0 hall hxp hyp hxn hyn p1 p2 p3 p4 hp hn hl
      generalize bestN lessW (xsZ zs) zs.length = a1 at *
      generalize bestN lessW (ysZ zs) zs.length = a2 at *
      generalize bestN moreW (xsZ zs) zs.length = b1 at *
      generalize bestN moreW (ysZ zs) zs.length = b2 at *
      have hr0 := Hr.out
      obtain ⟨-, hm, A1, c1, rfl, -⟩ := hr0
      go_wp2_with fail
      refine (Hi.out _ Hr.out).mono ?_
      rintro e w2 ⟨rfl, hb2⟩
      have Hr2 := hide (reads_kept Hr.out hb2)
      have hb02 := kept_trans hb1 hb2
      clear hb1 hb2 Hr
      go_wp2_with fail
      refine (Hs.out _ Hr2.out).mono ?_
      rintro e w3 ⟨rfl, hb3⟩
      have hr3 := reads_kept Hr2.out hb3
      have hb03 := kept_trans hb02 hb3
      clear hb02 hb3 Hr2
      go_wp2_with fail
      refine (Hz1.out _).mono ?_
      rintro e w4 ⟨rfl, rfl⟩
      go_wp2_with fail
      refine (Hz2.out _).mono ?_
      rintro e w4 ⟨rfl, rfl⟩
      obtain ⟨-, -, A3, c3, hv3, hc3⟩ := hr3
      simp only [Value.slice.injEq, true_and] at hv3
      obtain ⟨rfl, rfl⟩ := hv3
      go_wp2_with fail
      go_loop [10] (fun i => ∃ t : Nat, t ≤ zs.length ∧ i = .int .i64 t) (fun i => zs.length - (intOf i).toNat)
      case atStart => exact ⟨0, by omega, rfl⟩
      case round =>
        obtain ⟨t, ht, rfl⟩ := hrel
        by_cases hlt : t < zs.length
        · obtain ⟨b, o, rfl, _, hcell⟩ := hc3 (by omega) (by omega)
          have h1 := (hcell t (by omega)).trans (cCells_get zs t hlt)
          obtain ⟨l1, l2, l3, l4⟩ := Hall.out t hlt
          clear hcell hc3
          generalize zs[t] = z at *
          obtain ⟨x, y⟩ := z
          dsimp only at h1 l1 l2 l3 l4
          go_wp2_with fail
          go_round
          case rel => exact ⟨t + 1, by omega, by go_num⟩
          case measure => simp [intOf]; omega
        · clear hc3
          go_wp2_with fail
          go_ret
          exact ⟨rfl, hb03⟩

theorem Try.own : ownKnob Try.prog.godebug = none := by kernel_rfl
theorem Try.laidOut : laidOutB Try.prog = true := by kernel_rfl

set_option maxRecDepth 100000 in
theorem fnBox_lifted (os : Os) (started : os.Started) (H : Type) (enc : TypeId × Value → H) :
    ReturnsInHanded {} Try.checked os 8 .any (Rows.fnBoxSpec.pre6 enc Try.prog Try.f8 Rows.fnBoxRow.domain false) (Rows.fnBoxSpec.post enc Try.prog Try.f8 false true false false) := by
  refine returnsInHanded_of_change (C := Try.checked) Try.own started (by kernel_rfl) Try.func8
    (ChangeSpec.witness6 (enc := enc) (C := Try.checked) false ⟨#[], #[.slice none 0 0], []⟩ 8 (by kernel_rfl) (by kernel_rfl) (by kernel_rfl) (by kernel_rfl)) ?_
  intro W base args ds gs before hval0 hW hcnd _
  have hval : ∀ (j : Nat) t v, Try.f8.params[j]? = some t → args[j]? = some v → Value.okWide Try.prog W .any base t v := hval0
  have hW' := hW
  obtain ⟨p, q, hA0, hV, rfl, hfz, hnd⟩ := hW
  have hA : DataW.TrodAll enc Try.prog W 0 (fun _ => true) true Try.f8.params.toList args.toList ds p := hA0
  rw [Try.params8] at hA hval
  obtain ⟨v0, d0, rfl, rfl, h0⟩ := trodAll_one hA
  obtain ⟨rfl, rfl⟩ := trodVars_none hV
  have h0k := h0
  obtain ⟨a0, len, cap, rfl⟩ := okWide_slice Try.underlying22 (hval 0 22 v0 rfl rfl)
  obtain ⟨fuel, hf⟩ := h0
  obtain ⟨A, c, bs, hv, hr⟩ := open_bytes Try.underlying22 Try.underlying5 (by kernel_rfl) hf
  rw [hv] at h0k hval hf ⊢
  clear hA0 hval0
  simp only [List.append_nil] at hW'
  rw [hv] at hW'
  refine (lawBox A c bs W hr).mono fun e W' ⟨he, hb⟩ => ?_
  subst he
  exact ⟨_, rfl, _, _, _, [], _, [], hW', trodAll_mk1 (shut_bool Try.underlying4 _), trodAll_mk1 (Below.trod Try.laidOut (by kernel_rfl) (of_decide_eq_true (by kernel_rfl)) h0k hb (fun x hx => by simpa using hW'.lt x hx)), rfl, hb.frame _, fun h => by cases h⟩

theorem fnBox_holds : Rows.FnBoxSaid :=
  OpenClaim.holds_of_wide 8 Try.f8 rfl rfl rfl rfl rfl rfl rfl ⟨rfl, rfl, rfl, rfl, rfl⟩ rfl rfl rfl rfl rfl (by kernel_rfl) Try.func8 (by kernel_rfl)
    (of_decide_eq_true (by kernel_rfl)) (by unfold Func.isWrapper; first | (rw [if_pos (by decide +kernel)]; kernel_rfl) | (rw [if_neg (by decide +kernel)]; exact ⟨rfl, rfl⟩))
    (fun os started H enc _ => fnBox_lifted os started H enc)

end Go.Proofs.Ytnlmiemnblppbaa
