/-
  Different edges are at most all: the law FnEdges answers true at every code. No condition of ours; the card's own: unicode/utf8.acceptRanges and unicode/utf8.first hold what the program's text lays.
-/
import Derived.Test.YtincimgpgncomaaDoorEi
import Derived.Test.YtincimgpgncomaaDoorEp
import Derived.Test.YtincimgpgncomaaDoorDw
import Derived.Test.YtincimgpgncomaaDoorWit
import Derived.ChangeMaps5
namespace Go.Proofs.YtincimgpgncomaaDoor
open Go.ChangeShapes Go.WideShapes Go.RowKit
open Go.ChangeMaps (open_string shut_string)

set_option maxRecDepth 100000 in
set_option maxHeartbeats 4000000 in
theorem fnEdgesLaw (A : Option Addr) (c : Nat) (bs : List Int) (w : World) (hcode : CodeIn w A c bs) :
    Calls Tryd.prog 12 #[.slice A bs.length c] w fun e w' => e = .returned (.bool true) ∧ Below w.heap.size w w' := by
  have Hcode := hide hcode
  have hm := hcode.1.2.1
  clear hcode
  by_cases hbig : 1048576 < bs.length
  · go_enter Tryd.func12, Tryd.ntmps12
    go_wp2
    go_ret
    exact ⟨rfl, Below.refl _ _⟩
  · go_enter Tryd.func12, Tryd.ntmps12
    go_wp2_with fail
    refine (drawEdges_ok A c bs _ Hcode.out).mono ?_
    rintro e w1 ⟨s, rfl, hs, hb1⟩
    clear hm hbig Hcode
    have hi := fun w => edgesImpl_ok s w
    have hsp := fun w => edgesSpec_ok s w
    have hl := fun w => edgesImpl_ok (twiceT s) w
    have hq : edgesV (progB s) = .tuple #[.int .i64 0, .int .i64 0, .bool false] ∨ ∃ a b : Nat, edgesV (progB s) = .tuple #[.int .i64 a, .int .i64 b, .bool true] ∧ b ≤ a ∧ a ≤ 500 ∧
        (edgesV (progB (twiceT s)) = .tuple #[.int .i64 0, .int .i64 0, .bool false] ∨ ∃ k : Nat, edgesV (progB (twiceT s)) = .tuple #[.int .i64 (2 * (a : Int)), .int .i64 k, .bool true] ∧ b ≤ k) := by
      cases hp : progB s with
      | none => exact .inl rfl
      | some o =>
        refine .inr ⟨_, _, rfl, diff_le _, Nat.le_trans (runB_ok o).2.2.2.2.2.2 (progB_len hp), ?_⟩
        rcases prog_twice hp with h | h
        · rw [h]; exact .inl rfl
        · rw [h]
          refine .inr ⟨(diffE (runB ((117 :: o) ++ (117 :: o))).edges).length, ?_, twice_diff o⟩
          unfold edgesV
          dsimp only
          rw [twice_len]
          simp
    generalize edgesV (progB s) = u at *
    generalize edgesV (progB (twiceT s)) = v at *
    unfold twiceT at hl
    have Hi := hide hi
    have Hs := hide hsp
    have Hl := hide hl
    clear hi hsp hl
    have s1 : ¬ 9223372036854775807 < 5 + s.size := by omega
    have s2 : ¬ 9223372036854775807 < 5 + s.size + 2 := by omega
    rcases hq with rfl | ⟨a, b, rfl, h1, h2, h3⟩
    · go_wp2_with fail
      refine (Hi.out _).mono ?_
      rintro e w2 ⟨rfl, hb2⟩
      go_wp2_with fail
      refine (Hs.out _).mono ?_
      rintro e w3 ⟨rfl, hb3⟩
      go_wp2_with fail
      go_ret
      exact ⟨rfl, kept_trans (kept_trans hb1 hb2) hb3⟩
    · have b0 : (0 : Int) ≤ (b : Int) := by omega
      have b0' : ((b : Int) ≥ 0) = True := by simp
      have ba : (b : Int) ≤ (a : Int) := by omega
      have a1 : (a : Int) ≤ 500 := by omega
      have a0 : (0 : Int) ≤ (a : Int) := by omega
      rcases h3 with rfl | ⟨k, rfl, h3⟩
      all_goals
        go_wp2_with fail
        refine (Hi.out _).mono ?_
        rintro e w2 ⟨rfl, hb2⟩
        go_wp2_with fail
        refine (Hs.out _).mono ?_
        rintro e w3 ⟨rfl, hb3⟩
        have hb03 := kept_trans (kept_trans hb1 hb2) hb3
        clear hb1 hb2 hb3
        go_wp2_with fail
        refine (Hl.out _).mono ?_
        rintro e w4 ⟨rfl, hb4⟩
        try have bk : (b : Int) ≤ (k : Int) := by omega
        go_wp2_with fail
        go_ret
        exact ⟨rfl, kept_trans hb03 hb4⟩

set_option maxRecDepth 100000 in
theorem fnEdges_lifted (os : Os) (started : os.Started) (H : Type) (enc : TypeId × Value → H) :
    ReturnsInHanded {} Tryd.checked os 12 .any (fun w args => (Rows.fnEdgesSpec.pre enc Tryd.prog Tryd.f12 [] false w args ∧ laidMetH Tryd.prog theLaid w) ∧ sizedMet enc Tryd.prog Tryd.f12 (OpenSpec.ofChange Rows.fnEdgesSpec) false w args)
      (Rows.fnEdgesSpec.post enc Tryd.prog Tryd.f12 false true false false) := by
  refine returnsInHanded_of_change_and (C := Tryd.checked) (X := fun w _ => laidMetH Tryd.prog theLaid w) (fun _ _ _ hh h => h.of_heap hh) Tryd.own started (by kernel_rfl) Tryd.func12
    (ChangeSpec.witness_shaped (enc := enc) (C := Tryd.checked) (os := os) (X := fun w _ => laidMetH Tryd.prog theLaid w) false (World.laidAll Tryd.prog os theLaid) #[.slice none 0 0] 8 (World.laidAll_os _ _ _) (laidAll_shaped os) (by kernel_rfl) (by kernel_rfl) (by kernel_rfl) (laidAll_met os _)) ?_
  intro W base args ds gs before hval0 hW _ _ hL _
  have hval : ∀ (j : Nat) t v, Tryd.f12.params[j]? = some t → args[j]? = some v → Value.okWide Tryd.prog W .any base t v := hval0
  have hW' := hW
  obtain ⟨p, q, hA0, hV0, rfl, hfz, hnd⟩ := hW
  have hA : DataW.TrodAll enc Tryd.prog W 0 (fun _ => true) true Tryd.f12.params.toList args.toList ds p := hA0
  have hV : DataW.TrodVars enc Tryd.prog W (fun _ => true) [] gs q := hV0
  rw [Tryd.params12] at hA hval
  obtain ⟨rfl, rfl⟩ : gs = [] ∧ q = [] := by
    cases gs with
    | nil => exact ⟨rfl, hV⟩
    | cons g r => exact absurd hV (by intro h; cases h)
  obtain ⟨v0, d0, rfl, rfl, h0⟩ := trodAll_one hA
  have h0k := h0
  obtain ⟨a0, len, cap, rfl⟩ := okWide_slice Tryd.underlying26 (hval 0 26 v0 rfl rfl)
  obtain ⟨fuel, hf⟩ := h0
  obtain ⟨A, c, bs, hv, hr⟩ := open_bytes Tryd.underlying26 Tryd.underlying5 (by kernel_rfl) hf
  rw [hv] at h0k hval hf ⊢
  clear hA0 hval0
  simp only [List.append_nil] at hW'
  rw [hv] at hW'
  refine (fnEdgesLaw A c bs W hr).mono fun e W' ⟨he, hb⟩ => ?_
  subst he
  exact ⟨_, rfl, _, _, _, [], _, [], hW', trodAll_mk1 (shut_bool Tryd.underlying4 _), trodAll_mk1 (Below.trod Tryd.laidOut (by kernel_rfl) (of_decide_eq_true (by kernel_rfl)) h0k hb (fun x hx => by simpa using hW'.lt x hx)), rfl, hb.frame _, fun h => by cases h⟩

theorem fnEdges_row : Rows.FnEdgesSaid :=
  OpenClaim.holds_of_wide 12 Tryd.f12 rfl rfl rfl rfl rfl rfl rfl ⟨rfl, rfl, rfl, rfl, rfl⟩ rfl rfl rfl rfl rfl (by kernel_rfl) Tryd.func12 (by kernel_rfl)
    (of_decide_eq_true (by kernel_rfl)) (by unfold Func.isWrapper; first | (rw [if_pos (by decide +kernel)]; kernel_rfl) | (rw [if_neg (by decide +kernel)]; exact ⟨rfl, rfl⟩))
    (fun os started H enc _ => fnEdges_lifted os started H enc)

theorem fnEdges_holds : Rows.FnEdgesCardSaid :=
  Claim7.holds_tied_plain_at .later [] [.data, .pinned] true (true, "2711de16ae8a941eab259656f75031f98e41807913f0020eaf4cca2541e08e90") true
    fnEdges_row (fun _ h => by cases h) (by kernel_rfl) (fun _ h => by cases h) fnEdges_row_tie rfl ⟨rfl, rfl⟩ (by kernel_rfl) rfl
    (fun f fn hf hfn => by
      obtain rfl : f = 12 := Option.some.inj ((show Tryd.prog.funcNamed Rows.fnEdgesRow.func = some 12 by kernel_rfl).symm.trans hf) |>.symm
      obtain rfl : fn = Tryd.f12 := (Option.some.inj (Tryd.func12.symm.trans hfn)).symm
      exact ⟨by kernel_rfl, fun j t ht => by
        rw [Tryd.params12] at ht
        have hts : t ∈ [26] := by
          rw [Array.getElem?_eq_some_iff] at ht
          obtain ⟨hj, ht⟩ := ht
          rw [← ht]
          exact Array.getElem_mem_toList hj
        simp only [List.mem_cons, List.not_mem_nil, or_false] at hts
        subst hts
        · exact (show Tryd.prog.wantsStandIn 26 = false by kernel_rfl)⟩)
    (by kernel_rfl)

end Go.Proofs.YtincimgpgncomaaDoor
