/-
  Flat programs do the same: the law FnFlat answers true at every code. No condition of ours; the card's own: unicode/utf8.acceptRanges and unicode/utf8.first hold what the program's text lays.
-/
import Derived.Test.YtincimgpgncomaaDoorLq
import Derived.Test.YtincimgpgncomaaDoorDw
import Derived.Test.YtincimgpgncomaaDoorWit
import Derived.Test.YtincimgpgncomaaDoorEn
import Derived.ChangeMaps5
namespace Go.Proofs.YtincimgpgncomaaDoor
open Go.ChangeShapes Go.WideShapes Go.RowKit
open Go.ChangeMaps (open_string shut_string)

set_option maxRecDepth 100000 in
set_option maxHeartbeats 4000000 in
theorem fnFlatLaw (A : Option Addr) (c : Nat) (bs : List Int) (w : World) (hcode : CodeIn w A c bs) :
    Calls Tryd.prog 11 #[.slice A bs.length c] w fun e w' => e = .returned (.bool true) ∧ Below w.heap.size w w' := by
  have Hcode := hide hcode
  have hm := hcode.1.2.1
  clear hcode
  by_cases hbig : 1048576 < bs.length
  · go_enter Tryd.func11, Tryd.ntmps11
    go_wp2
    go_ret
    exact ⟨rfl, Below.refl _ _⟩
  · go_enter Tryd.func11, Tryd.ntmps11
    go_wp2_with fail
    refine (drawFlat_ok A c bs _ Hcode.out).mono ?_
    rintro e w1 ⟨s, rfl, hs, hb1⟩
    clear hm hbig Hcode
    have hi := fun w => flatImpl_ok s w
    have hsp := fun w => flatSpec_ok s w
    have hq : (∃ a : ByteArray, flatV (progB s) = .tuple #[.string a, .bool false]) ∨ ∃ o, progB s = some o ∧ flatV (progB s) = .tuple #[.string ⟨(joinB o).toArray⟩, .bool true] ∧ progB ⟨(joinB o).toArray⟩ = some o ∧ flatV (some o) = .tuple #[.string ⟨(joinB o).toArray⟩, .bool true] ∧ (joinB o).length ≤ 400 := by
      cases hp : progB s with
      | none => exact .inl ⟨_, rfl⟩
      | some o =>
        by_cases h4 : 400 < (joinB o).length
        · exact .inl ⟨⟨#[]⟩, by simp only [flatV, if_pos h4]⟩
        · have h4' : (joinB o).length ≤ 400 := by omega
          have hf : flatV (some o) = .tuple #[.string ⟨(joinB o).toArray⟩, .bool true] := by simp only [flatV, if_neg h4]
          exact .inr ⟨o, rfl, hf, prog_flat (progB_steps hp) (progB_len hp) (progB_ne hp) h4', hf, h4'⟩
    rcases hq with ⟨a, ha⟩ | ⟨o, hp, ha, hpo, hfo, h4⟩
    · rw [ha] at hi hsp
      have Hi := hide hi
      have Hs := hide hsp
      clear hi hsp ha
      go_wp2_with fail
      refine (Hi.out _).mono ?_
      rintro e w2 ⟨rfl, hb2⟩
      go_wp2_with fail
      refine (Hs.out _).mono ?_
      rintro e w3 ⟨rfl, hb3⟩
      go_wp2_with fail
      go_ret
      exact ⟨rfl, kept_trans (kept_trans hb1 hb2) hb3⟩
    · have he := fun w => endImpl_ok s w
      have hoe := fun w => endImpl_ok ⟨(joinB o).toArray⟩ w
      have hof := fun w => flatImpl_ok ⟨(joinB o).toArray⟩ w
      have hn := fun w => stepsImpl_ok s w
      have hon := fun w => stepsImpl_ok ⟨(joinB o).toArray⟩ w
      rw [ha] at hi hsp
      rw [hp] at he
      rw [hpo] at hoe hof
      rw [hfo] at hof
      unfold stepsB at hn hon
      rw [hp] at hn
      rw [hpo] at hon
      unfold endV at he hoe
      dsimp only at he hoe hn hon
      clear ha hp hpo hfo
      generalize (runB o).x = x at *
      generalize (runB o).y = y at *
      generalize (runB o).turn = k at *
      generalize o.length = n at *
      generalize (⟨(joinB o).toArray⟩ : ByteArray) = t at *
      have Hi := hide hi
      have Hs := hide hsp
      have He := hide he
      have Hoe := hide hoe
      have Hof := hide hof
      have Hn := hide hn
      have Hon := hide hon
      clear hi hsp he hoe hof hn hon
      go_wp2_with fail
      refine (Hi.out _).mono ?_
      rintro e w2 ⟨rfl, hb2⟩
      go_wp2_with fail
      refine (Hs.out _).mono ?_
      rintro e w3 ⟨rfl, hb3⟩
      have hb04 := kept_trans (kept_trans hb1 hb2) hb3
      clear hb1 hb2 hb3
      go_wp2_with fail
      refine (He.out _).mono ?_
      rintro e w5 ⟨rfl, hb5⟩
      have hb05 := kept_trans hb04 hb5
      have n0 : (w5.alloc (.cells #[.int .i64 x, .int .i64 y] 30)).cell? ⟨w5.heap.size, 0, none⟩ = some (.int .i64 x) := by go_simp
      have n1 : (w5.alloc (.cells #[.int .i64 x, .int .i64 y] 30)).cell? ⟨w5.heap.size, 1, none⟩ = some (.int .i64 y) := by go_simp
      have hka := kept_alloc hb05 (.cells #[.int .i64 x, .int .i64 y] 30)
      clear hb5 hb05 hb04
      generalize hwa : w5.alloc (.cells #[.int .i64 x, .int .i64 y] 30) = wa at *
      go_wp2_with fail
      refine (Hoe.out _).mono ?_
      rintro e w6 ⟨rfl, hb6⟩
      replace n0 := kept_cell hb6 n0
      replace n1 := kept_cell hb6 n1
      have hne := World.block_lt_of_cell? w6 _ n0
      dsimp only at hne
      have hne' : ¬ w5.heap.size = w6.heap.size := by omega
      have hb06 := kept_trans hka hb6
      clear hka hb6 hwa
      replace n0 := kept_cell (kept_new w6 (.cells #[.int .i64 x, .int .i64 y] 30)) n0
      replace n1 := kept_cell (kept_new w6 (.cells #[.int .i64 x, .int .i64 y] 30)) n1
      have u0 : (w6.alloc (.cells #[.int .i64 x, .int .i64 y] 30)).cell? ⟨w6.heap.size, 0, none⟩ = some (.int .i64 x) := by go_simp
      have u1 : (w6.alloc (.cells #[.int .i64 x, .int .i64 y] 30)).cell? ⟨w6.heap.size, 1, none⟩ = some (.int .i64 y) := by go_simp
      have hkb := kept_alloc hb06 (.cells #[.int .i64 x, .int .i64 y] 30)
      clear hb06
      generalize hwb : w6.alloc (.cells #[.int .i64 x, .int .i64 y] 30) = wb at *
      have heq : ∀ W, (binOp .eql 30 (.agg #[.int .i64 x, .int .i64 y]) (.agg #[.int .i64 x, .int .i64 y])).run Tryd.prog W = .ok (.bool true) W := fun W => by go_simp
      go_wp2_with fail
      refine (Hof.out _).mono ?_
      rintro e w7 ⟨rfl, hb7⟩
      replace n0 := kept_cell hb7 n0
      replace n1 := kept_cell hb7 n1
      replace u0 := kept_cell hb7 u0
      replace u1 := kept_cell hb7 u1
      have hb07 := kept_trans hkb hb7
      clear hkb hb7 hwb hne hne'
      go_wp2_with fail
      refine (Hon.out _).mono ?_
      rintro e w8 ⟨rfl, hb8⟩
      go_wp2_with fail
      refine (Hn.out _).mono ?_
      rintro e w9 ⟨rfl, hb9⟩
      go_wp2_with fail
      go_ret
      exact ⟨rfl, kept_trans (kept_trans hb07 hb8) hb9⟩

set_option maxRecDepth 100000 in
theorem fnFlat_lifted (os : Os) (started : os.Started) (H : Type) (enc : TypeId × Value → H) :
    ReturnsInHanded {} Tryd.checked os 11 .any (fun w args => (Rows.fnFlatSpec.pre enc Tryd.prog Tryd.f11 [] false w args ∧ laidMetH Tryd.prog theLaid w) ∧ sizedMet enc Tryd.prog Tryd.f11 (OpenSpec.ofChange Rows.fnFlatSpec) false w args)
      (Rows.fnFlatSpec.post enc Tryd.prog Tryd.f11 false true false false) := by
  refine returnsInHanded_of_change_and (C := Tryd.checked) (X := fun w _ => laidMetH Tryd.prog theLaid w) (fun _ _ _ hh h => h.of_heap hh) Tryd.own started (by kernel_rfl) Tryd.func11
    (ChangeSpec.witness_shaped (enc := enc) (C := Tryd.checked) (os := os) (X := fun w _ => laidMetH Tryd.prog theLaid w) false (World.laidAll Tryd.prog os theLaid) #[.slice none 0 0] 8 (World.laidAll_os _ _ _) (laidAll_shaped os) (by kernel_rfl) (by kernel_rfl) (by kernel_rfl) (laidAll_met os _)) ?_
  intro W base args ds gs before hval0 hW _ _ hL _
  have hval : ∀ (j : Nat) t v, Tryd.f11.params[j]? = some t → args[j]? = some v → Value.okWide Tryd.prog W .any base t v := hval0
  have hW' := hW
  obtain ⟨p, q, hA0, hV0, rfl, hfz, hnd⟩ := hW
  have hA : DataW.TrodAll enc Tryd.prog W 0 (fun _ => true) true Tryd.f11.params.toList args.toList ds p := hA0
  have hV : DataW.TrodVars enc Tryd.prog W (fun _ => true) [] gs q := hV0
  rw [Tryd.params11] at hA hval
  obtain ⟨rfl, rfl⟩ : gs = [] ∧ q = [] := by
    cases gs with
    | nil => exact ⟨rfl, hV⟩
    | cons g r => exact absurd hV (by intro h; cases h)
  obtain ⟨v0, d0, rfl, rfl, h0⟩ := trodAll_one hA
  have h0k := h0
  obtain ⟨a0, len, cap, rfl⟩ := okWide_slice Tryd.underlying26 (hval 0 26 v0 rfl rfl)
  obtain ⟨fuel, hf⟩ := h0
  obtain ⟨A, c, bs, hv, hr⟩ := open_bytes Tryd.underlying26 Tryd.underlying5 (by kernel_rfl) hf
  rw [hv] at h0k hval hf ⊢
  clear hA0 hval0
  simp only [List.append_nil] at hW'
  rw [hv] at hW'
  refine (fnFlatLaw A c bs W hr).mono fun e W' ⟨he, hb⟩ => ?_
  subst he
  exact ⟨_, rfl, _, _, _, [], _, [], hW', trodAll_mk1 (shut_bool Tryd.underlying4 _), trodAll_mk1 (Below.trod Tryd.laidOut (by kernel_rfl) (of_decide_eq_true (by kernel_rfl)) h0k hb (fun x hx => by simpa using hW'.lt x hx)), rfl, hb.frame _, fun h => by cases h⟩

theorem fnFlat_row : Rows.FnFlatSaid :=
  OpenClaim.holds_of_wide 11 Tryd.f11 rfl rfl rfl rfl rfl rfl rfl ⟨rfl, rfl, rfl, rfl, rfl⟩ rfl rfl rfl rfl rfl (by kernel_rfl) Tryd.func11 (by kernel_rfl)
    (of_decide_eq_true (by kernel_rfl)) (by unfold Func.isWrapper; first | (rw [if_pos (by decide +kernel)]; kernel_rfl) | (rw [if_neg (by decide +kernel)]; exact ⟨rfl, rfl⟩))
    (fun os started H enc _ => fnFlat_lifted os started H enc)

theorem fnFlat_holds : Rows.FnFlatCardSaid :=
  Claim7.holds_tied_plain_at .later [] [.data, .pinned] true (true, "2711de16ae8a941eab259656f75031f98e41807913f0020eaf4cca2541e08e90") true
    fnFlat_row (fun _ h => by cases h) (by kernel_rfl) (fun _ h => by cases h) fnFlat_row_tie rfl ⟨rfl, rfl⟩ (by kernel_rfl) rfl
    (fun f fn hf hfn => by
      obtain rfl : f = 11 := Option.some.inj ((show Tryd.prog.funcNamed Rows.fnFlatRow.func = some 11 by kernel_rfl).symm.trans hf) |>.symm
      obtain rfl : fn = Tryd.f11 := (Option.some.inj (Tryd.func11.symm.trans hfn)).symm
      exact ⟨by kernel_rfl, fun j t ht => by
        rw [Tryd.params11] at ht
        have hts : t ∈ [26] := by
          rw [Array.getElem?_eq_some_iff] at ht
          obtain ⟨hj, ht⟩ := ht
          rw [← ht]
          exact Array.getElem_mem_toList hj
        simp only [List.mem_cons, List.not_mem_nil, or_false] at hts
        subst hts
        · exact (show Tryd.prog.wantsStandIn 26 = false by kernel_rfl)⟩)
    (by kernel_rfl)

end Go.Proofs.YtincimgpgncomaaDoor
