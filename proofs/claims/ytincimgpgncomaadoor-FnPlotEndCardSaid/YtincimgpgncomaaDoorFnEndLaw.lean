/-
  Ends are reached by moves: the law FnPlotEnd answers true at every code. No condition of ours; the card's own: unicode/utf8.acceptRanges and unicode/utf8.first hold what the program's text lays.
-/
import Derived.Test.YtincimgpgncomaaDoorLq
import Derived.Test.YtincimgpgncomaaDoorDw
import Derived.Test.YtincimgpgncomaaDoorWit
import Derived.Test.YtincimgpgncomaaDoorEn
import Derived.Test.YtincimgpgncomaaDoorMo
import Derived.ChangeMaps5
namespace Go.Proofs.YtincimgpgncomaaDoor
open Go.ChangeShapes Go.WideShapes Go.RowKit
open Go.ChangeMaps (open_string shut_string)

set_option maxRecDepth 100000 in
set_option maxHeartbeats 4000000 in
theorem fnEndLaw (A : Option Addr) (c : Nat) (bs : List Int) (w : World) (hcode : CodeIn w A c bs) :
    Calls Tryd.prog 13 #[.slice A bs.length c] w fun e w' => e = .returned (.bool true) ∧ Below w.heap.size w w' := by
  have Hcode := hide hcode
  have hm := hcode.1.2.1
  clear hcode
  by_cases hbig : 1048576 < bs.length
  · go_enter Tryd.func13, Tryd.ntmps13
    go_wp2
    go_ret
    exact ⟨rfl, Below.refl _ _⟩
  · go_enter Tryd.func13, Tryd.ntmps13
    go_wp2_with fail
    refine (drawEnd_ok A c bs _ Hcode.out).mono ?_
    rintro e w1 ⟨s, rfl, hs, hb1⟩
    clear hm hbig Hcode
    have hi := fun w => endImpl_ok s w
    have hsp := fun w => endSpec_ok s w
    have hmv := fun w => movesImpl_ok s w
    have heq : ∀ (x y : Int) W, (binOp .neq 30 (.agg #[.int .i64 x, .int .i64 y]) (.agg #[.int .i64 x, .int .i64 y])).run Tryd.prog W = .ok (.bool false) W := fun x y W => by go_simp
    have heq2 : ∀ (x y : Int) W, (binOp .eql 30 (.agg #[.int .i64 x, .int .i64 y]) (.agg #[.int .i64 x, .int .i64 y])).run Tryd.prog W = .ok (.bool true) W := fun x y W => by go_simp
    have hq : progB s = none ∨ ∃ o, progB s = some o ∧ (runB o).turn < 4 ∧ (movesRes (some o) = ([], false) ∨ (movesRes (some o) = ((runB o).moves, true) ∧ mvsIn (runB o).moves = true ∧ mvX (runB o).moves (runB o).moves.length = (runB o).x ∧ mvY (runB o).moves (runB o).moves.length = (runB o).y)) := by
      cases hp : progB s with
      | none => exact .inl rfl
      | some o =>
        refine .inr ⟨o, rfl, (runB_ok o).2.2.2.2.1, ?_⟩
        by_cases h1 : 100 < (runB o).moves.length
        · exact .inl (by simp only [movesRes, if_pos h1])
        · refine .inr ⟨by simp only [movesRes, if_neg h1], ?_, run_place o⟩
          rw [mvsIn_yes (mvs_of_run o)]
          exact decide_eq_true (by omega)
    rcases hq with hp | ⟨o, hp, ht, hm⟩
    · rw [hp] at hi hsp
      unfold endV at hi hsp
      dsimp only at hi hsp
      have Hi := hide hi
      have Hs := hide hsp
      clear hi hsp hmv hp
      go_wp2_with fail
      refine (Hi.out _).mono ?_
      rintro e w2 ⟨rfl, hb2⟩
      have n0 : (w2.alloc (.cells #[.int .i64 0, .int .i64 0] 30)).cell? ⟨w2.heap.size, 0, none⟩ = some (.int .i64 0) := by go_simp
      have n1 : (w2.alloc (.cells #[.int .i64 0, .int .i64 0] 30)).cell? ⟨w2.heap.size, 1, none⟩ = some (.int .i64 0) := by go_simp
      have hka := kept_alloc (kept_trans hb1 hb2) (.cells #[.int .i64 0, .int .i64 0] 30)
      clear hb1 hb2
      go_wp2_with fail
      refine (Hs.out _).mono ?_
      rintro e w3 ⟨rfl, hb3⟩
      replace n0 := kept_cell hb3 n0
      replace n1 := kept_cell hb3 n1
      have hne := World.block_lt_of_cell? w3 _ n0
      dsimp only at hne
      have hne' : ¬ w2.heap.size = w3.heap.size := by omega
      have hb03 := kept_trans hka hb3
      clear hka hb3
      replace n0 := kept_cell (kept_new w3 (.cells #[.int .i64 0, .int .i64 0] 30)) n0
      replace n1 := kept_cell (kept_new w3 (.cells #[.int .i64 0, .int .i64 0] 30)) n1
      have u0 : (w3.alloc (.cells #[.int .i64 0, .int .i64 0] 30)).cell? ⟨w3.heap.size, 0, none⟩ = some (.int .i64 0) := by go_simp
      have u1 : (w3.alloc (.cells #[.int .i64 0, .int .i64 0] 30)).cell? ⟨w3.heap.size, 1, none⟩ = some (.int .i64 0) := by go_simp
      have hkb := kept_alloc hb03 (.cells #[.int .i64 0, .int .i64 0] 30)
      clear hb03
      have heq := heq 0 0
      have heq2 := heq2 0 0
      go_wp2_with fail
      go_ret
      exact ⟨rfl, hkb⟩
    · rw [hp] at hi hsp hmv
      unfold endV at hi hsp
      unfold MvPost at hmv
      dsimp only at hi hsp
      have Hmv0 := hide hmv
      clear hmv hp
      rcases hm with hres | ⟨hres, hin, hx, hy⟩
      · have hmv := Hmv0.out
        rw [hres] at hmv
        dsimp only at hmv
        clear hres Hmv0
        generalize (runB o).x = x at *
        generalize (runB o).y = y at *
        generalize (runB o).turn = k at *
        have k3 : (k : Int) ≤ 3 := by omega
        have k0 : (0 : Int) ≤ (k : Int) := by omega
        have Hi := hide hi
        have Hs := hide hsp
        have Hmv := hide hmv
        clear hi hsp hmv
        go_wp2_with fail
        refine (Hi.out _).mono ?_
        rintro e w2 ⟨rfl, hb2⟩
        have n0 : (w2.alloc (.cells #[.int .i64 x, .int .i64 y] 30)).cell? ⟨w2.heap.size, 0, none⟩ = some (.int .i64 x) := by go_simp
        have n1 : (w2.alloc (.cells #[.int .i64 x, .int .i64 y] 30)).cell? ⟨w2.heap.size, 1, none⟩ = some (.int .i64 y) := by go_simp
        have hka := kept_alloc (kept_trans hb1 hb2) (.cells #[.int .i64 x, .int .i64 y] 30)
        clear hb1 hb2
        generalize hwa : w2.alloc (.cells #[.int .i64 x, .int .i64 y] 30) = wa at *
        go_wp2_with fail
        refine (Hs.out _).mono ?_
        rintro e w3 ⟨rfl, hb3⟩
        replace n0 := kept_cell hb3 n0
        replace n1 := kept_cell hb3 n1
        have hne := World.block_lt_of_cell? w3 _ n0
        dsimp only at hne
        have hne' : ¬ w2.heap.size = w3.heap.size := by omega
        have hb03 := kept_trans hka hb3
        clear hka hb3 hwa
        replace n0 := kept_cell (kept_new w3 (.cells #[.int .i64 x, .int .i64 y] 30)) n0
        replace n1 := kept_cell (kept_new w3 (.cells #[.int .i64 x, .int .i64 y] 30)) n1
        have u0 : (w3.alloc (.cells #[.int .i64 x, .int .i64 y] 30)).cell? ⟨w3.heap.size, 0, none⟩ = some (.int .i64 x) := by go_simp
        have u1 : (w3.alloc (.cells #[.int .i64 x, .int .i64 y] 30)).cell? ⟨w3.heap.size, 1, none⟩ = some (.int .i64 y) := by go_simp
        have hkb := kept_alloc hb03 (.cells #[.int .i64 x, .int .i64 y] 30)
        clear hb03
        generalize hwb : w3.alloc (.cells #[.int .i64 x, .int .i64 y] 30) = wb at *
        have heq := heq x y
        have heq2 := heq2 x y
        go_wp2_with fail
        refine (Hmv.out _).mono ?_
        rintro e w4 ⟨v4, rfl, ho4, hb4⟩
        clear ho4
        go_wp2_with fail
        go_quiet (fail)
        go_wp2_with fail
        go_ret
        exact ⟨by simp, kept_trans (kept_trans hkb hb4) (kept_drewN _ _)⟩
      · have hmv := Hmv0.out
        rw [hres] at hmv
        dsimp only at hmv
        have hre := fun v w hr => reached_ok v (runB o).moves w hr hin
        rw [hx, hy] at hre
        clear hres Hmv0 hin hx hy
        generalize (runB o).x = x at *
        generalize (runB o).y = y at *
        generalize (runB o).turn = k at *
        generalize (runB o).moves = ms at *
        have k3 : (k : Int) ≤ 3 := by omega
        have k0 : (0 : Int) ≤ (k : Int) := by omega
        have Hi := hide hi
        have Hs := hide hsp
        have Hmv := hide hmv
        have Hre := hide hre
        clear hi hsp hmv hre
        go_wp2_with fail
        refine (Hi.out _).mono ?_
        rintro e w2 ⟨rfl, hb2⟩
        have n0 : (w2.alloc (.cells #[.int .i64 x, .int .i64 y] 30)).cell? ⟨w2.heap.size, 0, none⟩ = some (.int .i64 x) := by go_simp
        have n1 : (w2.alloc (.cells #[.int .i64 x, .int .i64 y] 30)).cell? ⟨w2.heap.size, 1, none⟩ = some (.int .i64 y) := by go_simp
        have hka := kept_alloc (kept_trans hb1 hb2) (.cells #[.int .i64 x, .int .i64 y] 30)
        clear hb1 hb2
        generalize hwa : w2.alloc (.cells #[.int .i64 x, .int .i64 y] 30) = wa at *
        go_wp2_with fail
        refine (Hs.out _).mono ?_
        rintro e w3 ⟨rfl, hb3⟩
        replace n0 := kept_cell hb3 n0
        replace n1 := kept_cell hb3 n1
        have hne := World.block_lt_of_cell? w3 _ n0
        dsimp only at hne
        have hne' : ¬ w2.heap.size = w3.heap.size := by omega
        have hb03 := kept_trans hka hb3
        clear hka hb3 hwa
        replace n0 := kept_cell (kept_new w3 (.cells #[.int .i64 x, .int .i64 y] 30)) n0
        replace n1 := kept_cell (kept_new w3 (.cells #[.int .i64 x, .int .i64 y] 30)) n1
        have u0 : (w3.alloc (.cells #[.int .i64 x, .int .i64 y] 30)).cell? ⟨w3.heap.size, 0, none⟩ = some (.int .i64 x) := by go_simp
        have u1 : (w3.alloc (.cells #[.int .i64 x, .int .i64 y] 30)).cell? ⟨w3.heap.size, 1, none⟩ = some (.int .i64 y) := by go_simp
        have hkb := kept_alloc hb03 (.cells #[.int .i64 x, .int .i64 y] 30)
        clear hb03
        generalize hwb : w3.alloc (.cells #[.int .i64 x, .int .i64 y] 30) = wb at *
        have heq := heq x y
        have heq2 := heq2 x y
        go_wp2_with fail
        refine (Hmv.out _).mono ?_
        rintro e w4 ⟨v4, rfl, ho4, hb4⟩
        replace n0 := kept_cell hb4 n0
        replace n1 := kept_cell hb4 n1
        have hb04 := kept_trans hkb hb4
        clear hkb hb4 hwb u0 u1 hne hne'
        go_wp2_with fail
        have ho4r := has_reads ho4
        go_region_held3 (fun w' => w'.cell? ⟨w2.heap.size, 0, none⟩ = some (.int .i64 x) ∧ w'.cell? ⟨w2.heap.size, 1, none⟩ = some (.int .i64 y))
          (first | go_keep | (go_split_ands; exact ⟨kept_cell hb5 ‹_›, kept_cell hb5 ‹_›⟩))
          (first
            | (go_at_call_of 36 v4; refine (Hre.out v4 _ (reads_kept ho4r (kept_drew _))).mono ?_; rintro e w5 ⟨rfl, hb5⟩))
        go_wp2_with fail
        go_ret
        exact ⟨by simp, kept_trans (kept_trans hb04 (kept_drew _)) hb5⟩

set_option maxRecDepth 100000 in
theorem fnEnd_lifted (os : Os) (started : os.Started) (H : Type) (enc : TypeId × Value → H) :
    ReturnsInHanded {} Tryd.checked os 13 .any (fun w args => (Rows.fnPlotEndSpec.pre enc Tryd.prog Tryd.f13 [] false w args ∧ laidMetH Tryd.prog theLaid w) ∧ sizedMet enc Tryd.prog Tryd.f13 (OpenSpec.ofChange Rows.fnPlotEndSpec) false w args)
      (Rows.fnPlotEndSpec.post enc Tryd.prog Tryd.f13 false true false false) := by
  refine returnsInHanded_of_change_and (C := Tryd.checked) (X := fun w _ => laidMetH Tryd.prog theLaid w) (fun _ _ _ hh h => h.of_heap hh) Tryd.own started (by kernel_rfl) Tryd.func13
    (ChangeSpec.witness_shaped (enc := enc) (C := Tryd.checked) (os := os) (X := fun w _ => laidMetH Tryd.prog theLaid w) false (World.laidAll Tryd.prog os theLaid) #[.slice none 0 0] 8 (World.laidAll_os _ _ _) (laidAll_shaped os) (by kernel_rfl) (by kernel_rfl) (by kernel_rfl) (laidAll_met os _)) ?_
  intro W base args ds gs before hval0 hW _ _ hL _
  have hval : ∀ (j : Nat) t v, Tryd.f13.params[j]? = some t → args[j]? = some v → Value.okWide Tryd.prog W .any base t v := hval0
  have hW' := hW
  obtain ⟨p, q, hA0, hV0, rfl, hfz, hnd⟩ := hW
  have hA : DataW.TrodAll enc Tryd.prog W 0 (fun _ => true) true Tryd.f13.params.toList args.toList ds p := hA0
  have hV : DataW.TrodVars enc Tryd.prog W (fun _ => true) [] gs q := hV0
  rw [Tryd.params13] at hA hval
  obtain ⟨rfl, rfl⟩ : gs = [] ∧ q = [] := by
    cases gs with
    | nil => exact ⟨rfl, hV⟩
    | cons g r => exact absurd hV (by intro h; cases h)
  obtain ⟨v0, d0, rfl, rfl, h0⟩ := trodAll_one hA
  have h0k := h0
  obtain ⟨a0, len, cap, rfl⟩ := okWide_slice Tryd.underlying26 (hval 0 26 v0 rfl rfl)
  obtain ⟨fuel, hf⟩ := h0
  obtain ⟨A, c, bs, hv, hr⟩ := open_bytes Tryd.underlying26 Tryd.underlying5 (by kernel_rfl) hf
  rw [hv] at h0k hval hf ⊢
  clear hA0 hval0
  simp only [List.append_nil] at hW'
  rw [hv] at hW'
  refine (fnEndLaw A c bs W hr).mono fun e W' ⟨he, hb⟩ => ?_
  subst he
  exact ⟨_, rfl, _, _, _, [], _, [], hW', trodAll_mk1 (shut_bool Tryd.underlying4 _), trodAll_mk1 (Below.trod Tryd.laidOut (by kernel_rfl) (of_decide_eq_true (by kernel_rfl)) h0k hb (fun x hx => by simpa using hW'.lt x hx)), rfl, hb.frame _, fun h => by cases h⟩

theorem fnEnd_row : Rows.FnPlotEndSaid :=
  OpenClaim.holds_of_wide 13 Tryd.f13 rfl rfl rfl rfl rfl rfl rfl ⟨rfl, rfl, rfl, rfl, rfl⟩ rfl rfl rfl rfl rfl (by kernel_rfl) Tryd.func13 (by kernel_rfl)
    (of_decide_eq_true (by kernel_rfl)) (by unfold Func.isWrapper; first | (rw [if_pos (by decide +kernel)]; kernel_rfl) | (rw [if_neg (by decide +kernel)]; exact ⟨rfl, rfl⟩))
    (fun os started H enc _ => fnEnd_lifted os started H enc)

theorem fnEnd_holds : Rows.FnPlotEndCardSaid :=
  Claim7.holds_tied_plain_at .later [] [.data, .pinned] true (true, "2711de16ae8a941eab259656f75031f98e41807913f0020eaf4cca2541e08e90") true
    fnEnd_row (fun _ h => by cases h) (by kernel_rfl) (fun _ h => by cases h) fnPlotEnd_row_tie rfl ⟨rfl, rfl⟩ (by kernel_rfl) rfl
    (fun f fn hf hfn => by
      obtain rfl : f = 13 := Option.some.inj ((show Tryd.prog.funcNamed Rows.fnPlotEndRow.func = some 13 by kernel_rfl).symm.trans hf) |>.symm
      obtain rfl : fn = Tryd.f13 := (Option.some.inj (Tryd.func13.symm.trans hfn)).symm
      exact ⟨by kernel_rfl, fun j t ht => by
        rw [Tryd.params13] at ht
        have hts : t ∈ [26] := by
          rw [Array.getElem?_eq_some_iff] at ht
          obtain ⟨hj, ht⟩ := ht
          rw [← ht]
          exact Array.getElem_mem_toList hj
        simp only [List.mem_cons, List.not_mem_nil, or_false] at hts
        subst hts
        · exact (show Tryd.prog.wantsStandIn 26 = false by kernel_rfl)⟩)
    (by kernel_rfl)

end Go.Proofs.YtincimgpgncomaaDoor
