/-
  Paths of moves have these moves: the law FnMovesPath answers true at every code. No condition.
-/
import Derived.Test.YtnlmiemnblppbaaMw
import Derived.Test.YtnlmiemnblppbaaAl
import Derived.Test.YtnlmiemnblppbaaDrMv
import Derived.Test.YtnlmiemnblppbaaOpenB
namespace Go.Proofs.Ytnlmiemnblppbaa
open Go.ChangeShapes Go.WideShapes Go.ChangeAt Go.RowKit

/-- What is drawn: moves, small unless they are no moves, and a number. -/
def DrMP (w : World) (e : Ending) (w' : World) : Prop :=
  ∃ v ms g, e = .returned (.tuple #[v, .int .i64 g]) ∧ w'.ownsRow w.heap.size 31 2 v ms.length (mvCells ms) ∧ ms.length ≤ 20 ∧ ((∀ m ∈ ms, smallM m) ∨ mvsIn ms = false) ∧ (-10 ≤ g ∧ g ≤ 8) ∧ Below w.heap.size w w'

set_option maxHeartbeats 1000000 in
theorem drawMP_ok (A : Option Addr) (c : Nat) (bs : List Int) (w : World) (hc : CodeIn w A c bs) : Calls Try.prog 10 #[.slice A bs.length c] w (DrMP w) := by
  have H := hide hc
  clear hc
  go_enter Try.func10, Try.ntmps10
  go_wp2_with fail
  refine (l6Open_ok A c bs _ H.out.1 H.out.2.1 H.out.2.2.1 H.out.2.2.2).mono ?_
  rintro e w1 ⟨R, rfl, hR, hR1, hb1⟩
  go_wp2_with fail
  refine (l92MovesS_ok R 0 _ hR1 (by decide)).mono ?_
  rintro e w2 ⟨v, ms, rfl, ho, hl, hR2, hg2, hsm⟩
  have Hsm := hide hsm
  clear hsm
  have hap := rd_apart hR1 ho
  have hRlt := rd_lt hR1
  go_wp2_with fail
  refine (pick_ok R _ 9 _ hR2 (by decide) (by decide)).mono ?_
  rintro e w3 ⟨a, rfl, ha, hR3, hg3⟩
  have ha9 : a < 9 := by omega
  have ho3 := ho.kept hg3 hap
  go_wp2_with fail
  refine (pick_ok R _ 20 _ hR3 (by decide) (by decide)).mono ?_
  rintro e w4 ⟨b, rfl, hb, hR4, hg4⟩
  have hb20 : b < 20 := by omega
  have ho4 := ho3.kept hg4 hap
  have hb04 := kept_of_new hb1 (grown_trans' (grown_trans' hg2 hg3) hg4) hR
  have ho5 := owns_base ho4 hb1.size
  obtain ⟨q, hq, hq2⟩ : ∃ q : Nat, ((b : Int)).tdiv 19 = q ∧ q ≤ 1 := ⟨b / 19, by rw [Int.tdiv_eq_ediv_of_nonneg (by omega)]; omega, by omega⟩
  clear ha hb ho ho3 ho4 hg2 hg3 hg4 hR1 hR2 hR3 hR4 hb1 hap
  go_wp2_with fail
  go_ret2
  exact ⟨v, ms, _, rfl, ho5, hl, Hsm.out, ⟨by omega, by omega⟩, hb04⟩

theorem small_unit (x : Int) (G : Nat) (h1 : -80 ≤ x) (h2 : x ≤ 80) (hG : G ≤ 8) : UnitOk (qW x G) G x := by
  have : ∀ (k : Fin 161) (G : Fin 9), UnitOk (qW ((k.1 : Int) - 80) G.1) G.1 ((k.1 : Int) - 80) := by decide +kernel
  have h := this ⟨(x + 80).toNat, by omega⟩ ⟨G, by omega⟩
  rw [show (((⟨(x + 80).toNat, by omega⟩ : Fin 161).1 : Nat) : Int) - 80 = x from by simp; omega] at h
  exact h

theorem small_bd (ms : List (Int × Int)) (h : ∀ m ∈ ms, smallM m) (t : Nat) (ht : t ≤ ms.length) : (-(4 * t : Int) ≤ px ms t ∧ px ms t ≤ 4 * t) ∧ -(4 * t : Int) ≤ py ms t ∧ py ms t ≤ 4 * t := by
  induction t with
  | zero => simp [px, py]
  | succ t ih =>
    have := ih (by omega)
    rw [px_succ ms t (by omega), py_succ ms t (by omega)]
    obtain ⟨⟨v1, v2⟩, v3, v4⟩ := h _ (List.getElem_mem (by omega : t < ms.length))
    exact ⟨⟨by omega, by omega⟩, by omega, by omega⟩

theorem dif_moves (ms : List (Int × Int)) : dif (fun i => (px ms i, py ms i)) ms.length = ms := by
  apply List.ext_getElem (by simp [dif])
  intro i h1 h2
  simp only [dif, List.getElem_map, List.getElem_range]
  rw [px_succ ms i h2, py_succ ms i h2]
  ext
  · dsimp only; omega
  · dsimp only; omega

theorem mpFin (ms : List (Int × Int)) (g : Int) : ∀ z ∈ (mpRes ms g).1, FinP z := by
  unfold mpRes
  split
  · rename_i h
    obtain ⟨hl, hup⟩ := mvsIn_parts h.1
    unfold pathRes
    split
    · intro z hz
      simp only [mPts, List.mem_map, List.mem_range] at hz
      obtain ⟨i, hi, rfl⟩ := hz
      obtain ⟨⟨b1, b2⟩, b3, b4⟩ := p_bd ms hup (i + 1) (by omega)
      exact ⟨Nat.le_trans (q_ok _ _ (by omega) (by omega) (by omega)).2 (by decide), Nat.le_trans (q_ok _ _ (by omega) (by omega) (by omega)).2 (by decide)⟩
    · intro z hz; cases hz
  · intro z hz; cases hz

set_option maxRecDepth 100000 in
set_option maxHeartbeats 2000000 in
theorem lawMovesPath (A : Option Addr) (c : Nat) (bs : List Int) (w : World) (hcode : CodeIn w A c bs) :
    Calls Try.prog 3 #[.slice A bs.length c] w fun e w' => e = .returned (.bool true) ∧ Below w.heap.size w w' := by
  have Hcode := hide hcode
  have hm := hcode.1.2.1
  clear hcode
  by_cases hbig : 1048576 < bs.length
  · go_enter Try.func3, Try.ntmps3
    go_wp2
    go_ret
    exact ⟨rfl, Below.refl _ _⟩
  · go_enter Try.func3, Try.ntmps3
    go_wp2_with fail
    refine (drawMP_ok A c bs _ Hcode.out).mono ?_
    rintro e w1 ⟨v, ms, g, rfl, ho1, hl, hsm, hg, hb1⟩
    clear hm hbig Hcode
    have Hsm := hide hsm
    have Hg := hide hg
    clear hsm hg
    have himp := fun w hr => implMP_ok v ms g w hr
    have hspe := fun w hr => specMP_ok v ms g w hr
    have hfz := mpFin ms g
    have hcase : (mpRes ms g).2 = false ∨ ∃ G : Nat, g = G ∧ G ≤ 8 ∧ (mpRes ms g).2 = true ∧ (mpRes ms g).1 = mPts ms G ms.length ∧ pathOk (mPts ms G ms.length) = true ∧ mvsIn ms = true := by
      unfold mpRes
      split
      · rename_i h
        unfold pathRes
        split
        · rename_i h2
          exact .inr ⟨g.toNat, by omega, by omega, rfl, rfl, h2, h.1⟩
        · exact .inl rfl
      · exact .inl rfl
    unfold MpPost at himp hspe
    obtain ⟨r, hr⟩ : ∃ r, mpRes ms g = r := ⟨_, rfl⟩
    rw [hr] at himp hspe hfz hcase
    clear hr
    obtain ⟨zs, ok⟩ := r
    dsimp only at himp hspe hfz hcase
    have Himp := hide himp
    have Hspe := hide hspe
    have Hfz := hide hfz
    have Hr1 := hide (owns_reads ho1)
    clear himp hspe hfz ho1
    go_wp2_with fail
    refine (Himp.out _ Hr1.out).mono ?_
    rintro e w2 ⟨v2, rfl, ho2, hb2⟩
    have Hr2 := hide (reads_kept Hr1.out hb2)
    have hb02 := kept_trans hb1 hb2
    clear Hr1 hb1 hb2
    go_wp2_with fail
    refine (Hspe.out _ Hr2.out).mono ?_
    rintro e w3 ⟨v3, rfl, ho3, hb3⟩
    have Hr3 := hide (reads_kept Hr2.out hb3)
    have hb03 := kept_trans hb02 hb3
    have ho2_3 := has_kept ho2 hb3
    clear Hr2 hb02 ho2 hb3
    rcases hcase with rfl | ⟨G, rfl, hG8, rfl, rfl, hpo, hin⟩
    · go_wp2_with fail
      refine (samePoints_ok _ _ zs _ (has_reads ho2_3) (has_reads ho3) Hfz.out).mono ?_
      rintro e w4 ⟨rfl, hb4⟩
      go_wp2_with fail
      refine (samePoints_ok _ _ zs _ (reads_kept (has_reads ho2_3) hb4) (reads_kept (has_reads ho3) hb4) Hfz.out).mono ?_
      rintro e w5 ⟨rfl, hb5⟩
      go_wp2_with fail
      go_ret
      exact ⟨by simp, kept_trans (kept_trans hb03 hb4) hb5⟩
    · have hsm : ∀ m ∈ ms, smallM m := by
        rcases Hsm.out with h | h
        · exact h
        · rw [hin] at h; cases h
      have Hin := hide hsm
      have hlen := mPts_len ms G ms.length
      have Hgr : Hid (∀ i (h : i < (mPts ms G ms.length).length), GridOk (mPts ms G ms.length)[i] G ((fun i => (px ms i, py ms i)) (i + 1))) := by
        intro i h
        rw [hlen] at h
        obtain ⟨⟨b1, b2⟩, b3, b4⟩ := small_bd ms hsm (i + 1) (by omega)
        have e1 : (mPts ms G ms.length)[i] = (qW (px ms (i + 1)) G, qW (py ms (i + 1)) G) := by simp [mPts]
        rw [e1]
        exact ⟨small_unit _ _ (by omega) (by omega) hG8, small_unit _ _ (by omega) (by omega) hG8⟩
      have Hbd : Hid (∀ i, i ≤ (mPts ms G ms.length).length → (-10000000 ≤ px ms i ∧ px ms i ≤ 10000000) ∧ -10000000 ≤ py ms i ∧ py ms i ≤ 10000000) := by
        intro i h
        rw [hlen] at h
        obtain ⟨⟨b1, b2⟩, b3, b4⟩ := small_bd ms hsm i (by omega)
        exact ⟨⟨by omega, by omega⟩, by omega, by omega⟩
      have hpm := fun v w hr => implPM_ok v (mPts ms G ms.length) G (fun i => (px ms i, py ms i)) w hr hpo hG8 rfl Hbd.out Hgr.out
      rw [hlen, dif_moves] at hpm
      have Hpm := hide hpm
      have Hlen := hide hlen
      clear hsm hpo hin hpm Hgr Hbd Hsm hlen
      go_wp2_with fail
      refine (samePoints_ok _ _ _ _ (has_reads ho2_3) (has_reads ho3) Hfz.out).mono ?_
      rintro e w4 ⟨rfl, hb4⟩
      have hb04 := kept_trans hb03 hb4
      have Hr4 := hide (reads_kept Hr3.out hb4)
      have hrd4 := hide (reads_kept (has_reads ho2_3) hb4)
      clear ho3 ho2_3 hb4 hb03 Hr3
      have hr4 := Hr4.out
      obtain ⟨_, _, A1, c1, rfl, hc1⟩ := hr4
      go_wp2_with fail
      go_loop [9] (fun i => ∃ t : Nat, t ≤ ms.length ∧ i = .int .i64 t) (fun i => ms.length - (intOf i).toNat)
      case atStart => exact ⟨0, by omega, rfl⟩
      case round =>
        obtain ⟨t, ht, rfl⟩ := hrel
        by_cases hlt : t < ms.length
        · obtain ⟨b, o, rfl, _, hcell⟩ := hc1 (by omega) (by omega)
          have h1 := (hcell (t * 2) (by omega)).trans (mvCells_x ms t hlt)
          have h2 : w4.cell? ⟨b, o + t * 2 + 1, none⟩ = _ := (hcell (t * 2 + 1) (by omega)).trans (mvCells_y ms t hlt)
          obtain ⟨⟨s1, s2⟩, s3, s4⟩ := Hin.out _ (List.getElem_mem hlt)
          clear hcell hc1
          generalize ms[t] = p at h1 h2 s1 s2 s3 s4
          obtain ⟨x, y⟩ := p
          dsimp only at h1 h2 s1 s2 s3 s4
          go_wp2_with fail
          go_round
          case rel => exact ⟨t + 1, by omega, by go_num⟩
          case measure => simp [intOf]; omega
        · obtain rfl : t = ms.length := by omega
          have hr5 := hrd4.out
          rw [Hlen.out] at hr5
          have Hp5 := hide (Hpm.out _ _ hr5)
          clear hr5
          go_wp2_with fail
          refine Hp5.out.mono ?_
          rintro e w5 ⟨⟨v5, rfl, ho5⟩, hb5⟩
          go_wp2_with fail
          refine (sameMovesP_ok _ _ ms _ (has_reads ho5) (reads_kept Hr4.out hb5)).mono ?_
          rintro e w6 ⟨rfl, hb6⟩
          go_wp2_with fail
          go_ret
          exact ⟨by simp, kept_trans (kept_trans hb04 hb5) hb6⟩

theorem Try.own : ownKnob Try.prog.godebug = none := by kernel_rfl
theorem Try.laidOut : laidOutB Try.prog = true := by kernel_rfl

set_option maxRecDepth 100000 in
theorem fnMovesPath_lifted (os : Os) (started : os.Started) (H : Type) (enc : TypeId × Value → H) :
    ReturnsInHanded {} Try.checked os 3 .any (Rows.fnMovesPathSpec.pre6 enc Try.prog Try.f3 Rows.fnMovesPathRow.domain false) (Rows.fnMovesPathSpec.post enc Try.prog Try.f3 false true false false) := by
  refine returnsInHanded_of_change (C := Try.checked) Try.own started (by kernel_rfl) Try.func3
    (ChangeSpec.witness6 (enc := enc) (C := Try.checked) false ⟨#[], #[.slice none 0 0], []⟩ 8 (by kernel_rfl) (by kernel_rfl) (by kernel_rfl) (by kernel_rfl)) ?_
  intro W base args ds gs before hval0 hW hcnd _
  have hval : ∀ (j : Nat) t v, Try.f3.params[j]? = some t → args[j]? = some v → Value.okWide Try.prog W .any base t v := hval0
  have hW' := hW
  obtain ⟨p, q, hA0, hV, rfl, hfz, hnd⟩ := hW
  have hA : DataW.TrodAll enc Try.prog W 0 (fun _ => true) true Try.f3.params.toList args.toList ds p := hA0
  rw [Try.params3] at hA hval
  obtain ⟨v0, d0, rfl, rfl, h0⟩ := trodAll_one hA
  obtain ⟨rfl, rfl⟩ := trodVars_none hV
  have h0k := h0
  obtain ⟨a0, len, cap, rfl⟩ := okWide_slice Try.underlying22 (hval 0 22 v0 rfl rfl)
  obtain ⟨fuel, hf⟩ := h0
  obtain ⟨A, c, bs, hv, hr⟩ := open_bytes Try.underlying22 Try.underlying5 (by kernel_rfl) hf
  rw [hv] at h0k hval hf ⊢
  clear hA0 hval0
  simp only [List.append_nil] at hW'
  rw [hv] at hW'
  refine (lawMovesPath A c bs W hr).mono fun e W' ⟨he, hb⟩ => ?_
  subst he
  exact ⟨_, rfl, _, _, _, [], _, [], hW', trodAll_mk1 (shut_bool Try.underlying4 _), trodAll_mk1 (Below.trod Try.laidOut (by kernel_rfl) (of_decide_eq_true (by kernel_rfl)) h0k hb (fun x hx => by simpa using hW'.lt x hx)), rfl, hb.frame _, fun h => by cases h⟩

theorem fnMovesPath_holds : Rows.FnMovesPathSaid :=
  OpenClaim.holds_of_wide 3 Try.f3 rfl rfl rfl rfl rfl rfl rfl ⟨rfl, rfl, rfl, rfl, rfl⟩ rfl rfl rfl rfl rfl (by kernel_rfl) Try.func3 (by kernel_rfl)
    (of_decide_eq_true (by kernel_rfl)) (by unfold Func.isWrapper; first | (rw [if_pos (by decide +kernel)]; kernel_rfl) | (rw [if_neg (by decide +kernel)]; exact ⟨rfl, rfl⟩))
    (fun os started H enc _ => fnMovesPath_lifted os started H enc)

end Go.Proofs.Ytnlmiemnblppbaa
