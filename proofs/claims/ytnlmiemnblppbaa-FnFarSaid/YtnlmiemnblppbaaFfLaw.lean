/-
  Paths are as far both ways: the law FnFar answers true at every code. No condition.
-/
import Derived.Test.YtnlmiemnblppbaaHp
import Derived.Test.YtnlmiemnblppbaaFa
import Derived.Laws.AppendOwnNone
namespace Go.Proofs.Ytnlmiemnblppbaa
open Go.ChangeShapes Go.WideShapes Go.ChangeAt Go.RowKit

/-- What is drawn: two paths. -/
def DrFa (w : World) (e : Ending) (w' : World) : Prop :=
  ∃ v zs v' zs', e = .returned (.tuple #[v, v']) ∧ Reads w' 1 v zs.length (cCells zs) ∧ Reads w' 1 v' zs'.length (cCells zs') ∧ Below w.heap.size w w'

theorem cCells_set (zs : List (Nat × Nat)) (k x y : Nat) : (cCells zs).set k (.complex .f32 x y) = cCells (zs.set k (x, y)) := by
  simp [cCells, List.map_set, cpx]

set_option maxRecDepth 100000 in
set_option maxHeartbeats 2000000 in
theorem drawFar_ok (A : Option Addr) (c : Nat) (bs : List Int) (w : World) (hc : CodeIn w A c bs) : Calls Try.prog 32 #[.slice A bs.length c] w (DrFa w) := by
  obtain ⟨i0, hi, hz0, hz1, hz2⟩ := info_parts Try.infoCo
  have H := hide hc
  clear hc
  have hst : ∀ (a : Addr) (x y : Nat) (m : Mode) (W : World), (store a (.complex .f32 x y) m).run Try.prog W = stored Try.prog W a (.complex .f32 x y) m := fun a x y m W => run_store Try.prog W a _ m rfl
  go_enter Try.func32, Try.ntmps32
  go_wp2_with fail
  refine (l6Open_ok A c bs _ H.out.1 H.out.2.1 H.out.2.2.1 H.out.2.2.2).mono ?_
  rintro e w1 ⟨R, rfl, hR, hR1, hb1⟩
  go_wp2_with fail
  refine (l92Path_ok R 0 _ hR1 (by decide)).mono ?_
  rintro e w2 ⟨v, zs, rfl, hh, hl, _, hR2, hg2, -⟩
  have hRlt := rd_lt hR1
  have hap : v.ownBlock = none ∨ v.ownBlock ≠ some R := by
    cases hv : v.ownBlock with
    | none => exact .inl rfl
    | some k => exact .inr fun e => by cases e; have := (has_lt hh _ hv).1; omega
  go_wp2_with fail
  refine (pick_ok R _ 6 _ hR2 (by decide) (by decide)).mono ?_
  rintro e w3 ⟨a, rfl, ha, hR3, hg3⟩
  have hh3 := has_grown hh hg3 hap
  have hg13 := grown_trans' hg2 hg3
  clear hh hg2 hg3 hR2 ha hR1
  by_cases ha0 : a = 0
  · subst ha0
    have Hh3 := hide (has_reads hh3)
    have hap3 : v.ownBlock = none ∨ v.ownBlock ≠ some R := hap
    clear hh3
    go_wp2_with fail
    refine (l92Path_ok R _ _ hR3 (by decide)).mono ?_
    rintro e w4 ⟨v4, zs4, rfl, hh4, hl4, _, hR4, hg4, -⟩
    have Hh4 := hide (reads_grown Hh3.out hg4 (fun _ => hap3))
    have Hr4 := hide (has_reads hh4)
    have hb04 := kept_of_new hb1 (grown_trans' hg13 hg4) hR
    clear Hh3 hh4 hg4 hR4 hg13 hb1 hR3
    go_wp2_with fail
    go_ret2
    exact ⟨v, zs, v4, zs4, rfl, Hh4.out, Hr4.out, hb04⟩
  · have ha1 : ((a : Int) == 0) = false := beq_eq_false_iff_ne.2 (by omega)
    clear ha0
    have hsz3 : w1.heap.size ≤ w3.heap.size := hg13.size
    have hoe := World.ownsRow_lit (base := w3.heap.size) (e := 46) (size := 1) w3 #[] 0 (Nat.le_refl _) (by decide) (by simp)
    have hke := kept_new w3 (.cells #[] 46)
    have hRe := rd_kept hR3 hke
    have hge := grown_trans' hg13 (grown_of_kept hke (some R))
    have hhe := has_kept hh3 hke
    rcases has_cases hh3 with ⟨rfl, h0⟩ | ⟨g, cap, rfl, hgB, hgl, _, hcell, _⟩
    · have hz : zs = [] := List.eq_nil_of_length_eq_zero h0
      subst hz
      have hb03 := kept_of_new hb1 hge hR
      have Hhe := hide (has_reads hhe)
      have Hro := hide (owns_reads hoe)
      clear hge hRe hR3 hg13 hke hh3 hhe hb1
      go_wp2_with (at_builtin; refine wpList_append_own_none rfl _ _ 26 rfl w3.heap.size 46 i0 1 Try.underlying26 hi _ 0 [] rfl hoe rfl ?_)
      clear hoe
      go_wp2_with fail
      go_ret2
      exact ⟨_, [], _, [], rfl, Hhe.out, Hro.out, hb03⟩
    · have Hhe := hide (has_reads hhe)
      have hal : w3.heap.size < (w3.alloc (.cells #[] 46)).heap.size := by simp
      clear hR3 hg13 hke hh3 hap
      have hnews : ∀ j u, (cCells zs)[j]? = some u → (w3.alloc (.cells #[] 46)).cell? ((⟨g, 0, none⟩ : Addr).add j) = some u := by
        intro j u hu
        have hj : j < zs.length := by
          have := (List.getElem?_eq_some_iff.1 hu).1
          rwa [cCells_len] at this
        have h1 := kept_cell (kept_new w3 (.cells #[] 46)) ((hcell j (by omega)).trans hu)
        rw [Addr.add_lit, Nat.zero_add]
        exact h1
      have Hn := hide hnews
      clear hnews hcell hhe
      go_wp2_with (at_builtin; refine wpList_append_any rfl _ _ 26 rfl w3.heap.size 46 i0 _ 1 8 Try.underlying26 hi hz0 hz1 hz2 rfl (by decide) w3.heap.size 0 0 [] rfl hoe ⟨g, 0, none⟩ zs.length cap (cCells zs) rfl (by rw [cCells_len, Nat.mul_one]) Hn.out (cCells_one zs) (by omega) (by decide) (Nat.le_of_lt hal) zs.length (by omega) (cCells zs) (List.nil_append _) ?_)
      intro g6 cap6 w6 ho6 hg6 hw6
      have hR6 := rd_grown hRe hg6 (fun k hk => by cases hk; exact Nat.lt_of_lt_of_le hRlt hsz3)
      have hg06 := grown_new hge hg6 (fun k hk => by cases hk; exact hsz3)
      have Hh6 := hide (reads_grown Hhe.out hg6 (fun _ => .inr (by simp only [Value.ownBlock, ne_eq, Option.some.injEq]; omega)))
      have hgg : g ≠ g6 := by
        rcases hw6 with h | h <;> omega
      have hg6B := (ho6.lt g6 rfl).1
      have hb06 := kept_of_new hb1 hg06 hR
      clear hoe hg6 hw6 hge hRe Hhe Hn hal
      by_cases hn0 : zs.length = 0
      · have i1 : (zs.length : Int) = 0 := by omega
        have Ho6 := hide (owns_reads ho6)
        clear ho6 hn0
        go_wp2_with fail
        go_ret2
        exact ⟨_, zs, _, zs, rfl, Hh6.out, Ho6.out, hb06⟩
      · have i1 : (0 : Int) < (zs.length : Int) := by omega
        go_wp2_with fail
        refine (pick_ok R _ zs.length _ hR6 (by decide) (by omega)).mono ?_
        rintro e w7 ⟨k, rfl, hk, hR7, hg7⟩
        have hk2 : k < zs.length := by omega
        have ho7 := ho6.kept hg7 (.inr (by simp only [Value.ownBlock, ne_eq, Option.some.injEq]; omega))
        have Hh7 := hide (reads_grown Hh6.out hg7 (fun _ => .inr (by simp only [Value.ownBlock, ne_eq, Option.some.injEq]; omega)))
        have hg07 := grown_trans' hg06 hg7
        have hh7 := has_owns ho7
        have hcf : (∃ u, w7.cell? ⟨g6, k, none⟩ = some u) ∧ w7.frozen? ⟨g6, k, none⟩ = false := by
          rcases has_cases hh7 with ⟨h', _⟩ | ⟨g', cap', h', _, _, _, h1, h2⟩
          · simp at h'
          · simp only [Value.slice.injEq, Option.some.injEq, Addr.mk.injEq, and_true, true_and] at h'
            obtain ⟨rfl, rfl⟩ := h'
            exact ⟨⟨_, (h1 k (by omega)).trans (cCells_get zs k hk2)⟩, h2 k⟩
        obtain ⟨⟨u, hc0⟩, hf0⟩ := hcf
        obtain ⟨hs8, hg8⟩ := has_stored hh7 k (.complex .f32 1069547520 3221225472)
        rw [cCells_set] at hs8
        have hl8 : (zs.set k (1069547520, 3221225472)).length = zs.length := List.length_set
        have Hs8 : Hid (Reads (w7.setCell ⟨g6, k, none⟩ (.complex .f32 1069547520 3221225472)) 1 (.slice (some ⟨g6, 0, none⟩) zs.length cap6) (zs.set k (1069547520, 3221225472)).length (cCells (zs.set k (1069547520, 3221225472)))) := by
          rw [hl8]
          exact has_reads hs8
        have Hh8 := hide (reads_grown Hh7.out hg8 (fun _ => .inr (by simp only [Value.ownBlock, ne_eq, Option.some.injEq]; exact hgg)))
        have Hb8 := hide (kept_of_new hb1 (grown_set hg07 (p := ⟨g6, k, none⟩) (Nat.le_trans hsz3 hg6B) (.complex .f32 1069547520 3221225472)) hR)
        have i2 : (0 : Int) ≤ (k : Int) := by omega
        have i3 : (k : Int) < (zs.length : Int) := by omega
        clear ho6 hk hg7 hR6 hR7 hh7 hs8 hg8 Hh6 Hh7 hg06 hg07 ho7 hb06 hb1 hn0
        go_wp2_with fail
        go_ret2
        exact ⟨_, zs, _, zs.set k (1069547520, 3221225472), rfl, Hh8.out, Hs8.out, Hb8.out⟩

theorem conv_word (M : Nat) (h : M < Ieee.single.infRung) : ∃ r s m p, (∀ W, (convert 55 61 (.float .f32 M)).run Try.prog W = .ok (.float .f64 r) W) ∧ Ieee.double.read r = .number s m p := by
  have hf : fieldW Ieee.single M ≤ 254 := by
    unfold fieldW
    rw [Nat.mod_eq_of_lt (Nat.lt_trans h Ieee.single.infRung_lt), s_binade]
    rw [s_inf] at h
    omega
  obtain ⟨r, s, m, p, h1, h2⟩ := conv_fin M 254 hf (by decide)
  exact ⟨r, s, m, p, fun W => run_convert_float_float W _ _ .f32 .f64 _ _ (by rw [Try.underlying55]; rfl) Try.underlying61 h1, h2⟩

theorem eqlZ_run (x y x' y' : Nat) (b : Bool) (h : ((FloatKind.f32.format.order x x' == some Ordering.eq) && (FloatKind.f32.format.order y y' == some Ordering.eq)) = b) (W : World) : (binOp .eql 46 (.complex .f32 x y) (.complex .f32 x' y')).run Try.prog W = .ok (.bool b) W := by
  subst h
  go_simp

set_option maxRecDepth 100000 in
set_option maxHeartbeats 4000000 in
theorem lawFar (A : Option Addr) (c : Nat) (bs : List Int) (w : World) (hcode : CodeIn w A c bs) :
    Calls Try.prog 7 #[.slice A bs.length c] w fun e w' => e = .returned (.bool true) ∧ Below w.heap.size w w' := by
  have Hcode := hide hcode
  have hm := hcode.1.2.1
  clear hcode
  by_cases hbig : 1048576 < bs.length
  · go_enter Try.func7, Try.ntmps7
    go_wp2
    go_ret
    exact ⟨rfl, Below.refl _ _⟩
  · go_enter Try.func7, Try.ntmps7
    go_wp2_with fail
    refine (drawFar_ok A c bs _ Hcode.out).mono ?_
    rintro e w1 ⟨v, zs, v', zs', rfl, hr, hr', hb1⟩
    have Hr := hide hr
    have Hr' := hide hr'
    clear hm hbig Hcode hr hr'
    by_cases hbad : pathOk zs = false ∨ pathOk zs' = false ∨ zs.length ≠ zs'.length
    · have Hi := hide (fun w hr hr' => implFarF_ok v v' zs zs' w hr hr' hbad)
      have Hs := hide (fun w hr hr' => specFarF_ok v v' zs zs' w hr hr' hbad)
      obtain ⟨r, s, m, p, hcv, hrd⟩ := conv_word 0 (by rw [s_inf]; decide)
      have Hz := hide (fun W => zeroAlike_ok r s m p W hrd)
      clear hbad hrd
      go_wp2_with fail
      refine (Hi.out _ Hr.out Hr'.out).mono ?_
      rintro e w2 ⟨rfl, rfl⟩
      go_wp2_with fail
      refine (Hs.out _ Hr.out Hr'.out).mono ?_
      rintro e w2 ⟨rfl, rfl⟩
      go_wp2_with fail
      refine (Hz.out _).mono ?_
      rintro e w2 ⟨rfl, rfl⟩
      go_wp2_with fail
      refine (Hz.out _).mono ?_
      rintro e w2 ⟨rfl, rfl⟩
      go_wp2_with fail
      go_ret
      exact ⟨by simp, hb1⟩
    · have hp : pathOk zs = true := by
        cases h : pathOk zs with
        | true => rfl
        | false => exact absurd (.inl h) hbad
      have hp' : pathOk zs' = true := by
        cases h : pathOk zs' with
        | true => rfl
        | false => exact absurd (.inr (.inl h)) hbad
      have hl : zs.length = zs'.length := by
        by_cases h : zs.length = zs'.length
        · exact h
        · exact absurd (.inr (.inr h)) hbad
      clear hbad
      have hM := farN_lt hp hp' hl zs.length (Nat.le_refl _)
      have hsw := farN_swap hp hp' hl zs.length (Nat.le_refl _)
      have Hi := hide (fun w hr hr' => implFar_ok v v' zs zs' w hr hr' hp hp' hl)
      have Hs := hide (fun w hr hr' => specFar_ok v v' zs zs' w hr hr' hp hp' hl)
      have hi2 : ∀ w, Reads w 1 v zs.length (cCells zs) → Reads w 1 v' zs'.length (cCells zs') → Calls Try.prog 31 #[v', v] w fun e w' => e = .returned (.tuple #[.float .f32 (farN zs zs' zs.length), .bool true]) ∧ Below w.heap.size w w' := fun w hr hr' => by
        have := implFar_ok v' v zs' zs w hr' hr hp' hp hl.symm
        rw [← hl, hsw] at this
        exact this
      have Hi2 := hide hi2
      obtain ⟨r, s, m, p, hcv, hrd⟩ := conv_word _ hM
      have Hz := hide (fun W => zeroAlike_ok r s m p W hrd)
      have hself : FloatKind.f32.format.order (farN zs zs' zs.length) (farN zs zs' zs.length) = some .eq := by
        have := order_key Ieee.single (farN zs zs' zs.length) (farN zs zs' zs.length) (fin_word false _ hM) (fin_word false _ hM)
        rw [cmp_self] at this
        exact this
      have ho1 : (FloatKind.f32.format.order (farN zs zs' zs.length) (farN zs zs' zs.length) == some Ordering.eq) = true := by rw [hself]; rfl
      have hzero : FloatKind.f32.format.order (farN zs zs' zs.length) 0 = some (compare (farN zs zs' zs.length : Int) 0) := by
        have := order_key Ieee.single (farN zs zs' zs.length) 0 (fin_word false _ hM) (fin_word false 0 (by rw [s_inf]; decide))
        rw [key_nat _ hM] at this
        exact this
      have ho2 : (FloatKind.f32.format.order (farN zs zs' zs.length) 0 == some Ordering.eq) = decide (farN zs zs' zs.length = 0) := by
        rw [hzero]
        by_cases h : farN zs zs' zs.length = 0
        · rw [h]; decide
        · rw [decide_eq_false h, (cmp_gt _ _).2 (by omega)]; rfl
      have ho3 : (FloatKind.f32.format.order (farN zs zs' zs.length) 0 == some Ordering.gt || FloatKind.f32.format.order (farN zs zs' zs.length) 0 == some Ordering.eq) = true := by
        rw [hzero]
        by_cases h : farN zs zs' zs.length = 0
        · rw [h]; decide
        · rw [(cmp_gt _ _).2 (by omega)]; rfl
      have Hsuc := hide (fun t (h : t < zs.length) (h' : t < zs'.length) => farN_succ zs zs' t h h')
      have Hdis := hide (fun t (h : t < zs.length) (h' : t < zs'.length) => And.intro (dis_ok _ _ (path_part hp h).1 (path_part hp' h').1).2.2.2 (dis_ok _ _ (path_part hp h).2 (path_part hp' h').2).2.2.2)
      have Ho1 := hide ho1
      have Ho2 := hide ho2
      have Ho3 := hide ho3
      have Hl := hide hl
      have hr := Hr.out
      have hr' := Hr'.out
      obtain ⟨_, _, A1, c1, rfl, hc1⟩ := hr
      obtain ⟨_, _, A2, c2, rfl, hc2⟩ := hr'
      clear hp hp' hl hM hsw hi2 hrd hself ho1 hzero ho2 ho3
      obtain ⟨M, HM⟩ : ∃ M, farN zs zs' zs.length = M := ⟨_, rfl⟩
      rw [HM] at Hi Hs Hi2 hcv Ho1 Ho2 Ho3
      have hM := hide HM
      clear HM
      go_wp2_with fail
      refine (Hi.out _ Hr.out Hr'.out).mono ?_
      rintro e w2 ⟨rfl, hb2⟩
      have Hr2 := hide (reads_kept Hr.out hb2)
      have Hr2' := hide (reads_kept Hr'.out hb2)
      have hb02 := kept_trans hb1 hb2
      have Hk2 := hide hb2
      clear hb1 hb2
      go_wp2_with fail
      refine (Hs.out _ Hr2.out Hr2'.out).mono ?_
      rintro e w3 ⟨rfl, hb3⟩
      have Hr3 := hide (reads_kept Hr2.out hb3)
      have Hr3' := hide (reads_kept Hr2'.out hb3)
      have hb03 := kept_trans hb02 hb3
      clear hb3 hb02 Hr2 Hr2' Hk2 Hr Hr' hc1 hc2
      go_wp2_with fail
      refine (Hz.out _).mono ?_
      rintro e w4 ⟨rfl, rfl⟩
      go_wp2_with fail
      refine (Hi2.out _ Hr3.out Hr3'.out).mono ?_
      rintro e w5 ⟨rfl, hb5⟩
      have hr5 := reads_kept Hr3.out hb5
      have hr5' := reads_kept Hr3'.out hb5
      have hb05 := kept_trans hb03 hb5
      clear hb5 hb03 Hr3 Hr3'
      obtain ⟨_, _, A3, c3, hv3, hc3⟩ := hr5
      obtain ⟨_, _, A4, c4, hv4, hc4⟩ := hr5'
      simp only [Value.slice.injEq, true_and] at hv3 hv4
      obtain ⟨rfl, rfl⟩ := hv3
      obtain ⟨rfl, rfl⟩ := hv4
      go_wp2_with fail
      go_loopw [11, 12] (fun u i wr => ∃ t m : Nat, t ≤ zs.length ∧ i = .int .i64 t ∧ u = .bool (decide (farN zs zs' t = 0)) ∧ wr = w5.drewN m) (fun _ i _ => zs.length - (intOf i).toNat)
      case atStart => exact ⟨0, 0, by omega, rfl, rfl, rfl⟩
      case round =>
        obtain ⟨t, m, ht, rfl, rfl, rfl⟩ := hrel
        by_cases hlt : t < zs.length
        · have hlt' : t < zs'.length := by have := Hl.out; omega
          obtain ⟨b, o, rfl, hbl, hcell⟩ := hc3 (by omega) (by omega)
          obtain ⟨b', o', rfl, hbl', hcell'⟩ := hc4 (by omega) (by omega)
          have h1 := (hcell t (by omega)).trans (cCells_get zs t hlt)
          have h1' := (hcell' t (by omega)).trans (cCells_get zs' t hlt')
          have hs := Hsuc.out t hlt hlt'
          obtain ⟨d1, d2⟩ := Hdis.out t hlt hlt'
          clear hcell hc3 hcell' hc4
          generalize zs[t] = z at h1 hs d1 d2
          generalize zs'[t] = z' at h1' hs d1 d2
          obtain ⟨x, y⟩ := z
          obtain ⟨x', y'⟩ := z'
          dsimp only at h1 h1' hs d1 d2
          generalize disW x x' = r1 at *
          generalize disW y y' = r2 at *
          have q3 : (0 : Int) ≤ (t : Int) := by omega
          have q4 : (t : Int) < (zs.length : Int) := by omega
          have q5 : (t : Int) < (zs'.length : Int) := by omega
          by_cases hF : farN zs zs' t = 0
          · have heq := eqlZ_run x y x' y' (decide (farN zs zs' (t + 1) = 0)) (by
              have f1 : (FloatKind.f32.format.order x x' == some Ordering.eq) = decide (r1 = 0) := by
                by_cases h : r1 = 0
                · rw [decide_eq_true h]; exact beq_iff_eq.2 (d1.1 h)
                · rw [decide_eq_false h]; exact beq_eq_false_iff_ne.2 (fun e => h (d1.2 e))
              have f2 : (FloatKind.f32.format.order y y' == some Ordering.eq) = decide (r2 = 0) := by
                by_cases h : r2 = 0
                · rw [decide_eq_true h]; exact beq_iff_eq.2 (d2.1 h)
                · rw [decide_eq_false h]; exact beq_eq_false_iff_ne.2 (fun e => h (d2.2 e))
              rw [f1, f2, hs, hF]
              by_cases h : r1 = 0 <;> by_cases h' : r2 = 0 <;> simp [h, h'])
            rw [decide_eq_true hF]
            clear d1 d2 hs hF
            obtain ⟨bb, hbb⟩ : ∃ bb, decide (farN zs zs' (t + 1) = 0) = bb := ⟨_, rfl⟩
            rw [hbb] at heq
            have Hbb := hide hbb
            clear hbb
            go_wp2_with fail
            go_quiet (fail)
            go_wp2_with fail
            go_roundw
            case rel => exact ⟨t + 1, _, by omega, by go_num, by rw [Hbb.out], rfl⟩
            case measure => simp [intOf]; omega
          · have hF2 : decide (farN zs zs' (t + 1) = 0) = false := decide_eq_false (by rw [hs]; omega)
            rw [decide_eq_false hF]
            have Hbb := hide hF2
            clear d1 d2 hs hF hF2
            go_wp2_with fail
            go_quiet (fail)
            go_wp2_with fail
            go_roundw
            case rel => exact ⟨t + 1, _, by omega, by go_num, by rw [Hbb.out], rfl⟩
            case measure => simp [intOf]; omega
        · obtain rfl : t = zs.length := by omega
          rw [hM.out]
          have o1 := Ho1.out
          have o2 := Ho2.out
          have o3 := Ho3.out
          by_cases hM0 : M = 0
          · rw [decide_eq_true hM0] at o2 ⊢
            clear hc3 hc4 hM0
            go_wp2_with fail
            go_ret
            exact ⟨by simp, kept_trans hb05 (kept_drewN _ _)⟩
          · rw [decide_eq_false hM0] at o2 ⊢
            rw [o2, Bool.or_false] at o3
            clear hc3 hc4 hM0
            go_wp2_with fail
            go_ret
            exact ⟨by simp, kept_trans hb05 (kept_drewN _ _)⟩

theorem Try.own : ownKnob Try.prog.godebug = none := by kernel_rfl
theorem Try.laidOut : laidOutB Try.prog = true := by kernel_rfl

set_option maxRecDepth 100000 in
theorem fnFar_lifted (os : Os) (started : os.Started) (H : Type) (enc : TypeId × Value → H) :
    ReturnsInHanded {} Try.checked os 7 .any (Rows.fnFarSpec.pre6 enc Try.prog Try.f7 Rows.fnFarRow.domain false) (Rows.fnFarSpec.post enc Try.prog Try.f7 false true false false) := by
  refine returnsInHanded_of_change (C := Try.checked) Try.own started (by kernel_rfl) Try.func7
    (ChangeSpec.witness6 (enc := enc) (C := Try.checked) false ⟨#[], #[.slice none 0 0], []⟩ 8 (by kernel_rfl) (by kernel_rfl) (by kernel_rfl) (by kernel_rfl)) ?_
  intro W base args ds gs before hval0 hW hcnd _
  have hval : ∀ (j : Nat) t v, Try.f7.params[j]? = some t → args[j]? = some v → Value.okWide Try.prog W .any base t v := hval0
  have hW' := hW
  obtain ⟨p, q, hA0, hV, rfl, hfz, hnd⟩ := hW
  have hA : DataW.TrodAll enc Try.prog W 0 (fun _ => true) true Try.f7.params.toList args.toList ds p := hA0
  rw [Try.params7] at hA hval
  obtain ⟨v0, d0, rfl, rfl, h0⟩ := trodAll_one hA
  obtain ⟨rfl, rfl⟩ := trodVars_none hV
  have h0k := h0
  obtain ⟨a0, len, cap, rfl⟩ := okWide_slice Try.underlying22 (hval 0 22 v0 rfl rfl)
  obtain ⟨fuel, hf⟩ := h0
  obtain ⟨A, c, bs, hv, hr⟩ := open_bytes Try.underlying22 Try.underlying5 (by kernel_rfl) hf
  rw [hv] at h0k hval hf ⊢
  clear hA0 hval0
  simp only [List.append_nil] at hW'
  rw [hv] at hW'
  refine (lawFar A c bs W hr).mono fun e W' ⟨he, hb⟩ => ?_
  subst he
  exact ⟨_, rfl, _, _, _, [], _, [], hW', trodAll_mk1 (shut_bool Try.underlying4 _), trodAll_mk1 (Below.trod Try.laidOut (by kernel_rfl) (of_decide_eq_true (by kernel_rfl)) h0k hb (fun x hx => by simpa using hW'.lt x hx)), rfl, hb.frame _, fun h => by cases h⟩

theorem fnFar_holds : Rows.FnFarSaid :=
  OpenClaim.holds_of_wide 7 Try.f7 rfl rfl rfl rfl rfl rfl rfl ⟨rfl, rfl, rfl, rfl, rfl⟩ rfl rfl rfl rfl rfl (by kernel_rfl) Try.func7 (by kernel_rfl)
    (of_decide_eq_true (by kernel_rfl)) (by unfold Func.isWrapper; first | (rw [if_pos (by decide +kernel)]; kernel_rfl) | (rw [if_neg (by decide +kernel)]; exact ⟨rfl, rfl⟩))
    (fun os started H enc _ => fnFar_lifted os started H enc)

end Go.Proofs.Ytnlmiemnblppbaa
