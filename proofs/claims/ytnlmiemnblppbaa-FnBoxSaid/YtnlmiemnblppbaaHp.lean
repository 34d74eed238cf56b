/-
  Drawn paths: finite points, or a list that is no path.
-/
import Derived.Test.YtnlmiemnblppbaaRo
import Derived.Test.YtnlmiemnblppbaaPo
import Derived.Test.YtnlmiemnblppbaaAl
namespace Go.Proofs.Ytnlmiemnblppbaa
open Go.RowKit

/-- A drawn path. -/
def DrPa (w : World) (R N : Nat) (e : Ending) (w' : World) : Prop :=
  ∃ v zs, e = .returned v ∧ Has w' w.heap.size 1 v zs.length (cCells zs) ∧ zs.length ≤ 24 ∧ (pathOk zs = false ∨ ∀ z ∈ zs, FinP z) ∧ Rd w' R (N + 200) ∧ w.grownBy w' (some R) ∧ ∃ A n c, v = .slice A n c ∧ n ≤ c

theorem pathN (k : Nat) (h : k < 6) : ∃ n : Nat, [2, 3, 4, 6, 8, 12][k]? = some n ∧ divB n = true := by
  match k, h with
  | 0, _ => exact ⟨2, rfl, by decide⟩ | 1, _ => exact ⟨3, rfl, by decide⟩ | 2, _ => exact ⟨4, rfl, by decide⟩ | 3, _ => exact ⟨6, rfl, by decide⟩ | 4, _ => exact ⟨8, rfl, by decide⟩ | 5, _ => exact ⟨12, rfl, by decide⟩

theorem hp_apart {w w' : World} {R N : Nat} {e : TypeId} {s n : Nat} {v : Value} {xs : List Value} (hR : Rd w R N) (h : w'.ownsRow w.heap.size e s v n xs) : v.ownBlock = none ∨ v.ownBlock ≠ some R := by
  cases hv : v.ownBlock with
  | none => exact .inl rfl
  | some k => exact .inr fun e => by cases e; have := (h.lt _ hv).1; have := rd_lt hR; omega

def eightW (a : Nat) : Nat := (Ieee.single.div (floatOfInt .f32 ((a : Int) - 32)) 1090519040).getD 0
def sixteenW (a : Nat) : Nat := (Ieee.single.div (floatOfInt .f32 ((a : Int) - 32)) 1098907648).getD 0
theorem eight_ok (a : Nat) (h : a < 65) : Ieee.single.div (floatOfInt .f32 ((a : Int) - 32)) 1090519040 = some (eightW a) ∧ fieldW Ieee.single (eightW a) ≤ 250 := by
  have : ∀ a : Fin 65, Ieee.single.div (floatOfInt .f32 ((a.1 : Int) - 32)) 1090519040 = some (eightW a.1) ∧ fieldW Ieee.single (eightW a.1) ≤ 250 := by decide +kernel
  exact this ⟨a, h⟩
theorem sixteen_ok (a : Nat) (h : a < 65) : Ieee.single.div (floatOfInt .f32 ((a : Int) - 32)) 1098907648 = some (sixteenW a) ∧ fieldW Ieee.single (sixteenW a) ≤ 250 := by
  have : ∀ a : Fin 65, Ieee.single.div (floatOfInt .f32 ((a.1 : Int) - 32)) 1098907648 = some (sixteenW a.1) ∧ fieldW Ieee.single (sixteenW a.1) ≤ 250 := by decide +kernel
  exact this ⟨a, h⟩

theorem nan_cutP (t : Nat) : (Ieee.single.read ((t % 2) * 2 ^ 31 + 0x7f800000 + 1 + (t / 2) % (2 ^ 23 - 1))).isNaN = true := by
  have hs : Ieee.single.signWeight = 2147483648 := by decide
  have hb : Ieee.single.binade = 8388608 := by decide
  have hi : Ieee.single.infRung = 2139095040 := by decide
  have h1 : ((t % 2) * 2 ^ 31 + 0x7f800000 + 1 + (t / 2) % (2 ^ 23 - 1)) % 2147483648 = 0x7f800000 + 1 + (t / 2) % (2 ^ 23 - 1) := by omega
  unfold Ieee.Format.read
  dsimp only
  rw [hs, hb, hi, h1, if_neg (by omega), if_neg (by omega), if_neg (by omega)]
  rfl

theorem nan_partP (y : Nat) (h : (Ieee.single.read y).isNaN = true) : partB y = false := by
  cases hd : Ieee.single.read y with
  | nan s t =>
    unfold partB geB
    show (((Ieee.single.read y).order (Ieee.single.read 3313500160) == some .gt || (Ieee.single.read y).order (Ieee.single.read 3313500160) == some .eq) && _) = false
    rw [hd]
    rfl
  | infinity s => rw [hd] at h; cases h
  | number s m p => rw [hd] at h; cases h

theorem nan_quoP (W : World) : ∃ x, (binOp .quo 55 (.float .f32 0) (.float .f32 0)).run Try.prog W = .ok (.float .f32 x) W.drew ∧ (Ieee.single.read x).isNaN = true := by
  refine ⟨_, ?_, nan_cutP (W.tape W.drawn (.nanBits .f32 0 0))⟩
  have hd : FloatKind.f32.format.div 0 0 = none := by decide
  simp [binOp, Op.floatArith, hd, Question.forced, Question.cut, Result.andThen]

theorem set_cells (z0 : Nat × Nat) (zs : List (Nat × Nat)) (x y : Nat) : (cCells (z0 :: zs)).set 0 (.complex .f32 x y) = cCells ((x, y) :: zs) := rfl

theorem poFinP (cs : List C8) : ∀ z ∈ (poRes cs).1, FinP z := by
  unfold poRes
  split
  · rename_i h
    unfold pathRes
    split
    · intro z hz
      simp only [sPts, List.take_length, List.mem_map] at hz
      obtain ⟨c, hc, rfl⟩ := hz
      obtain ⟨i, hi, rfl⟩ := List.mem_iff_getElem.1 hc
      have := sumZ_fin _ ((row_small h).2.2 i hi) 8 (Nat.le_refl _)
      exact ⟨Nat.le_trans this.1 (by decide), Nat.le_trans this.2 (by decide)⟩
    · intro z hz; cases hz
  · intro z hz; cases hz

theorem poRes_le (cs : List C8) : (poRes cs).1.length ≤ 24 := by
  unfold poRes
  split
  · rename_i h
    unfold pathRes
    split
    · show (sPts cs cs.length).length ≤ 24
      rw [sPts_len cs cs.length (Nat.le_refl _)]
      exact (row_small h).2.1
    · simp
  · simp

theorem poRes_ne (cs : List C8) (h : (poRes cs).2 = true) : 1 ≤ (poRes cs).1.length := by
  unfold poRes at h ⊢
  split at h
  · rename_i h1
    rw [if_pos h1]
    unfold pathRes at h ⊢
    split at h
    · rename_i h2
      rw [if_pos h2]
      show 1 ≤ (sPts cs cs.length).length
      rw [sPts_len cs cs.length (Nat.le_refl _)]
      exact (row_small h1).1
    · cases h
  · cases h

theorem nanPath {x y : Nat} {zs : List (Nat × Nat)} (h : partB x = false) : pathOk ((x, y) :: zs) = false := by simp [pathOk, ptB, h]

theorem fin_tail {z0 x : Nat × Nat} {zs : List (Nat × Nat)} (h : ∀ z ∈ z0 :: zs, FinP z) (hx : FinP x) : ∀ z ∈ x :: zs, FinP z := by
  intro z hz
  rcases List.mem_cons.1 hz with rfl | hz
  · exact hx
  · exact h z (List.mem_cons_of_mem _ hz)

set_option maxRecDepth 100000 in
set_option maxHeartbeats 8000000 in
theorem l92Path_ok (R N : Nat) (w : World) (hR : Rd w R N) (hN : N ≤ 500000) :
    Calls Try.prog 61 #[.pointer (some ⟨R, 0, none⟩)] w (DrPa w R N) := by
  obtain ⟨i0, hi, hz0, hz1, hz2⟩ := info_parts Try.infoCo
  have hRlt := rd_lt hR
  go_enter Try.func61, Try.ntmps61
  go_wp2_with fail
  refine (l92Design_ok R _ _ hR (by omega)).mono ?_
  rintro e w1 ⟨vd, ws, rfl, hwl, hwn, hR1, hg1⟩
  have hlen : ∀ k, k < 6 → (w1.alloc (.cells #[.int .i64 2, .int .i64 3, .int .i64 4, .int .i64 6, .int .i64 8, .int .i64 12] 3)).cell? ⟨w1.heap.size, k, none⟩ = ([2, 3, 4, 6, 8, 12][k]?).map fun n : Nat => Value.int .i64 n := by
    intro k hk
    rw [cell_of_row _ _ _ _ _ _ (heap_alloc_new w1 _)]
    match k, hk with
    | 0, _ => rfl | 1, _ => rfl | 2, _ => rfl | 3, _ => rfl | 4, _ => rfl | 5, _ => rfl
  have Hlen := hide hlen
  have hb1 := kept_new w1 (.cells #[.int .i64 2, .int .i64 3, .int .i64 4, .int .i64 6, .int .i64 8, .int .i64 12] 3)
  have hRlt1 := rd_lt hR1
  have Hwl := hide (reads_kept (has_reads hwl) hb1)
  have hap : vd.ownBlock = none ∨ vd.ownBlock ≠ some R := by
    cases hv : vd.ownBlock with
    | none => exact .inl rfl
    | some k => exact .inr fun e => by cases e; have := (has_lt hwl _ hv).1; omega
  clear hlen
  go_wp2_with fail
  refine (pick_ok R _ 6 _ (rd_kept hR1 hb1) (by omega) (by decide)).mono ?_
  rintro e w2 ⟨k, rfl, hk, hR2, hg2⟩
  have hk6 : k < 6 := by omega
  obtain ⟨n, hn, hdn⟩ := pathN k hk6
  have hc := Hlen.out k hk6
  rw [hn] at hc
  have hc1 := hg2.cell hc (by simp; omega)
  have Hwl2 := hide (reads_grown Hwl.out hg2 (fun _ => hap))
  have hg02 := grown_trans' (grown_trans' hg1 (grown_of_kept hb1 _)) hg2
  clear hc hn hk hg2 hb1 hg1 hR1 Hlen hwl Hwl hap
  go_wp2_with fail
  refine (rowOf_any vd ws n _ Hwl2.out (by omega) hdn).mono ?_
  rintro e w3 ⟨vr, cs, p, rfl, hor, hcl, hokn, hb3⟩
  have hR3 := rd_kept hR2 hb3
  have hg03 := grown_trans' hg02 (grown_of_kept hb3 _)
  have Hor := hide (owns_reads hor)
  have hfz := hide (poFinP cs)
  have Hpo := hide (fun W hr => specPOC_ok vr cs W hr (by omega))
  unfold PoPostC at Hpo
  clear hor hokn hdn hb3 hR2 hc1 Hwl2
  go_wp2_with fail
  refine (Hpo.out _ Hor.out).mono ?_
  rintro e w4 ⟨vz, rfl, hz4, hb4, hcv0⟩
  have Hcv := hide hcv0
  clear hcv0
  have hR4 := rd_kept hR3 hb4
  have hg04 := grown_trans' hg03 (grown_of_kept hb4 _)
  have hz4' := has_base hz4 hg03.size
  have hne : (poRes cs).2 = true → 1 ≤ (poRes cs).1.length := poRes_ne cs
  have hle : (poRes cs).1.length ≤ 24 := poRes_le cs
  clear hb4 hR3 hg03 hz4 Hpo Hor
  obtain ⟨r, hr⟩ : ∃ r, poRes cs = r := ⟨_, rfl⟩
  rw [hr] at hfz hz4' hne hle ⊢
  clear hr
  obtain ⟨zs, q⟩ := r
  dsimp only at hfz hz4' hne hle ⊢
  have Hfin := hide hfz.out
  clear hfz
  cases p with
  | false =>
    clear hz4'
    have hbk := kept_new w4 (.cells #[] 46)
    have ho0 := World.ownsRow_lit (base := w.heap.size) (e := 46) (size := 1) w4 #[] 0 hg04.size (by decide) (by simp)
    have hszX := hg04.size
    go_wp2_with fail
    refine (pick_ok R _ 5 _ (rd_kept hR4 hbk) (by omega) (by decide)).mono ?_
    rintro e w6 ⟨m, rfl, hm, hR6, hg6⟩
    have hm5 : m < 5 := by omega
    have ho6 := ho0.kept hg6 (.inr (by simp [Value.ownBlock]; omega))
    have hg06 := grown_trans' (grown_trans' hg04 (grown_of_kept hbk _)) hg6
    have hR6' : Rd w6 R (N + 150) := rd_more hR6 (by omega)
    clear hm ho0 hbk hg6 hR4 hg04 hR6 Hfin hle hne
    go_wp2_with fail
    go_loopw [5, 8] (fun u i wr => ∃ (t : Nat) (zs : List (Nat × Nat)), t ≤ m + 1 ∧ i = .int .i64 t ∧ wr.ownsRow w.heap.size 46 1 u zs.length (cCells zs) ∧ zs.length = t ∧ Rd wr R (N + 150 + 2 * t) ∧ w.grownBy wr (some R) ∧ ∀ z ∈ zs, FinP z) (fun _ i _ => m + 1 - (intOf i).toNat)
    case atStart => exact ⟨0, [], by omega, rfl, ho6, by simp, hR6', hg06, by simp⟩
    case round =>
      obtain ⟨t, zs, ht, rfl, ho, hl, hRr, hgr, hfz⟩ := hrel
      have Hfz := hide hfz
      clear ho6 hR6' hg06 hfz
      by_cases hlt : t < m + 1
      · have hlt' : (t : Int) < 1 + (m : Int) := by omega
        go_wp2_with fail
        refine (pick_ok R _ 65 _ hRr (by omega) (by decide)).mono ?_
        rintro e w7 ⟨a, rfl, ha, hR7, hg7⟩
        have ha65 : a < 65 := by omega
        have hea := eight_ok a ha65
        have da : ∀ W, (binOp .quo 55 (.float .f32 (floatOfInt .f32 ((a : Int) - 32))) (.float .f32 1090519040)).run Try.prog W = .ok (.float .f32 (eightW a)) W := fun W => run_float_arith W .quo _ .f32 _ _ _ hea.1
        have Ha := hide hea.2
        clear hea
        generalize eightW a = xa at *
        go_wp2_with fail
        refine (pick_ok R _ 65 _ hR7 (by omega) (by decide)).mono ?_
        rintro e w8 ⟨b, rfl, hb, hR8, hg8⟩
        have hb65 : b < 65 := by omega
        have heb := sixteen_ok b hb65
        have db : ∀ W, (binOp .quo 55 (.float .f32 (floatOfInt .f32 ((b : Int) - 32))) (.float .f32 1098907648)).run Try.prog W = .ok (.float .f32 (sixteenW b)) W := fun W => run_float_arith W .quo _ .f32 _ _ _ heb.1
        have Hb := hide heb.2
        clear heb
        generalize sixteenW b = xb at *
        have ho8 := (ho.kept hg7 (hp_apart hR ho)).kept hg8 (hp_apart hR (ho.kept hg7 (hp_apart hR ho)))
        have hg08 := grown_trans' (grown_trans' hgr hg7) hg8
        have hsz8 := hg08.size
        clear ho hgr hg7 hg8 hRr hR7 ha hb
        go_wp2_with (at_builtin; refine wpList_append_one w8 rfl _ _ 26 rfl w.heap.size 46 i0 _ 1 8 Try.underlying26 hi hz0 hz1 hz2 rfl (by decide) _ _ _ rfl ho8 [.complex .f32 xa xb] _ _ rfl rfl (by simp [Value.oneCell']) (by omega) (by decide) hsz8 rfl (by simp) ?_)
        intro g9 cap9 w9 ho9 hg9 hr9
        have hR9 := rd_grown hR8 hg9 (fun k hk => Nat.lt_of_lt_of_le hRlt (hr9 k hk))
        have hg09 := grown_new hg08 hg9 hr9
        clear ho8 hg9 hr9 hR8 hg08
        go_wp2_with fail
        go_roundw
        case rel => exact ⟨t + 1, zs ++ [(xa, xb)], by omega, by go_num, by rw [← hl] at ho9 ⊢; simpa [cCells, cpx] using ho9, by simp; omega, rd_more hR9 (by omega), hg09, fun z hz => by
          rcases List.mem_append.1 hz with hz | hz
          · exact Hfz.out z hz
          · simp only [List.mem_singleton] at hz
            subst hz
            exact ⟨Ha.out, Hb.out⟩⟩
        case measure => simp [intOf]; omega
      · obtain rfl : t = m + 1 := by omega
        have hlt' : ¬ ((m + 1 : Nat) : Int) < 1 + (m : Int) := by omega
        have hnz : 1 ≤ zs.length := by omega
        have hle24 : zs.length ≤ 24 := by omega
        clear hl
        have hz5 := has_owns ho
        have hcv : ∃ A n c, u5 = .slice A n c ∧ n ≤ c := by
          rcases ho.2 with ⟨_, h0⟩ | ⟨g, cap, cur, h1, _, _, h3, _⟩
          · omega
          · exact ⟨_, _, _, h1, by omega⟩
        clear ho
        obtain ⟨g, cap, rfl⟩ : ∃ g cap, u5 = .slice (some ⟨g, 0, none⟩) zs.length cap := by
          rcases has_cases hz5 with ⟨_, h0⟩ | ⟨g, cap, h1, _⟩
          · omega
          · exact ⟨g, cap, h1⟩
        have hgB := (has_lt hz5 g rfl).1
        have hcp : zs.length ≤ cap := by
          obtain ⟨A, n, c, h1, h2⟩ := hcv
          simp only [Value.slice.injEq] at h1
          obtain ⟨_, rfl, rfl⟩ := h1
          exact h2
        clear hcv
        go_wp2_with fail
        refine (pick_ok R _ 24 _ hRr (by omega) (by decide)).mono ?_
        rintro e w8 ⟨q, rfl, hq, hR8, hg8⟩
        have hz8 := has_grown hz5 hg8 (.inr (by simp [Value.ownBlock]; omega))
        have hg08 := grown_trans' hgr hg8
        have hsz8 := hg08.size
        have hR9 : Rd w8 R (N + 200) := rd_more hR8 (by omega)
        clear hq hg8 hR8 hz5 hgr hRr
        have hneg : ∀ W, (Op.unary .neg (.float .f32 0)).run Try.prog W = .ok (.float .f32 2147483648) W := fun W => rfl
        have hmul : ∀ W, (binOp .mul 55 (.float .f32 2147483648) (.float .f32 1065353216)).run Try.prog W = .ok (.float .f32 2147483648) W := fun W => run_float_arith W .mul _ .f32 _ _ _ (by decide)
        have hst : ∀ (a : Addr) (x y : Nat) (m : Mode) (W : World), (store a (.complex .f32 x y) m).run Try.prog W = stored Try.prog W a (.complex .f32 x y) m := fun a x y m W => run_store Try.prog W a _ m rfl
        by_cases q0 : q = 0
        · subst q0
          have hoe := World.ownsRow_lit (base := w.heap.size) (e := 46) (size := 1) w8 #[] 0 hsz8 (by decide) (by simp)
          have hke := kept_new w8 (.cells #[] 46)
          have hge := grown_trans' hg08 (grown_of_kept hke (some R))
          have hRe := rd_kept hR9 hke
          clear hz8
          go_wp2_with fail
          go_ret
          exact ⟨_, [], rfl, has_owns hoe, by simp, .inl rfl, hRe, hge, _, _, _, rfl, Nat.le_refl _⟩
        have d0 : ((q : Int) == 0) = false := beq_eq_false_iff_ne.2 (by omega)
        obtain ⟨z0, zs', rfl⟩ : ∃ z0 zs', zs = z0 :: zs' := by
          cases zs with
          | nil => simp at hnz
          | cons z0 zs' => exact ⟨z0, zs', rfl⟩
        have hcf : w8.cell? ⟨g, 0, none⟩ = some (.complex .f32 z0.1 z0.2) ∧ w8.frozen? ⟨g, 0, none⟩ = false := by
          rcases has_cases hz8 with ⟨h', _⟩ | ⟨g', cap', h', _, _, _, h1, h2⟩
          · simp at h'
          · simp only [Value.slice.injEq, Option.some.injEq, Addr.mk.injEq, and_true, true_and] at h'
            obtain ⟨rfl, rfl⟩ := h'
            exact ⟨(h1 0 (by simp)).trans rfl, h2 0⟩
        obtain ⟨hc0, hf0⟩ := hcf
        have i1 : (0 : Int) < ((z0 :: zs').length : Int) := by simp
        have i2 : (0 : Int) < (zs'.length : Int) + 1 := by omega
        by_cases q1 : q = 1
        · subst q1
          obtain ⟨x, hx, hn⟩ := nan_quoP w8
          have Hs := hide (has_stored hz8 0 (.complex .f32 x 1065353216)).1
          have Hg := hide (grown_set hg08 (p := ⟨g, 0, none⟩) hgB (.complex .f32 x 1065353216))
          have Hr := hide (rd_set hR9 (p := ⟨g, 0, none⟩) (show R < g by omega) (.complex .f32 x 1065353216))
          have Hn := hide (nan_partP x hn)
          clear hz8 hn
          go_wp2_with fail
          go_ret
          exact ⟨_, (x, 1065353216) :: zs', rfl, has_kept Hs.out (kept_drew _), by simpa using hle24, .inl (nanPath Hn.out), rd_kept Hr.out (kept_drew _), grown_trans' Hg.out (grown_of_kept (kept_drew _) _), _, _, _, rfl, hcp⟩
        have d1 : ((q : Int) == 1) = false := beq_eq_false_iff_ne.2 (by omega)
        by_cases q2 : q = 2
        · subst q2
          have Hs := hide (has_stored hz8 0 (.complex .f32 2147483648 0)).1
          have Hg := hide (grown_set hg08 (p := ⟨g, 0, none⟩) hgB (.complex .f32 2147483648 0))
          have Hr := hide (rd_set hR9 (p := ⟨g, 0, none⟩) (show R < g by omega) (.complex .f32 2147483648 0))
          clear hz8
          go_wp2_with fail
          go_ret
          exact ⟨_, (2147483648, 0) :: zs', rfl, Hs.out, by simpa using hle24, .inr (fin_tail Hfz.out ⟨by decide, by decide⟩), Hr.out, Hg.out, _, _, _, rfl, hcp⟩
        have d2 : ((q : Int) == 2) = false := beq_eq_false_iff_ne.2 (by omega)
        by_cases q3 : q = 3
        · subst q3
          have Hs := hide (has_stored hz8 0 (.complex .f32 1167867904 0)).1
          have Hg := hide (grown_set hg08 (p := ⟨g, 0, none⟩) hgB (.complex .f32 1167867904 0))
          have Hr := hide (rd_set hR9 (p := ⟨g, 0, none⟩) (show R < g by omega) (.complex .f32 1167867904 0))
          clear hz8
          go_wp2_with fail
          go_ret
          exact ⟨_, (1167867904, 0) :: zs', rfl, Hs.out, by simpa using hle24, .inr (fin_tail Hfz.out ⟨by decide, by decide⟩), Hr.out, Hg.out, _, _, _, rfl, hcp⟩
        have d3 : ((q : Int) == 3) = false := beq_eq_false_iff_ne.2 (by omega)
        have Hh := hide hz8
        clear hz8 q0 q1 q2 q3
        go_wp2_with fail
        go_ret
        exact ⟨_, z0 :: zs', rfl, Hh.out, hle24, .inr Hfz.out, hR9, hg08, _, _, _, rfl, hcp⟩
  | true =>
    cases q with
    | false =>
      clear hz4'
      have hbk := kept_new w4 (.cells #[] 46)
      have ho0 := World.ownsRow_lit (base := w.heap.size) (e := 46) (size := 1) w4 #[] 0 hg04.size (by decide) (by simp)
      have hszX := hg04.size
      go_wp2_with fail
      refine (pick_ok R _ 5 _ (rd_kept hR4 hbk) (by omega) (by decide)).mono ?_
      rintro e w6 ⟨m, rfl, hm, hR6, hg6⟩
      have hm5 : m < 5 := by omega
      have ho6 := ho0.kept hg6 (.inr (by simp [Value.ownBlock]; omega))
      have hg06 := grown_trans' (grown_trans' hg04 (grown_of_kept hbk _)) hg6
      have hR6' : Rd w6 R (N + 150) := rd_more hR6 (by omega)
      clear hm ho0 hbk hg6 hR4 hg04 hR6 Hfin hle hne
      go_wp2_with fail
      go_loopw [5, 8] (fun u i wr => ∃ (t : Nat) (zs : List (Nat × Nat)), t ≤ m + 1 ∧ i = .int .i64 t ∧ wr.ownsRow w.heap.size 46 1 u zs.length (cCells zs) ∧ zs.length = t ∧ Rd wr R (N + 150 + 2 * t) ∧ w.grownBy wr (some R) ∧ ∀ z ∈ zs, FinP z) (fun _ i _ => m + 1 - (intOf i).toNat)
      case atStart => exact ⟨0, [], by omega, rfl, ho6, by simp, hR6', hg06, by simp⟩
      case round =>
        obtain ⟨t, zs, ht, rfl, ho, hl, hRr, hgr, hfz⟩ := hrel
        have Hfz := hide hfz
        clear ho6 hR6' hg06 hfz
        by_cases hlt : t < m + 1
        · have hlt' : (t : Int) < 1 + (m : Int) := by omega
          go_wp2_with fail
          refine (pick_ok R _ 65 _ hRr (by omega) (by decide)).mono ?_
          rintro e w7 ⟨a, rfl, ha, hR7, hg7⟩
          have ha65 : a < 65 := by omega
          have hea := eight_ok a ha65
          have da : ∀ W, (binOp .quo 55 (.float .f32 (floatOfInt .f32 ((a : Int) - 32))) (.float .f32 1090519040)).run Try.prog W = .ok (.float .f32 (eightW a)) W := fun W => run_float_arith W .quo _ .f32 _ _ _ hea.1
          have Ha := hide hea.2
          clear hea
          generalize eightW a = xa at *
          go_wp2_with fail
          refine (pick_ok R _ 65 _ hR7 (by omega) (by decide)).mono ?_
          rintro e w8 ⟨b, rfl, hb, hR8, hg8⟩
          have hb65 : b < 65 := by omega
          have heb := sixteen_ok b hb65
          have db : ∀ W, (binOp .quo 55 (.float .f32 (floatOfInt .f32 ((b : Int) - 32))) (.float .f32 1098907648)).run Try.prog W = .ok (.float .f32 (sixteenW b)) W := fun W => run_float_arith W .quo _ .f32 _ _ _ heb.1
          have Hb := hide heb.2
          clear heb
          generalize sixteenW b = xb at *
          have ho8 := (ho.kept hg7 (hp_apart hR ho)).kept hg8 (hp_apart hR (ho.kept hg7 (hp_apart hR ho)))
          have hg08 := grown_trans' (grown_trans' hgr hg7) hg8
          have hsz8 := hg08.size
          clear ho hgr hg7 hg8 hRr hR7 ha hb
          go_wp2_with (at_builtin; refine wpList_append_one w8 rfl _ _ 26 rfl w.heap.size 46 i0 _ 1 8 Try.underlying26 hi hz0 hz1 hz2 rfl (by decide) _ _ _ rfl ho8 [.complex .f32 xa xb] _ _ rfl rfl (by simp [Value.oneCell']) (by omega) (by decide) hsz8 rfl (by simp) ?_)
          intro g9 cap9 w9 ho9 hg9 hr9
          have hR9 := rd_grown hR8 hg9 (fun k hk => Nat.lt_of_lt_of_le hRlt (hr9 k hk))
          have hg09 := grown_new hg08 hg9 hr9
          clear ho8 hg9 hr9 hR8 hg08
          go_wp2_with fail
          go_roundw
          case rel => exact ⟨t + 1, zs ++ [(xa, xb)], by omega, by go_num, by rw [← hl] at ho9 ⊢; simpa [cCells, cpx] using ho9, by simp; omega, rd_more hR9 (by omega), hg09, fun z hz => by
            rcases List.mem_append.1 hz with hz | hz
            · exact Hfz.out z hz
            · simp only [List.mem_singleton] at hz
              subst hz
              exact ⟨Ha.out, Hb.out⟩⟩
          case measure => simp [intOf]; omega
        · obtain rfl : t = m + 1 := by omega
          have hlt' : ¬ ((m + 1 : Nat) : Int) < 1 + (m : Int) := by omega
          have hnz : 1 ≤ zs.length := by omega
          have hle24 : zs.length ≤ 24 := by omega
          clear hl
          have hz5 := has_owns ho
          have hcv : ∃ A n c, u5 = .slice A n c ∧ n ≤ c := by
            rcases ho.2 with ⟨_, h0⟩ | ⟨g, cap, cur, h1, _, _, h3, _⟩
            · omega
            · exact ⟨_, _, _, h1, by omega⟩
          clear ho
          obtain ⟨g, cap, rfl⟩ : ∃ g cap, u5 = .slice (some ⟨g, 0, none⟩) zs.length cap := by
            rcases has_cases hz5 with ⟨_, h0⟩ | ⟨g, cap, h1, _⟩
            · omega
            · exact ⟨g, cap, h1⟩
          have hgB := (has_lt hz5 g rfl).1
          have hcp : zs.length ≤ cap := by
            obtain ⟨A, n, c, h1, h2⟩ := hcv
            simp only [Value.slice.injEq] at h1
            obtain ⟨_, rfl, rfl⟩ := h1
            exact h2
          clear hcv
          go_wp2_with fail
          refine (pick_ok R _ 24 _ hRr (by omega) (by decide)).mono ?_
          rintro e w8 ⟨q, rfl, hq, hR8, hg8⟩
          have hz8 := has_grown hz5 hg8 (.inr (by simp [Value.ownBlock]; omega))
          have hg08 := grown_trans' hgr hg8
          have hsz8 := hg08.size
          have hR9 : Rd w8 R (N + 200) := rd_more hR8 (by omega)
          clear hq hg8 hR8 hz5 hgr hRr
          have hneg : ∀ W, (Op.unary .neg (.float .f32 0)).run Try.prog W = .ok (.float .f32 2147483648) W := fun W => rfl
          have hmul : ∀ W, (binOp .mul 55 (.float .f32 2147483648) (.float .f32 1065353216)).run Try.prog W = .ok (.float .f32 2147483648) W := fun W => run_float_arith W .mul _ .f32 _ _ _ (by decide)
          have hst : ∀ (a : Addr) (x y : Nat) (m : Mode) (W : World), (store a (.complex .f32 x y) m).run Try.prog W = stored Try.prog W a (.complex .f32 x y) m := fun a x y m W => run_store Try.prog W a _ m rfl
          by_cases q0 : q = 0
          · subst q0
            have hoe := World.ownsRow_lit (base := w.heap.size) (e := 46) (size := 1) w8 #[] 0 hsz8 (by decide) (by simp)
            have hke := kept_new w8 (.cells #[] 46)
            have hge := grown_trans' hg08 (grown_of_kept hke (some R))
            have hRe := rd_kept hR9 hke
            clear hz8
            go_wp2_with fail
            go_ret
            exact ⟨_, [], rfl, has_owns hoe, by simp, .inl rfl, hRe, hge, _, _, _, rfl, Nat.le_refl _⟩
          have d0 : ((q : Int) == 0) = false := beq_eq_false_iff_ne.2 (by omega)
          obtain ⟨z0, zs', rfl⟩ : ∃ z0 zs', zs = z0 :: zs' := by
            cases zs with
            | nil => simp at hnz
            | cons z0 zs' => exact ⟨z0, zs', rfl⟩
          have hcf : w8.cell? ⟨g, 0, none⟩ = some (.complex .f32 z0.1 z0.2) ∧ w8.frozen? ⟨g, 0, none⟩ = false := by
            rcases has_cases hz8 with ⟨h', _⟩ | ⟨g', cap', h', _, _, _, h1, h2⟩
            · simp at h'
            · simp only [Value.slice.injEq, Option.some.injEq, Addr.mk.injEq, and_true, true_and] at h'
              obtain ⟨rfl, rfl⟩ := h'
              exact ⟨(h1 0 (by simp)).trans rfl, h2 0⟩
          obtain ⟨hc0, hf0⟩ := hcf
          have i1 : (0 : Int) < ((z0 :: zs').length : Int) := by simp
          have i2 : (0 : Int) < (zs'.length : Int) + 1 := by omega
          by_cases q1 : q = 1
          · subst q1
            obtain ⟨x, hx, hn⟩ := nan_quoP w8
            have Hs := hide (has_stored hz8 0 (.complex .f32 x 1065353216)).1
            have Hg := hide (grown_set hg08 (p := ⟨g, 0, none⟩) hgB (.complex .f32 x 1065353216))
            have Hr := hide (rd_set hR9 (p := ⟨g, 0, none⟩) (show R < g by omega) (.complex .f32 x 1065353216))
            have Hn := hide (nan_partP x hn)
            clear hz8 hn
            go_wp2_with fail
            go_ret
            exact ⟨_, (x, 1065353216) :: zs', rfl, has_kept Hs.out (kept_drew _), by simpa using hle24, .inl (nanPath Hn.out), rd_kept Hr.out (kept_drew _), grown_trans' Hg.out (grown_of_kept (kept_drew _) _), _, _, _, rfl, hcp⟩
          have d1 : ((q : Int) == 1) = false := beq_eq_false_iff_ne.2 (by omega)
          by_cases q2 : q = 2
          · subst q2
            have Hs := hide (has_stored hz8 0 (.complex .f32 2147483648 0)).1
            have Hg := hide (grown_set hg08 (p := ⟨g, 0, none⟩) hgB (.complex .f32 2147483648 0))
            have Hr := hide (rd_set hR9 (p := ⟨g, 0, none⟩) (show R < g by omega) (.complex .f32 2147483648 0))
            clear hz8
            go_wp2_with fail
            go_ret
            exact ⟨_, (2147483648, 0) :: zs', rfl, Hs.out, by simpa using hle24, .inr (fin_tail Hfz.out ⟨by decide, by decide⟩), Hr.out, Hg.out, _, _, _, rfl, hcp⟩
          have d2 : ((q : Int) == 2) = false := beq_eq_false_iff_ne.2 (by omega)
          by_cases q3 : q = 3
          · subst q3
            have Hs := hide (has_stored hz8 0 (.complex .f32 1167867904 0)).1
            have Hg := hide (grown_set hg08 (p := ⟨g, 0, none⟩) hgB (.complex .f32 1167867904 0))
            have Hr := hide (rd_set hR9 (p := ⟨g, 0, none⟩) (show R < g by omega) (.complex .f32 1167867904 0))
            clear hz8
            go_wp2_with fail
            go_ret
            exact ⟨_, (1167867904, 0) :: zs', rfl, Hs.out, by simpa using hle24, .inr (fin_tail Hfz.out ⟨by decide, by decide⟩), Hr.out, Hg.out, _, _, _, rfl, hcp⟩
          have d3 : ((q : Int) == 3) = false := beq_eq_false_iff_ne.2 (by omega)
          have Hh := hide hz8
          clear hz8 q0 q1 q2 q3
          go_wp2_with fail
          go_ret
          exact ⟨_, z0 :: zs', rfl, Hh.out, hle24, .inr Hfz.out, hR9, hg08, _, _, _, rfl, hcp⟩
    | true =>
      have hne := hne rfl
      go_wp2_with fail
      refine (pick_ok R _ 3 _ hR4 (by omega) (by decide)).mono ?_
      rintro e w5 ⟨j, rfl, hj, hR5, hg5⟩
      have hapz : vz.ownBlock = none ∨ vz.ownBlock ≠ some R := by
        cases hv : vz.ownBlock with
        | none => exact .inl rfl
        | some k => exact .inr fun e => by cases e; have := (has_lt hz4' _ hv).1; omega
      have hz5 := has_grown hz4' hg5 hapz
      have hg05 := grown_trans' hg04 hg5
      clear hj hg5 hg04 hR4 hz4'
      by_cases hj0 : j = 0
      · subst hj0
        clear hz5 hapz
        have hbk := kept_new w5 (.cells #[] 46)
        have ho0 := World.ownsRow_lit (base := w.heap.size) (e := 46) (size := 1) w5 #[] 0 hg05.size (by decide) (by simp)
        have hszX := hg05.size
        go_wp2_with fail
        refine (pick_ok R _ 5 _ (rd_kept hR5 hbk) (by omega) (by decide)).mono ?_
        rintro e w6 ⟨m, rfl, hm, hR6, hg6⟩
        have hm5 : m < 5 := by omega
        have ho6 := ho0.kept hg6 (.inr (by simp [Value.ownBlock]; omega))
        have hg06 := grown_trans' (grown_trans' hg05 (grown_of_kept hbk _)) hg6
        have hR6' : Rd w6 R (N + 150) := rd_more hR6 (by omega)
        clear hm ho0 hbk hg6 hR5 hg05 hR6 Hfin hle hne
        go_wp2_with fail
        go_loopw [5, 8] (fun u i wr => ∃ (t : Nat) (zs : List (Nat × Nat)), t ≤ m + 1 ∧ i = .int .i64 t ∧ wr.ownsRow w.heap.size 46 1 u zs.length (cCells zs) ∧ zs.length = t ∧ Rd wr R (N + 150 + 2 * t) ∧ w.grownBy wr (some R) ∧ ∀ z ∈ zs, FinP z) (fun _ i _ => m + 1 - (intOf i).toNat)
        case atStart => exact ⟨0, [], by omega, rfl, ho6, by simp, hR6', hg06, by simp⟩
        case round =>
          obtain ⟨t, zs, ht, rfl, ho, hl, hRr, hgr, hfz⟩ := hrel
          have Hfz := hide hfz
          clear ho6 hR6' hg06 hfz
          by_cases hlt : t < m + 1
          · have hlt' : (t : Int) < 1 + (m : Int) := by omega
            go_wp2_with fail
            refine (pick_ok R _ 65 _ hRr (by omega) (by decide)).mono ?_
            rintro e w7 ⟨a, rfl, ha, hR7, hg7⟩
            have ha65 : a < 65 := by omega
            have hea := eight_ok a ha65
            have da : ∀ W, (binOp .quo 55 (.float .f32 (floatOfInt .f32 ((a : Int) - 32))) (.float .f32 1090519040)).run Try.prog W = .ok (.float .f32 (eightW a)) W := fun W => run_float_arith W .quo _ .f32 _ _ _ hea.1
            have Ha := hide hea.2
            clear hea
            generalize eightW a = xa at *
            go_wp2_with fail
            refine (pick_ok R _ 65 _ hR7 (by omega) (by decide)).mono ?_
            rintro e w8 ⟨b, rfl, hb, hR8, hg8⟩
            have hb65 : b < 65 := by omega
            have heb := sixteen_ok b hb65
            have db : ∀ W, (binOp .quo 55 (.float .f32 (floatOfInt .f32 ((b : Int) - 32))) (.float .f32 1098907648)).run Try.prog W = .ok (.float .f32 (sixteenW b)) W := fun W => run_float_arith W .quo _ .f32 _ _ _ heb.1
            have Hb := hide heb.2
            clear heb
            generalize sixteenW b = xb at *
            have ho8 := (ho.kept hg7 (hp_apart hR ho)).kept hg8 (hp_apart hR (ho.kept hg7 (hp_apart hR ho)))
            have hg08 := grown_trans' (grown_trans' hgr hg7) hg8
            have hsz8 := hg08.size
            clear ho hgr hg7 hg8 hRr hR7 ha hb
            go_wp2_with (at_builtin; refine wpList_append_one w8 rfl _ _ 26 rfl w.heap.size 46 i0 _ 1 8 Try.underlying26 hi hz0 hz1 hz2 rfl (by decide) _ _ _ rfl ho8 [.complex .f32 xa xb] _ _ rfl rfl (by simp [Value.oneCell']) (by omega) (by decide) hsz8 rfl (by simp) ?_)
            intro g9 cap9 w9 ho9 hg9 hr9
            have hR9 := rd_grown hR8 hg9 (fun k hk => Nat.lt_of_lt_of_le hRlt (hr9 k hk))
            have hg09 := grown_new hg08 hg9 hr9
            clear ho8 hg9 hr9 hR8 hg08
            go_wp2_with fail
            go_roundw
            case rel => exact ⟨t + 1, zs ++ [(xa, xb)], by omega, by go_num, by rw [← hl] at ho9 ⊢; simpa [cCells, cpx] using ho9, by simp; omega, rd_more hR9 (by omega), hg09, fun z hz => by
              rcases List.mem_append.1 hz with hz | hz
              · exact Hfz.out z hz
              · simp only [List.mem_singleton] at hz
                subst hz
                exact ⟨Ha.out, Hb.out⟩⟩
            case measure => simp [intOf]; omega
          · obtain rfl : t = m + 1 := by omega
            have hlt' : ¬ ((m + 1 : Nat) : Int) < 1 + (m : Int) := by omega
            have hnz : 1 ≤ zs.length := by omega
            have hle24 : zs.length ≤ 24 := by omega
            clear hl
            have hz5 := has_owns ho
            have hcv : ∃ A n c, u5 = .slice A n c ∧ n ≤ c := by
              rcases ho.2 with ⟨_, h0⟩ | ⟨g, cap, cur, h1, _, _, h3, _⟩
              · omega
              · exact ⟨_, _, _, h1, by omega⟩
            clear ho
            obtain ⟨g, cap, rfl⟩ : ∃ g cap, u5 = .slice (some ⟨g, 0, none⟩) zs.length cap := by
              rcases has_cases hz5 with ⟨_, h0⟩ | ⟨g, cap, h1, _⟩
              · omega
              · exact ⟨g, cap, h1⟩
            have hgB := (has_lt hz5 g rfl).1
            have hcp : zs.length ≤ cap := by
              obtain ⟨A, n, c, h1, h2⟩ := hcv
              simp only [Value.slice.injEq] at h1
              obtain ⟨_, rfl, rfl⟩ := h1
              exact h2
            clear hcv
            go_wp2_with fail
            refine (pick_ok R _ 24 _ hRr (by omega) (by decide)).mono ?_
            rintro e w8 ⟨q, rfl, hq, hR8, hg8⟩
            have hz8 := has_grown hz5 hg8 (.inr (by simp [Value.ownBlock]; omega))
            have hg08 := grown_trans' hgr hg8
            have hsz8 := hg08.size
            have hR9 : Rd w8 R (N + 200) := rd_more hR8 (by omega)
            clear hq hg8 hR8 hz5 hgr hRr
            have hneg : ∀ W, (Op.unary .neg (.float .f32 0)).run Try.prog W = .ok (.float .f32 2147483648) W := fun W => rfl
            have hmul : ∀ W, (binOp .mul 55 (.float .f32 2147483648) (.float .f32 1065353216)).run Try.prog W = .ok (.float .f32 2147483648) W := fun W => run_float_arith W .mul _ .f32 _ _ _ (by decide)
            have hst : ∀ (a : Addr) (x y : Nat) (m : Mode) (W : World), (store a (.complex .f32 x y) m).run Try.prog W = stored Try.prog W a (.complex .f32 x y) m := fun a x y m W => run_store Try.prog W a _ m rfl
            by_cases q0 : q = 0
            · subst q0
              have hoe := World.ownsRow_lit (base := w.heap.size) (e := 46) (size := 1) w8 #[] 0 hsz8 (by decide) (by simp)
              have hke := kept_new w8 (.cells #[] 46)
              have hge := grown_trans' hg08 (grown_of_kept hke (some R))
              have hRe := rd_kept hR9 hke
              clear hz8
              go_wp2_with fail
              go_ret
              exact ⟨_, [], rfl, has_owns hoe, by simp, .inl rfl, hRe, hge, _, _, _, rfl, Nat.le_refl _⟩
            have d0 : ((q : Int) == 0) = false := beq_eq_false_iff_ne.2 (by omega)
            obtain ⟨z0, zs', rfl⟩ : ∃ z0 zs', zs = z0 :: zs' := by
              cases zs with
              | nil => simp at hnz
              | cons z0 zs' => exact ⟨z0, zs', rfl⟩
            have hcf : w8.cell? ⟨g, 0, none⟩ = some (.complex .f32 z0.1 z0.2) ∧ w8.frozen? ⟨g, 0, none⟩ = false := by
              rcases has_cases hz8 with ⟨h', _⟩ | ⟨g', cap', h', _, _, _, h1, h2⟩
              · simp at h'
              · simp only [Value.slice.injEq, Option.some.injEq, Addr.mk.injEq, and_true, true_and] at h'
                obtain ⟨rfl, rfl⟩ := h'
                exact ⟨(h1 0 (by simp)).trans rfl, h2 0⟩
            obtain ⟨hc0, hf0⟩ := hcf
            have i1 : (0 : Int) < ((z0 :: zs').length : Int) := by simp
            have i2 : (0 : Int) < (zs'.length : Int) + 1 := by omega
            by_cases q1 : q = 1
            · subst q1
              obtain ⟨x, hx, hn⟩ := nan_quoP w8
              have Hs := hide (has_stored hz8 0 (.complex .f32 x 1065353216)).1
              have Hg := hide (grown_set hg08 (p := ⟨g, 0, none⟩) hgB (.complex .f32 x 1065353216))
              have Hr := hide (rd_set hR9 (p := ⟨g, 0, none⟩) (show R < g by omega) (.complex .f32 x 1065353216))
              have Hn := hide (nan_partP x hn)
              clear hz8 hn
              go_wp2_with fail
              go_ret
              exact ⟨_, (x, 1065353216) :: zs', rfl, has_kept Hs.out (kept_drew _), by simpa using hle24, .inl (nanPath Hn.out), rd_kept Hr.out (kept_drew _), grown_trans' Hg.out (grown_of_kept (kept_drew _) _), _, _, _, rfl, hcp⟩
            have d1 : ((q : Int) == 1) = false := beq_eq_false_iff_ne.2 (by omega)
            by_cases q2 : q = 2
            · subst q2
              have Hs := hide (has_stored hz8 0 (.complex .f32 2147483648 0)).1
              have Hg := hide (grown_set hg08 (p := ⟨g, 0, none⟩) hgB (.complex .f32 2147483648 0))
              have Hr := hide (rd_set hR9 (p := ⟨g, 0, none⟩) (show R < g by omega) (.complex .f32 2147483648 0))
              clear hz8
              go_wp2_with fail
              go_ret
              exact ⟨_, (2147483648, 0) :: zs', rfl, Hs.out, by simpa using hle24, .inr (fin_tail Hfz.out ⟨by decide, by decide⟩), Hr.out, Hg.out, _, _, _, rfl, hcp⟩
            have d2 : ((q : Int) == 2) = false := beq_eq_false_iff_ne.2 (by omega)
            by_cases q3 : q = 3
            · subst q3
              have Hs := hide (has_stored hz8 0 (.complex .f32 1167867904 0)).1
              have Hg := hide (grown_set hg08 (p := ⟨g, 0, none⟩) hgB (.complex .f32 1167867904 0))
              have Hr := hide (rd_set hR9 (p := ⟨g, 0, none⟩) (show R < g by omega) (.complex .f32 1167867904 0))
              clear hz8
              go_wp2_with fail
              go_ret
              exact ⟨_, (1167867904, 0) :: zs', rfl, Hs.out, by simpa using hle24, .inr (fin_tail Hfz.out ⟨by decide, by decide⟩), Hr.out, Hg.out, _, _, _, rfl, hcp⟩
            have d3 : ((q : Int) == 3) = false := beq_eq_false_iff_ne.2 (by omega)
            have Hh := hide hz8
            clear hz8 q0 q1 q2 q3
            go_wp2_with fail
            go_ret
            exact ⟨_, z0 :: zs', rfl, Hh.out, hle24, .inr Hfz.out, hR9, hg08, _, _, _, rfl, hcp⟩
      · have hj1 : ((j : Int) == 0) = false := beq_eq_false_iff_ne.2 (by omega)
        clear hj0
        have hcv := Hcv.out
        obtain ⟨g, cap, rfl⟩ : ∃ g cap, vz = .slice (some ⟨g, 0, none⟩) zs.length cap := by
          rcases has_cases hz5 with ⟨_, h0⟩ | ⟨g, cap, h1, _⟩
          · omega
          · exact ⟨g, cap, h1⟩
        have hgB := (has_lt hz5 g rfl).1
        have hcp : zs.length ≤ cap := by
          obtain ⟨A, n, c, h1, h2⟩ := hcv
          simp only [Value.slice.injEq] at h1
          obtain ⟨_, rfl, rfl⟩ := h1
          exact h2
        clear hcv
        go_wp2_with fail
        refine (pick_ok R _ 24 _ hR5 (by omega) (by decide)).mono ?_
        rintro e w8 ⟨q, rfl, hq, hR8, hg8⟩
        have hz8 := has_grown hz5 hg8 (.inr (by simp [Value.ownBlock]; omega))
        have hg08 := grown_trans' hg05 hg8
        have hsz8 := hg08.size
        have hR9 : Rd w8 R (N + 200) := rd_more hR8 (by omega)
        clear hq hg8 hR8 hz5 hg05 hR5
        have hneg : ∀ W, (Op.unary .neg (.float .f32 0)).run Try.prog W = .ok (.float .f32 2147483648) W := fun W => rfl
        have hmul : ∀ W, (binOp .mul 55 (.float .f32 2147483648) (.float .f32 1065353216)).run Try.prog W = .ok (.float .f32 2147483648) W := fun W => run_float_arith W .mul _ .f32 _ _ _ (by decide)
        have hst : ∀ (a : Addr) (x y : Nat) (m : Mode) (W : World), (store a (.complex .f32 x y) m).run Try.prog W = stored Try.prog W a (.complex .f32 x y) m := fun a x y m W => run_store Try.prog W a _ m rfl
        by_cases q0 : q = 0
        · subst q0
          have hoe := World.ownsRow_lit (base := w.heap.size) (e := 46) (size := 1) w8 #[] 0 hsz8 (by decide) (by simp)
          have hke := kept_new w8 (.cells #[] 46)
          have hge := grown_trans' hg08 (grown_of_kept hke (some R))
          have hRe := rd_kept hR9 hke
          clear hz8
          go_wp2_with fail
          go_ret
          exact ⟨_, [], rfl, has_owns hoe, by simp, .inl rfl, hRe, hge, _, _, _, rfl, Nat.le_refl _⟩
        have d0 : ((q : Int) == 0) = false := beq_eq_false_iff_ne.2 (by omega)
        obtain ⟨z0, zs', rfl⟩ : ∃ z0 zs', zs = z0 :: zs' := by
          cases zs with
          | nil => simp at hne
          | cons z0 zs' => exact ⟨z0, zs', rfl⟩
        have hcf : w8.cell? ⟨g, 0, none⟩ = some (.complex .f32 z0.1 z0.2) ∧ w8.frozen? ⟨g, 0, none⟩ = false := by
          rcases has_cases hz8 with ⟨h', _⟩ | ⟨g', cap', h', _, _, _, h1, h2⟩
          · simp at h'
          · simp only [Value.slice.injEq, Option.some.injEq, Addr.mk.injEq, and_true, true_and] at h'
            obtain ⟨rfl, rfl⟩ := h'
            exact ⟨(h1 0 (by simp)).trans rfl, h2 0⟩
        obtain ⟨hc0, hf0⟩ := hcf
        have i1 : (0 : Int) < ((z0 :: zs').length : Int) := by simp
        have i2 : (0 : Int) < (zs'.length : Int) + 1 := by omega
        by_cases q1 : q = 1
        · subst q1
          obtain ⟨x, hx, hn⟩ := nan_quoP w8
          have Hs := hide (has_stored hz8 0 (.complex .f32 x 1065353216)).1
          have Hg := hide (grown_set hg08 (p := ⟨g, 0, none⟩) hgB (.complex .f32 x 1065353216))
          have Hr := hide (rd_set hR9 (p := ⟨g, 0, none⟩) (show R < g by omega) (.complex .f32 x 1065353216))
          have Hn := hide (nan_partP x hn)
          clear hz8 hn
          go_wp2_with fail
          go_ret
          exact ⟨_, (x, 1065353216) :: zs', rfl, has_kept Hs.out (kept_drew _), by simpa using hle, .inl (nanPath Hn.out), rd_kept Hr.out (kept_drew _), grown_trans' Hg.out (grown_of_kept (kept_drew _) _), _, _, _, rfl, hcp⟩
        have d1 : ((q : Int) == 1) = false := beq_eq_false_iff_ne.2 (by omega)
        by_cases q2 : q = 2
        · subst q2
          have Hs := hide (has_stored hz8 0 (.complex .f32 2147483648 0)).1
          have Hg := hide (grown_set hg08 (p := ⟨g, 0, none⟩) hgB (.complex .f32 2147483648 0))
          have Hr := hide (rd_set hR9 (p := ⟨g, 0, none⟩) (show R < g by omega) (.complex .f32 2147483648 0))
          clear hz8
          go_wp2_with fail
          go_ret
          exact ⟨_, (2147483648, 0) :: zs', rfl, Hs.out, by simpa using hle, .inr (fin_tail Hfin.out ⟨by decide, by decide⟩), Hr.out, Hg.out, _, _, _, rfl, hcp⟩
        have d2 : ((q : Int) == 2) = false := beq_eq_false_iff_ne.2 (by omega)
        by_cases q3 : q = 3
        · subst q3
          have Hs := hide (has_stored hz8 0 (.complex .f32 1167867904 0)).1
          have Hg := hide (grown_set hg08 (p := ⟨g, 0, none⟩) hgB (.complex .f32 1167867904 0))
          have Hr := hide (rd_set hR9 (p := ⟨g, 0, none⟩) (show R < g by omega) (.complex .f32 1167867904 0))
          clear hz8
          go_wp2_with fail
          go_ret
          exact ⟨_, (1167867904, 0) :: zs', rfl, Hs.out, by simpa using hle, .inr (fin_tail Hfin.out ⟨by decide, by decide⟩), Hr.out, Hg.out, _, _, _, rfl, hcp⟩
        have d3 : ((q : Int) == 3) = false := beq_eq_false_iff_ne.2 (by omega)
        have Hh := hide hz8
        clear hz8 q0 q1 q2 q3
        go_wp2_with fail
        go_ret
        exact ⟨_, z0 :: zs', rfl, Hh.out, hle, .inr Hfin.out, hR9, hg08, _, _, _, rfl, hcp⟩

end Go.Proofs.Ytnlmiemnblppbaa
