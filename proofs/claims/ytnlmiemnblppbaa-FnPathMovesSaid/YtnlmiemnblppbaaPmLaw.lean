/-
  Moves lead to the last point: the law FnPathMoves answers true at every code. No condition.
-/
import Derived.Test.YtnlmiemnblppbaaHp
import Derived.Test.YtnlmiemnblppbaaPq
import Derived.Test.YtnlmiemnblppbaaRc
namespace Go.Proofs.Ytnlmiemnblppbaa
open Go.ChangeShapes Go.WideShapes Go.ChangeAt Go.RowKit

/-- What is drawn: a path and a number. -/
def DrPM (w : World) (e : Ending) (w' : World) : Prop :=
  ∃ v zs g, e = .returned (.tuple #[v, .int .i64 g]) ∧ Has w' w.heap.size 1 v zs.length (cCells zs) ∧ zs.length ≤ 24 ∧ (-10 ≤ g ∧ g ≤ 8) ∧ Below w.heap.size w w' ∧ ∃ A n c, v = .slice A n c ∧ n ≤ c

set_option maxHeartbeats 1000000 in
theorem drawPM_ok (A : Option Addr) (c : Nat) (bs : List Int) (w : World) (hc : CodeIn w A c bs) : Calls Try.prog 38 #[.slice A bs.length c] w (DrPM w) := by
  have H := hide hc
  clear hc
  go_enter Try.func38, Try.ntmps38
  go_wp2_with fail
  refine (l6Open_ok A c bs _ H.out.1 H.out.2.1 H.out.2.2.1 H.out.2.2.2).mono ?_
  rintro e w1 ⟨R, rfl, hR, hR1, hb1⟩
  go_wp2_with fail
  refine (l92Path_ok R 0 _ hR1 (by decide)).mono ?_
  rintro e w2 ⟨v, zs, rfl, hh, hl, _, hR2, hg2, hcv⟩
  have Hcv := hide hcv
  clear hcv
  have hRlt := rd_lt hR1
  have hap : v.ownBlock = none ∨ v.ownBlock ≠ some R := by
    cases hv : v.ownBlock with
    | none => exact .inl rfl
    | some k => exact .inr fun e => by cases e; have := (has_lt hh _ hv).1; omega
  go_wp2_with fail
  refine (pick_ok R _ 9 _ hR2 (by decide) (by decide)).mono ?_
  rintro e w3 ⟨a, rfl, ha, hR3, hg3⟩
  have ha9 : a < 9 := by omega
  have hh3 := has_grown hh hg3 hap
  go_wp2_with fail
  refine (pick_ok R _ 20 _ hR3 (by decide) (by decide)).mono ?_
  rintro e w4 ⟨b, rfl, hb, hR4, hg4⟩
  have hb20 : b < 20 := by omega
  have hh4 := has_grown hh3 hg4 hap
  have hb04 := kept_of_new hb1 (grown_trans' (grown_trans' hg2 hg3) hg4) hR
  have hh5 := has_base hh4 hb1.size
  obtain ⟨q, hq, hq2⟩ : ∃ q : Nat, ((b : Int)).tdiv 19 = q ∧ q ≤ 1 := ⟨b / 19, by rw [Int.tdiv_eq_ediv_of_nonneg (by omega)]; omega, by omega⟩
  clear ha hb hh hh3 hh4 hg2 hg3 hg4 hR1 hR2 hR3 hR4 hb1 hap
  go_wp2_with fail
  go_ret2
  exact ⟨v, zs, _, rfl, hh5, hl, ⟨by omega, by omega⟩, hb04, Hcv.out⟩

theorem pathOk_take {zs : List (Nat × Nat)} {K : Nat} (h : pathOk zs = true) (h1 : 1 ≤ K) (h2 : K ≤ zs.length) : pathOk (zs.take K) = true := by
  simp only [pathOk, Bool.and_eq_true, decide_eq_true_eq, List.all_eq_true] at h ⊢
  refine ⟨⟨by simp; omega, by simp; omega⟩, fun z hz => h.2 z (List.mem_of_mem_take hz)⟩

theorem reads_cut {w : World} {A : Option Addr} {c n K size : Nat} {xs : List Value} (h : Reads w size (.slice A n c) n xs) (hK : K ≤ n) : Reads w size (.slice A K c) K (xs.take (K * size)) := by
  obtain ⟨hx, hm, A', c', hv, hc⟩ := h
  obtain ⟨rfl, rfl⟩ : A = A' ∧ c = c' := by simpa using hv
  have hle : K * size ≤ n * size := Nat.mul_le_mul_right _ hK
  refine ⟨by rw [List.length_take, hx]; omega, by omega, A, c, rfl, fun h0 hs => ?_⟩
  obtain ⟨b, o, hA, hb, hcell⟩ := hc (by omega) hs
  refine ⟨b, o, hA, hb, fun j hj => ?_⟩
  rw [hcell j (by omega), List.getElem?_take_of_lt hj]

theorem mvCells_take (ms : List (Int × Int)) : ∀ K, (mvCells ms).take (K * 2) = mvCells (ms.take K) := by
  induction ms with
  | nil => intro K; simp [mvCells]
  | cons m ms ih =>
    intro K
    cases K with
    | zero => rfl
    | succ K =>
      rw [show (K + 1) * 2 = K * 2 + 1 + 1 from by omega]
      show (.int .i64 m.1 :: .int .i64 m.2 :: mvCells ms).take (K * 2 + 1 + 1) = .int .i64 m.1 :: .int .i64 m.2 :: mvCells (ms.take K)
      rw [List.take_succ_cons, List.take_succ_cons, ih K]

theorem difs_in (P : Nat → Int × Int) (n : Nat) (hn : n ≤ 100) (h : ∀ i, (-4194305 ≤ (P i).1 ∧ (P i).1 ≤ 4194305) ∧ -4194305 ≤ (P i).2 ∧ (P i).2 ≤ 4194305) : mvsIn (dif P n) = true := by
  simp only [mvsIn, Bool.and_eq_true, List.all_eq_true, decide_eq_true_eq, dif_len]
  refine ⟨hn, fun m hm => ?_⟩
  simp only [dif, List.mem_map, List.mem_range] at hm
  obtain ⟨i, _, rfl⟩ := hm
  have h1 := h i
  have h2 := h (i + 1)
  unfold mvIn
  dsimp only
  omega

theorem mv_dif (P : Nat → Int × Int) (h0 : P 0 = (0, 0)) (n : Nat) : mvX (dif P n) (dif P n).length = (P n).1 ∧ mvY (dif P n) (dif P n).length = (P n).2 := by
  unfold mvX mvY
  rw [List.take_length]
  exact dif_sum P h0 n

set_option maxRecDepth 100000 in
set_option maxHeartbeats 4000000 in
theorem lawPathMoves (A : Option Addr) (c : Nat) (bs : List Int) (w : World) (hcode : CodeIn w A c bs) :
    Calls Try.prog 9 #[.slice A bs.length c] w fun e w' => e = .returned (.bool true) ∧ Below w.heap.size w w' := by
  have Hcode := hide hcode
  have hm := hcode.1.2.1
  clear hcode
  by_cases hbig : 1048576 < bs.length
  · go_enter Try.func9, Try.ntmps9
    go_wp2
    go_ret
    exact ⟨rfl, Below.refl _ _⟩
  · go_enter Try.func9, Try.ntmps9
    go_wp2_with fail
    refine (drawPM_ok A c bs _ Hcode.out).mono ?_
    rintro e w1 ⟨v, zs, g, rfl, hh, hl, hg, hb1, hcv⟩
    have Hcv := hide hcv
    clear hcv hm hbig Hcode
    have Hr := hide (has_reads hh)
    clear hh
    by_cases hbad : pathOk zs = false ∨ ¬ (0 ≤ g ∧ g ≤ 8)
    · have Hi := hide (fun w hr => implPMf_ok v zs g w hr hbad)
      have Hs := hide (fun w hr => specPMf_ok v zs g w hr hbad)
      have Hn := hide (fun w : World => (⟨rfl, by decide, none, 0, rfl, fun h => absurd h (by decide)⟩ : Reads w 2 (.slice none 0 0) 0 (mvCells [])))
      clear hbad hg Hcv hl
      go_wp2_with fail
      refine (Hi.out _ Hr.out).mono ?_
      rintro e w2 ⟨rfl, rfl⟩
      go_wp2_with fail
      refine (Hs.out _ Hr.out).mono ?_
      rintro e w2 ⟨⟨v2, rfl, ho2⟩, hb2⟩
      have Hr2 := hide (has_reads ho2)
      have hb02 := kept_trans hb1 hb2
      clear ho2 hb1 hb2 Hr
      go_wp2_with fail
      refine (sameMovesP_ok _ _ [] _ (Hn.out _) Hr2.out).mono ?_
      rintro e w3 ⟨rfl, hb3⟩
      go_wp2_with fail
      refine (sameMovesP_ok _ _ [] _ (Hn.out _) (reads_kept Hr2.out hb3)).mono ?_
      rintro e w4 ⟨rfl, hb4⟩
      go_wp2_with fail
      go_ret
      exact ⟨by simp, kept_trans (kept_trans hb02 hb3) hb4⟩
    · obtain ⟨G, rfl⟩ : ∃ G : Nat, g = G := ⟨g.toNat, by omega⟩
      have hp : pathOk zs = true := by
        cases h : pathOk zs with
        | true => rfl
        | false => exact absurd (.inl h) hbad
      have hG : G ≤ 8 := by
        by_cases h : G ≤ 8
        · exact h
        · exact absurd (.inr (fun h2 => h (by omega))) hbad
      have hbd := pathP_bd hp hG
      have hn1 : 1 ≤ zs.length := by
        simp only [pathOk, Bool.and_eq_true, decide_eq_true_eq] at hp
        exact hp.1.1
      have wide : ∀ i, (-10000000 ≤ (pathP zs G i).1 ∧ (pathP zs G i).1 ≤ 10000000) ∧ -10000000 ≤ (pathP zs G i).2 ∧ (pathP zs G i).2 ≤ 10000000 := by
        intro i
        have := hbd i
        exact ⟨⟨by omega, by omega⟩, by omega, by omega⟩
      have Hi := hide (fun w hr => implPMC_ok v zs G (pathP zs G) w hr hp hG rfl (fun i _ => wide i) (fun i h => pathP_grid hp hG i h))
      have Hs := hide (fun w hr => specPM_ok v zs G (pathP zs G) w hr hp hG rfl (fun i _ => wide i) (fun i h => pathP_grid hp hG i h))
      obtain ⟨K, hK⟩ : ∃ K, zs.length = K + 1 := ⟨zs.length - 1, by omega⟩
      have hKl : K < zs.length := by omega
      have hlast := pathP_at G hKl
      have hzc := cCells_get zs K hKl
      have hptz := path_pt hp (List.getElem_mem hKl)
      obtain ⟨z, hzz⟩ : ∃ z, zs[K]'hKl = z := ⟨_, rfl⟩
      rw [hzz] at hlast hzc hptz
      clear hzz hKl
      have Hgp := hide (fun w => implGPt_ok z G w hptz hG)
      have Hpre : Hid (∀ A c w (hr : Reads w 1 (.slice A K c) K (cCells (zs.take K))), 1 ≤ K → Calls Try.prog 14 #[.slice A K c, .int .i64 G] w fun e w' => e = .returned (.tuple #[.slice (some ⟨w.heap.size, 0, none⟩) K K, .bool true]) ∧ Has w' w.heap.size 2 (.slice (some ⟨w.heap.size, 0, none⟩) K K) K (mvCells (dif (pathP zs G) K)) ∧ Below w.heap.size w w') := by
        intro A c w hr h1
        have hp2 := pathOk_take hp h1 (show K ≤ zs.length by omega)
        have hlk : (zs.take K).length = K := by simp; omega
        have e := dif_congr (n := K) (P := pathP (zs.take K) G) (Q := pathP zs G) (fun i hi => pathP_take G (by omega) i hi)
        have := implPMC_ok (.slice A K c) (zs.take K) G (pathP (zs.take K) G) w (by rw [hlk]; exact hr) hp2 hG rfl (fun i _ => by
          have := pathP_bd hp2 hG i
          exact ⟨⟨by omega, by omega⟩, by omega, by omega⟩) (fun i h => pathP_grid hp2 hG i h)
        rw [hlk, e] at this
        exact this
      have hsum := mv_dif (pathP zs G) rfl zs.length
      have Hre := hide (fun v w hr => reached_ok v (dif (pathP zs G) zs.length) w hr (difs_in _ _ (by omega) hbd))
      rw [hsum.1, hsum.2] at Hre
      rw [dif_len] at Hre
      have hr := Hr.out
      obtain ⟨_, _, A1, c1, rfl, hc1⟩ := hr
      have hcp : zs.length ≤ c1 := by
        obtain ⟨A, n, c, h1, h2⟩ := Hcv.out
        simp only [Value.slice.injEq] at h1
        obtain ⟨_, rfl, rfl⟩ := h1
        exact h2
      obtain ⟨b, o, rfl, hbl, hcell⟩ := hc1 (by omega) (by omega)
      have hz := (hcell K (by omega)).trans hzc
      have Hz := hide hz
      have hK30 : K ≤ 30 := by omega
      have hPK : pathP zs G zs.length = (unitN z.1 G, unitN z.2 G) := by rw [← hlast, hK]
      rw [hPK] at Hre
      have hone : Hid (K = 0 → mvCells (dif (pathP zs G) zs.length) = [.int .i64 (unitN z.1 G), .int .i64 (unitN z.2 G)]) := by
        intro h0
        have hl1 : zs.length = 0 + 1 := by omega
        rw [hl1, dif_succ]
        rw [hl1] at hPK
        rw [hPK]
        simp [dif, mvCells, pathP]
      have htk : Hid ((mvCells (dif (pathP zs G) zs.length)).take (K * 2) = mvCells (dif (pathP zs G) K)) := by
        show _ = _
        rw [mvCells_take, dif_take _ _ _ (by omega)]
      have htz : Hid ((cCells zs).take (K * 1) = cCells (zs.take K)) := by
        show _ = _
        rw [Nat.mul_one]
        simp [cCells, List.map_take]
      have hdl : ∀ n, (dif (pathP zs G) n).length = n := fun n => dif_len _ n
      have Hsame : Hid (∀ n v v' w, Reads w 2 v n (mvCells (dif (pathP zs G) n)) → Reads w 2 v' n (mvCells (dif (pathP zs G) n)) → Calls Try.prog 15 #[v, v'] w fun e w' => e = .returned (.bool true) ∧ Below w.heap.size w w') := by
        intro n v v' w h1 h2
        have := sameMovesP_ok v v' (dif (pathP zs G) n) w
        rw [hdl] at this
        exact this h1 h2
      have hlK : zs.length = K + 1 := hK
      have Hds := hide (show (dif (pathP zs G) zs.length).length = zs.length from hdl _)
      clear hbad hg Hcv hl hbd wide hlast hsum hc1 hcell hPK hdl hp hK hz hn1 hzc hptz
      generalize dif (pathP zs G) = D at *
      generalize unitN z.1 G = X at *
      generalize unitN z.2 G = Y at *
      obtain ⟨zx, zy⟩ := z
      dsimp only at Hgp Hz
      have HlK := hide hlK
      have Hcp := hide hcp
      clear hlK hcp
      go_wp2_with fail
      refine (Hi.out _ Hr.out).mono ?_
      rintro e w2 ⟨rfl, ho2, hb2⟩
      have Hr2 := hide (reads_kept Hr.out hb2)
      have Hz2 := hide ((hb2.cell (p := ⟨b, o + K, none⟩) hbl).trans Hz.out)
      have hb02 := kept_trans hb1 hb2
      have hgl := (has_lt ho2 _ rfl).1
      have hgl2 := (has_lt ho2 _ rfl).2
      dsimp only [Value.ownBlock] at hgl hgl2
      have hbl2 : b < w2.heap.size := by have := hb2.size; omega
      clear hb1 hb2 Hr Hz hbl Hi
      generalize w1.heap.size = g1 at *
      go_wp2_with fail
      refine (Hs.out _ Hr2.out).mono ?_
      rintro e w3 ⟨⟨v3, rfl, ho3⟩, hb3⟩
      have Ho2 := hide (has_reads (has_kept ho2 hb3))
      have Ho3 := hide (has_reads ho3)
      have Hr3 := hide (reads_kept Hr2.out hb3)
      have Hz3 := hide ((hb3.cell (p := ⟨b, o + K, none⟩) hbl2).trans Hz2.out)
      have hbl3 : b < w3.heap.size := by have := hb3.size; omega
      have hb03 := kept_trans hb02 hb3
      clear ho2 ho3 hb3 hb02 Hr2 Hz2 hbl2 Hs
      go_wp2_with fail
      refine (Hsame.out _ _ _ _ Ho2.out Ho3.out).mono ?_
      rintro e w4 ⟨rfl, hb4⟩
      have Ho4 := hide (reads_kept Ho2.out hb4)
      have Hr4 := hide (reads_kept Hr3.out hb4)
      have hz4 := (hb4.cell (p := ⟨b, o + K, none⟩) hbl3).trans Hz3.out
      have hb04 := kept_trans hb03 hb4
      clear Ho2 Ho3 Hr3 Hz3 hb4 hb03 hbl3
      have hlK := HlK.out
      have i1 : (0 : Int) ≤ (K : Int) := by omega
      have i2 : (K : Int) < (zs.length : Int) := by omega
      have i3 : IntKind.i64.wrap ((zs.length : Int) - 1) = (K : Int) := by rw [show (zs.length : Int) - 1 = (K : Int) from by omega]; exact IntWalk.i64_in _ (by have h9 := hK30; omega)
      clear hlK
      go_wp2_with fail
      refine (Hgp.out _).mono ?_
      rintro e w5 ⟨rfl, hb5⟩
      have Ho5 := hide (reads_kept Ho4.out hb5)
      have Hr5 := hide (reads_kept Hr4.out hb5)
      have hb05 := kept_trans hb04 hb5
      clear Ho4 Hr4 hz4 hb5 hb04 Hgp
      have hka := kept_new w5 (.cells #[.int .i64 X, .int .i64 Y] 31)
      have n0 : (w5.alloc (.cells #[.int .i64 X, .int .i64 Y] 31)).cell? ⟨w5.heap.size, 0, none⟩ = some (.int .i64 X) := by go_simp
      have n1 : (w5.alloc (.cells #[.int .i64 X, .int .i64 Y] 31)).cell? ⟨w5.heap.size, 1, none⟩ = some (.int .i64 Y) := by go_simp
      have hb06 := kept_trans hb05 hka
      have Ho6 := hide (reads_kept Ho5.out hka)
      have Hr6 := hide (reads_kept Hr5.out hka)
      have heq : ∀ W, (binOp .eql 31 (.agg #[.int .i64 X, .int .i64 Y]) (.agg #[.int .i64 X, .int .i64 Y])).run Try.prog W = .ok (.bool true) W := fun W => by go_simp
      clear Ho5 Hr5 hb05 hka
      generalize hwa : w5.alloc (.cells #[.int .i64 X, .int .i64 Y] 31) = wa at *
      have hlK := HlK.out
      by_cases h0 : K = 0
      · subst h0
        have ho6 := Ho6.out
        rw [hone.out rfl] at ho6
        obtain ⟨_, _, A2, c2, hv2, hc2⟩ := ho6
        simp only [Value.slice.injEq, true_and] at hv2
        obtain ⟨rfl, rfl⟩ := hv2
        obtain ⟨b2, o2, hA2, hbl2, hcell2⟩ := hc2 (by omega) (by omega)
        simp only [Option.some.injEq, Addr.mk.injEq, and_true] at hA2
        obtain ⟨rfl, rfl⟩ := hA2
        have p0 : wa.cell? ⟨g1, 0, none⟩ = some (.int .i64 X) := (hcell2 0 (by omega)).trans rfl
        have p1 : wa.cell? ⟨g1, 1, none⟩ = some (.int .i64 Y) := (hcell2 1 (by omega)).trans rfl
        have j1 : (zs.length : Int) = 1 := by omega
        have j2 : (0 : Int) < (zs.length : Int) := by omega
        clear hc2 hcell2 hbl2 hlK i2 i3
        go_wp2_with fail
        go_quiet (fail)
        go_wp2_with fail
        go_ret
        exact ⟨by simp [*], kept_trans hb06 (kept_drewN _ _)⟩
      · have j1 : ((zs.length : Int) == 1) = false := beq_eq_false_iff_ne.2 (by omega)
        have j2 : ¬ (zs.length : Int) = 1 := by omega
        have j3 : (zs.length : Int) - 1 = (K : Int) := by omega
        have j4 : (K : Int) ≤ (c1 : Int) := by have := Hcp.out; omega
        have j5 : K ≤ c1 := by have := Hcp.out; omega
        have hkn : K ≤ zs.length := by omega
        have j6 : (K : Int) ≤ (zs.length : Int) := by omega
        have hr6 := reads_cut Hr6.out hkn
        rw [htz.out] at hr6
        have Hp7 := hide (Hpre.out _ _ _ hr6 (by omega))
        have ho7 := reads_cut Ho6.out hkn
        rw [htk.out] at ho7
        have Hcut := hide ho7
        clear hlK hr6 ho7 hone htk htz
        go_wp2_with fail
        refine Hp7.out.mono ?_
        rintro e w7 ⟨rfl, ho7, hb7⟩
        replace n0 := kept_cell hb7 n0
        replace n1 := kept_cell hb7 n1
        have hb07 := kept_trans hb06 hb7
        have Ho8 := hide (reads_kept (reads_kept Ho6.out hb7) (kept_drew w7))
        have Hc8 := hide (reads_kept (reads_kept Hcut.out hb7) (kept_drew w7))
        have Hl8 := hide (reads_kept (has_reads ho7) (kept_drew w7))
        clear ho7 hb7 hb06 Ho6 Hcut Hr6 hwa Hp7 Hpre
        have i8 : IntKind.i64.wrap (K : Int) = (K : Int) := IntWalk.i64_in _ (by have h9 := hK30; omega)
        go_wp2_with fail
        go_region_held3 (fun w' => w'.cell? ⟨w5.heap.size, 0, none⟩ = some (.int .i64 X) ∧ w'.cell? ⟨w5.heap.size, 1, none⟩ = some (.int .i64 Y))
          (first | go_keep | (go_split_ands; exact ⟨kept_cell hb9 (kept_cell hb8 (kept_cell (kept_drew w7) n0)), kept_cell hb9 (kept_cell hb8 (kept_cell (kept_drew w7) n1))⟩) | (go_split_ands; exact ⟨kept_cell hb8 (kept_cell (kept_drew w7) n0), kept_cell hb8 (kept_cell (kept_drew w7) n1)⟩))
          (first
            | (go_at_call 41; refine (Hre.out _ _ Ho8.out).mono ?_; rintro e w8 ⟨rfl, hb8⟩)
            | (go_at_call 15; refine (Hsame.out K _ _ _ (reads_kept Hl8.out hb8) (reads_kept Hc8.out hb8)).mono ?_; rintro e w9 ⟨rfl, hb9⟩))
        go_wp2_with fail
        go_ret
        exact ⟨by simp, kept_trans (kept_trans (kept_trans hb07 (kept_drew _)) hb8) hb9⟩

theorem Try.own : ownKnob Try.prog.godebug = none := by kernel_rfl
theorem Try.laidOut : laidOutB Try.prog = true := by kernel_rfl

set_option maxRecDepth 100000 in
theorem fnPathMoves_lifted (os : Os) (started : os.Started) (H : Type) (enc : TypeId × Value → H) :
    ReturnsInHanded {} Try.checked os 9 .any (Rows.fnPathMovesSpec.pre6 enc Try.prog Try.f9 Rows.fnPathMovesRow.domain false) (Rows.fnPathMovesSpec.post enc Try.prog Try.f9 false true false false) := by
  refine returnsInHanded_of_change (C := Try.checked) Try.own started (by kernel_rfl) Try.func9
    (ChangeSpec.witness6 (enc := enc) (C := Try.checked) false ⟨#[], #[.slice none 0 0], []⟩ 8 (by kernel_rfl) (by kernel_rfl) (by kernel_rfl) (by kernel_rfl)) ?_
  intro W base args ds gs before hval0 hW hcnd _
  have hval : ∀ (j : Nat) t v, Try.f9.params[j]? = some t → args[j]? = some v → Value.okWide Try.prog W .any base t v := hval0
  have hW' := hW
  obtain ⟨p, q, hA0, hV, rfl, hfz, hnd⟩ := hW
  have hA : DataW.TrodAll enc Try.prog W 0 (fun _ => true) true Try.f9.params.toList args.toList ds p := hA0
  rw [Try.params9] at hA hval
  obtain ⟨v0, d0, rfl, rfl, h0⟩ := trodAll_one hA
  obtain ⟨rfl, rfl⟩ := trodVars_none hV
  have h0k := h0
  obtain ⟨a0, len, cap, rfl⟩ := okWide_slice Try.underlying22 (hval 0 22 v0 rfl rfl)
  obtain ⟨fuel, hf⟩ := h0
  obtain ⟨A, c, bs, hv, hr⟩ := open_bytes Try.underlying22 Try.underlying5 (by kernel_rfl) hf
  rw [hv] at h0k hval hf ⊢
  clear hA0 hval0
  simp only [List.append_nil] at hW'
  rw [hv] at hW'
  refine (lawPathMoves A c bs W hr).mono fun e W' ⟨he, hb⟩ => ?_
  subst he
  exact ⟨_, rfl, _, _, _, [], _, [], hW', trodAll_mk1 (shut_bool Try.underlying4 _), trodAll_mk1 (Below.trod Try.laidOut (by kernel_rfl) (of_decide_eq_true (by kernel_rfl)) h0k hb (fun x hx => by simpa using hW'.lt x hx)), rfl, hb.frame _, fun h => by cases h⟩

theorem fnPathMoves_holds : Rows.FnPathMovesSaid :=
  OpenClaim.holds_of_wide 9 Try.f9 rfl rfl rfl rfl rfl rfl rfl ⟨rfl, rfl, rfl, rfl, rfl⟩ rfl rfl rfl rfl rfl (by kernel_rfl) Try.func9 (by kernel_rfl)
    (of_decide_eq_true (by kernel_rfl)) (by unfold Func.isWrapper; first | (rw [if_pos (by decide +kernel)]; kernel_rfl) | (rw [if_neg (by decide +kernel)]; exact ⟨rfl, rfl⟩))
    (fun os started H enc _ => fnPathMoves_lifted os started H enc)

end Go.Proofs.Ytnlmiemnblppbaa
