/-
  PathMoves of the reference; PathMoves of both where there is no path or no number; GridPoint of the program.
-/
import Derived.Test.YtnlmiemnblppbaaMw
import Derived.Test.YtnlmiemnblppbaaFu
namespace Go.Proofs.Ytnlmiemnblppbaa
open Go.RowKit

/-- 'out = append(out, x)', as wpList_append_one; and where the new block lies. -/
theorem wpList_append_oneB {P : Program} (w1 : World) {w : World} {ops : Array Oper} {rest : List Oper} {o : Oper} {a : Act} {Q : Exit → Act → World → Prop} (hgd : o.guard = none) (s x : Operand) (t : TypeId)
    (ho : o.op = .call { callee := .builtin .append, args := #[s, x], argTypes := #[t, t] })
    (base : Nat) (e : TypeId) (i : TypeInfo) (z : Value) (size bytes : Nat) (ht : P.underlying t = some (.slice e)) (hi : P.info? e = some i) (hz : i.zero = some z)
    (hsize : i.size = size) (hby : i.bytes = bytes) (hzs : z.cells.size = size) (hsz : 0 < size)
    (v : Value) (n : Nat) (xs : List Value) (hs : a.eval s = v) (hown : w1.ownsRow base e size v n xs)
    (cs : List Value) (e' : TypeId) (G : Nat) (hx : a.eval x = .slice (some ⟨G, 0, none⟩) 1 1) (hl : cs.length = size) (h1 : ∀ u ∈ cs, u.oneCell' = true)
    (h63 : n < 1073741824) (hby2 : bytes ≤ 1024) (hbase : base ≤ w1.heap.size) (hw : w = w1.alloc (.cells cs.toArray e')) (hG : w1.heap.size = G)
    (h : ∀ g cap w', w'.ownsRow base e size (.slice (some ⟨g, 0, none⟩) (n + 1) cap) (n + 1) (xs ++ cs) → w1.grownBy w' v.ownBlock → (∀ k, v.ownBlock = some k → base ≤ k) → (v.ownBlock = some g ∨ w1.heap.size < g) → wpList P ops Q rest (a.put o.dst (.slice (some ⟨g, 0, none⟩) (n + 1) cap)) w') :
    wpList P ops Q (o :: rest) a w := by
  subst hw
  subst hG
  have hmul : (n + 1) * bytes ≤ 1073741824 * 1024 := Nat.mul_le_mul (by omega) hby2
  refine wpList_append_lies _ hgd s x t ho base e i z size bytes ht hi hz hsize hby hzs hsz v n xs hs (hown.alloc _) ⟨w1.heap.size, 0, none⟩ 1 1 cs hx (by omega) (fun j u hu => ?_) h1 (by omega) (by unfold maxLen; omega) (by omega) (by simp; omega) _ rfl ?_
  · exact World.news_of_block (cs := cs.toArray) (heap_alloc_new w1 _) j u (by simpa using hu)
  · intro g cap w' h2 h3 h4 _
    refine h g cap w' h2 (grown_trans' (World.grownBy_alloc w1 _ _) h3) (fun k hk => (hown.lt k hk).1) ?_
    rcases h4 with h4 | h4
    · exact .inl h4
    · exact .inr (by rw [h4]; simp)

theorem dif_sum (P : Nat → Int × Int) (h0 : P 0 = (0, 0)) (t : Nat) : ((dif P t).map Prod.fst).sum = (P t).1 ∧ ((dif P t).map Prod.snd).sum = (P t).2 := by
  induction t with
  | zero => rw [h0]; exact ⟨rfl, rfl⟩
  | succ t ih =>
    have e : dif P (t + 1) = dif P t ++ [((P (t + 1)).1 - (P t).1, (P (t + 1)).2 - (P t).2)] := by simp [dif, List.range_succ]
    rw [e]
    simp only [List.map_append, List.sum_append, ih.1, ih.2]
    constructor <;> simp <;> omega

theorem dif_take (P : Nat → Int × Int) (n K : Nat) (h : K ≤ n) : (dif P n).take K = dif P K := by
  unfold dif
  rw [← List.map_take, List.take_range, Nat.min_eq_left h]

theorem dif_congr {P Q : Nat → Int × Int} {n : Nat} (h : ∀ i, i ≤ n → P i = Q i) : dif P n = dif Q n := by
  unfold dif
  apply List.map_congr_left
  intro i hi
  have := List.mem_range.1 hi
  rw [h (i + 1) (by omega), h i (by omega)]

set_option maxRecDepth 100000 in
set_option maxHeartbeats 2000000 in
theorem specPM_ok (v : Value) (zs : List (Nat × Nat)) (G : Nat) (P : Nat → Int × Int) (w : World) (hr : Reads w 1 v zs.length (cCells zs)) (hp : pathOk zs = true) (hG : G ≤ 8)
    (h0 : P 0 = (0, 0)) (hsm : ∀ i, i ≤ zs.length → (-10000000 ≤ (P i).1 ∧ (P i).1 ≤ 10000000) ∧ -10000000 ≤ (P i).2 ∧ (P i).2 ≤ 10000000) (hgr : ∀ i (h : i < zs.length), GridOk zs[i] G (P (i + 1))) :
    Calls Try.prog 39 #[v, .int .i64 G] w fun e w' => (∃ v', e = .returned (.tuple #[v', .bool true]) ∧ Has w' w.heap.size 2 v' zs.length (mvCells (dif P zs.length))) ∧ Below w.heap.size w w' := by
  obtain ⟨i0, hi, hz0, hz1, hz2⟩ := info_parts Try.infoMv
  have hb1 := kept_new w (.cells #[] 31)
  have hr1 := reads_kept hr hb1
  have hpv := specPath_ok v zs _ hr1
  rw [hp] at hpv
  have hl : zs.length ≤ 100 := by
    unfold pathOk at hp
    simp only [Bool.and_eq_true, decide_eq_true_eq] at hp
    exact hp.1.2
  have Hpv := hide hpv
  have Hsm := hide hsm
  have Hgr := hide hgr
  clear hpv hsm hgr hp hr1
  obtain ⟨_, hm, A, c, rfl, hc⟩ := hr
  have hg8 : 0 ≤ (G : Int) ∧ (G : Int) ≤ 8 := by omega
  have Hg := hide hg8
  clear hg8
  have ho1 : (w.alloc (.cells #[] 31)).ownsRow w.heap.size 31 2 (.slice (some ⟨w.heap.size, 0, none⟩) 0 0) 0 [] := by
    simpa using World.ownsRow_lit (base := w.heap.size) (e := 31) (size := 2) w #[] 0 (Nat.le_refl _) (by decide) (by simp)
  go_enter Try.func39, Try.ntmps39
  go_wp2_with fail
  refine Hpv.out.mono ?_
  rintro e w1 ⟨rfl, rfl⟩
  go_wp2_with fail
  refine (l6In_t _ _ _ _ Hg.out.1 Hg.out.2).mono ?_
  rintro e w1 ⟨rfl, rfl⟩
  have hNs := (ho1.lt _ rfl).2
  generalize w.alloc (.cells #[] 31) = w2 at *
  have hpn : (w2.alloc (.cells #[.int .i64 0, .int .i64 0] 31)).heap[w2.heap.size]? = some (.cells #[.int .i64 (P 0).1, .int .i64 (P 0).2] 31 (0, 0)) := by rw [h0]; exact heap_alloc_new _ _
  have hout2 := owns_kept ho1 (kept_new w2 (.cells #[.int .i64 0, .int .i64 0] 31))
  have hb3 := kept_alloc hb1 (.cells #[.int .i64 0, .int .i64 0] 31)
  have hNB := hb1.size
  clear ho1 hb1 h0
  have HNs := hide hNs
  clear hNs
  go_wp2_with fail
  have hNs := HNs.out
  generalize w2.heap.size = N at *
  have hgN : w.heap.size ≠ N := by omega
  go_loopw [6, 8] (fun v i wr => ∃ (t g cap : Nat), t ≤ zs.length ∧ i = .int .i64 t ∧ v = .slice (some ⟨g, 0, none⟩) t cap ∧ g ≠ N ∧ wr.heap[N]? = some (.cells #[.int .i64 (P t).1, .int .i64 (P t).2] 31 (0, 0)) ∧ wr.ownsRow w.heap.size 31 2 (.slice (some ⟨g, 0, none⟩) t cap) t (mvCells (dif P t)) ∧ Below w.heap.size w wr) (fun _ i _ => zs.length - (intOf i).toNat)
  case atStart => exact ⟨0, _, _, by omega, rfl, rfl, hgN, hpn, hout2, hb3⟩
  case round =>
    obtain ⟨t, g, cap, ht, rfl, rfl, hgg, hN, ho, hb⟩ := hrel
    clear hpn hout2 hb3
    by_cases hlt : t < zs.length
    · obtain ⟨b, o, rfl, hbl, hcell⟩ := hc (by omega) (by omega)
      have h1 := (hb.cell (p := ⟨b, o + t, none⟩) hbl).trans ((hcell t (by omega)).trans (cCells_get zs t hlt))
      have hgp := Hgr.out t hlt
      have hds := dif_succ P t
      obtain ⟨⟨a1, a2⟩, a3, a4⟩ := Hsm.out t (by omega)
      obtain ⟨⟨b1, b2⟩, b3, b4⟩ := Hsm.out (t + 1) (by omega)
      clear hcell hc
      generalize zs[t] = z at h1 hgp
      have Hgp := hide (fun W => specGrid_ok z G (P (t + 1)) W hG hgp)
      clear hgp
      obtain ⟨zx, zy⟩ := z
      dsimp only at h1
      obtain ⟨p, hpt⟩ : ∃ p, P (t + 1) = p := ⟨_, rfl⟩
      rw [hpt] at Hgp hds b1 b2 b3 b4
      have Hpt := hide hpt
      have Hds := hide hds
      clear hpt hds
      generalize P t = q at *
      obtain ⟨x, y⟩ := p
      obtain ⟨X, Y⟩ := q
      dsimp only at *
      generalize mvCells (dif P t) = cs at *
      go_wp2_with fail
      refine (Hgp.out _).mono ?_
      rintro e w4 ⟨rfl, hb4⟩
      have hN4 := (hb4.block N (Array.getElem?_eq_some_iff.1 hN).1).trans hN
      have ho4 := owns_kept ho hb4
      have hbb4 := kept_trans hb hb4
      have hNl : N < w4.heap.size := (Array.getElem?_eq_some_iff.1 hN4).1
      have hgl : g < w4.heap.size := (ho4.lt _ rfl).2
      clear hb hb4 ho hN h1
      have hN5 := (Below.heap_alloc w4 (.cells #[.int .i64 x, .int .i64 y] 31) N hNl).trans hN4
      have n0 : (w4.alloc (.cells #[.int .i64 x, .int .i64 y] 31)).cell? ⟨N, 0, none⟩ = some (.int .i64 X) := by rw [Lib.cell_of_heap hN5]; rfl
      have n1 : (w4.alloc (.cells #[.int .i64 x, .int .i64 y] 31)).cell? ⟨N, 1, none⟩ = some (.int .i64 Y) := by rw [Lib.cell_of_heap hN5]; rfl
      have m0 : (w4.alloc (.cells #[.int .i64 x, .int .i64 y] 31)).cell? ⟨w4.heap.size, 0, none⟩ = some (.int .i64 x) := by go_simp
      have m1 : (w4.alloc (.cells #[.int .i64 x, .int .i64 y] 31)).cell? ⟨w4.heap.size, 1, none⟩ = some (.int .i64 y) := by go_simp
      have ho5 := owns_kept ho4 (kept_new w4 (.cells #[.int .i64 x, .int .i64 y] 31))
      have hb5 := kept_alloc hbb4 (.cells #[.int .i64 x, .int .i64 y] 31)
      have hne : ¬ w4.heap.size = N := by omega
      have hwg : g ≠ w4.heap.size := by omega
      clear hN4 ho4 hbb4
      generalize hwa : w4.alloc (.cells #[.int .i64 x, .int .i64 y] 31) = wa at *
      go_wp2_with (at_builtin; refine wpList_append_oneB wa rfl _ _ 23 rfl w.heap.size 31 i0 _ 2 16 Try.underlying23 hi hz0 hz1 hz2 rfl (by decide) _ _ _ rfl ho5 [.int .i64 (x - X), .int .i64 (y - Y)] _ _ rfl rfl (by simp [Value.oneCell']) (by omega) (by decide) hb5.size rfl (by simp) ?_)
      intro g6 cap6 w6 ho6 hg6 hr6 hw6
      have hNa := (Array.getElem?_eq_some_iff.1 hN5).1
      have hg6N : g6 ≠ N := by
        rcases hw6 with h | h
        · cases h; exact hgg
        · omega
      have hN6 := (hg6.block N hNa (by simp only [Value.ownBlock, ne_eq, Option.some.injEq]; exact fun e => hgg e.symm)).trans hN5
      have hk6 := kept_grown hb5 hg6 hr6
      have hm1 : some w4.heap.size ≠ some g := by simp; omega
      replace m0 := hg6.cell m0 hm1
      replace m1 := hg6.cell m1 hm1
      have n0' : w6.cell? ⟨N, 0, none⟩ = some (.int .i64 X) := by rw [Lib.cell_of_heap hN6]; rfl
      have n1' : w6.cell? ⟨N, 1, none⟩ = some (.int .i64 Y) := by rw [Lib.cell_of_heap hN6]; rfl
      have f0 : w6.frozen? ⟨N, 0, none⟩ = false := Lib.frozen_of_heap hN6 0
      have f1 : w6.frozen? ⟨N, 1, none⟩ = false := Lib.frozen_of_heap hN6 1
      have hN7 := heapSet (j := 1) (heapSet (j := 0) hN6 (.int .i64 x)) (.int .i64 y)
      have ho7 := (ho6.kept (grownSet w6 N 0 (.int .i64 x)) (.inr (by simp [Value.ownBlock, hg6N]))).kept (grownSet _ N 1 (.int .i64 y)) (.inr (by simp [Value.ownBlock, hg6N]))
      have hk7 : Below w.heap.size w ((w6.setCell ⟨N, 0, none⟩ (.int .i64 x)).setCell ⟨N, 1, none⟩ (.int .i64 y)) := kept_set (kept_set hk6 hNB _) hNB _
      clear hg6 ho6 hk6 hN6 n0 n1 hb5 ho5 hN5 hwa
      go_wp2_with fail
      go_roundw
      case rel => exact ⟨t + 1, g6, cap6, by omega, by go_num, rfl, hg6N, by rw [Hpt.out]; exact hN7, by rw [Hds.out]; exact ho7, hk7⟩
      case measure => simp [intOf]; omega
    · obtain rfl : t = zs.length := by omega
      have hh := hide (has_owns ho)
      clear ho hN
      go_wp2_with fail
      go_ret2
      exact ⟨⟨_, rfl, hh.out⟩, hb⟩

/-- Where there is no path or no number. -/
theorem implPMf_ok (v : Value) (zs : List (Nat × Nat)) (g : Int) (w : World) (hr : Reads w 1 v zs.length (cCells zs)) (h : pathOk zs = false ∨ ¬ (0 ≤ g ∧ g ≤ 8)) :
    Calls Try.prog 14 #[v, .int .i64 g] w fun e w' => e = .returned (.tuple #[.slice none 0 0, .bool false]) ∧ w = w' := by
  have hpv := implPath_ok v zs w hr
  cases hp : pathOk zs with
  | false =>
    rw [hp] at hpv
    have Hpv := hide hpv
    clear hpv hp h hr
    go_enter Try.func14, Try.ntmps14
    go_wp2_with fail
    refine Hpv.out.mono ?_
    rintro e w1 ⟨rfl, rfl⟩
    go_wp2_with fail
    go_ret2
    exact ⟨rfl, rfl⟩
  | true =>
    have hg : ¬ (0 ≤ g ∧ g ≤ 8) := by
      rcases h with h | h
      · rw [hp] at h; cases h
      · exact h
    rw [hp] at hpv
    have Hpv := hide hpv
    have Hg := hide hg
    clear hpv hp h hr hg
    go_enter Try.func14, Try.ntmps14
    go_wp2_with fail
    refine Hpv.out.mono ?_
    rintro e w1 ⟨rfl, rfl⟩
    go_wp2_with fail
    refine (gridValid_f _ _ Hg.out).mono ?_
    rintro e w1 ⟨rfl, rfl⟩
    go_wp2_with fail
    go_ret2
    exact ⟨rfl, rfl⟩

theorem specPMf_ok (v : Value) (zs : List (Nat × Nat)) (g : Int) (w : World) (hr : Reads w 1 v zs.length (cCells zs)) (h : pathOk zs = false ∨ ¬ (0 ≤ g ∧ g ≤ 8)) :
    Calls Try.prog 39 #[v, .int .i64 g] w fun e w' => (∃ v', e = .returned (.tuple #[v', .bool false]) ∧ Has w' w.heap.size 2 v' 0 (mvCells [])) ∧ Below w.heap.size w w' := by
  have hb1 := kept_new w (.cells #[] 31)
  have ho1 : (w.alloc (.cells #[] 31)).ownsRow w.heap.size 31 2 (.slice (some ⟨w.heap.size, 0, none⟩) 0 0) 0 [] := by
    simpa using World.ownsRow_lit (base := w.heap.size) (e := 31) (size := 2) w #[] 0 (Nat.le_refl _) (by decide) (by simp)
  have Ho := hide (has_owns ho1)
  have hpv := specPath_ok v zs _ (reads_kept hr hb1)
  clear ho1
  cases hp : pathOk zs with
  | false =>
    rw [hp] at hpv
    have Hpv := hide hpv
    clear hpv hp h hr
    go_enter Try.func39, Try.ntmps39
    go_wp2_with fail
    refine Hpv.out.mono ?_
    rintro e w1 ⟨rfl, rfl⟩
    go_wp2_with fail
    go_ret2
    exact ⟨⟨_, rfl, Ho.out⟩, hb1⟩
  | true =>
    have hg : ¬ (0 ≤ g ∧ g ≤ 8) := by
      rcases h with h | h
      · rw [hp] at h; cases h
      · exact h
    rw [hp] at hpv
    have Hpv := hide hpv
    have Hg := hide hg
    clear hpv hp h hr hg
    go_enter Try.func39, Try.ntmps39
    go_wp2_with fail
    refine Hpv.out.mono ?_
    rintro e w1 ⟨rfl, rfl⟩
    go_wp2_with fail
    refine (l6In_f _ _ _ _ Hg.out).mono ?_
    rintro e w1 ⟨rfl, rfl⟩
    go_wp2_with fail
    go_ret2
    exact ⟨⟨_, rfl, Ho.out⟩, hb1⟩

set_option maxHeartbeats 1000000 in
theorem implGPt_ok (z : Nat × Nat) (G : Nat) (w : World) (hz : ptB z = true) (h8 : G ≤ 8) : Calls Try.prog 40 #[.complex .f32 z.1 z.2, .int .i64 G] w fun e w' => e = .returned (.tuple #[.agg #[.int .i64 (unitN z.1 G), .int .i64 (unitN z.2 G)], .bool true]) ∧ Below w.heap.size w w' := by
  have hpt := fun w => pointValid_ok z w
  rw [hz] at hpt
  have Hpt := hide hpt
  have Hg := hide (fun w => implGrid_ok z G (unitN z.1 G, unitN z.2 G) w h8 (grid_pt hz h8).1)
  have Hv := hide (fun w => gridValid_t G w (by omega))
  clear hpt hz
  generalize unitN z.1 G = n1 at *
  generalize unitN z.2 G = n2 at *
  go_enter Try.func40, Try.ntmps40
  go_wp2_with fail
  refine (Hpt.out _).mono ?_
  rintro e w1 ⟨rfl, rfl⟩
  go_wp2_with fail
  refine (Hv.out _).mono ?_
  rintro e w1 ⟨rfl, rfl⟩
  go_wp2_with fail
  have hk := kept_new w (.cells #[.int .i64 0, .int .i64 0] 31)
  have c0 : (w.alloc (.cells #[.int .i64 0, .int .i64 0] 31)).cell? ⟨w.heap.size, 0, none⟩ = some (.int .i64 0) := by go_simp
  have c1 : (w.alloc (.cells #[.int .i64 0, .int .i64 0] 31)).cell? ⟨w.heap.size, 1, none⟩ = some (.int .i64 0) := by go_simp
  have f0 : (w.alloc (.cells #[.int .i64 0, .int .i64 0] 31)).frozen? ⟨w.heap.size, 0, none⟩ = false := by go_simp
  have f1 : (w.alloc (.cells #[.int .i64 0, .int .i64 0] 31)).frozen? ⟨w.heap.size, 1, none⟩ = false := by go_simp
  have hsz : w.heap.size < (w.alloc (.cells #[.int .i64 0, .int .i64 0] 31)).heap.size := by simp
  generalize w.alloc (.cells #[.int .i64 0, .int .i64 0] 31) = wa at *
  refine (Hg.out _).mono ?_
  rintro e w2 ⟨rfl, hb2⟩
  replace c0 := kept_cell hb2 c0
  replace c1 := kept_cell hb2 c1
  replace f0 := (hb2.frozen (p := ⟨w.heap.size, 0, none⟩) hsz).trans f0
  replace f1 := (hb2.frozen (p := ⟨w.heap.size, 1, none⟩) hsz).trans f1
  have hb02 := kept_trans hk hb2
  clear hb2 hk
  go_wp2_with fail
  refine bodyPost_ret (v := .tuple #[.agg #[.int .i64 n1, .int .i64 n2], .bool true]) (by simp [results, Try.results40, go_sem, c0, c1]) rfl ⟨rfl, ?_⟩
  exact kept_set (kept_set hb02 (Nat.le_refl _) _) (Nat.le_refl _) _

end Go.Proofs.Ytnlmiemnblppbaa
