/-
  slices.DeleteFunc of the program's tidy design: the wheels whose radius is 0 go.
-/
import Derived.Test.YtodjmmdfgjkhiaaWt
import Derived.Test.YtodjmmdfgjkhiaaWs2
namespace Go.Proofs.Ytodjmmdfgjkhiaa
open Go.RowKit

theorem radOver (w : World) : PredW 72 #[] (fun x => x.c.eqB zero8) w := fun x W _ => by
  simpa using radIs_ok x W

theorem nonzero_take (ws : List W9) (k : Nat) (h : ∀ j (h : j < ws.length), j < k → (ws[j]).c.eqB zero8 = false) : nonzero (ws.take k) = ws.take k := by
  unfold nonzero
  rw [List.filter_eq_self]
  intro x hx
  obtain ⟨j, hj, rfl⟩ := List.getElem_of_mem hx
  rw [List.getElem_take]
  rw [List.length_take] at hj
  rw [h j (by omega) (by omega)]
  rfl

def set9at (W : World) (g t : Nat) (x : W9) : World := (((((((((W.setCell ⟨g, t * 9, none⟩ (.int .i64 x.s)).setCell ⟨g, t * 9 + 1, none⟩ (.int .i64 x.c.a0)).setCell ⟨g, t * 9 + 2, none⟩ (.int .i64 x.c.a1)).setCell ⟨g, t * 9 + 3, none⟩ (.int .i64 x.c.a2)).setCell ⟨g, t * 9 + 4, none⟩ (.int .i64 x.c.a3)).setCell ⟨g, t * 9 + 5, none⟩ (.int .i64 x.c.a4)).setCell ⟨g, t * 9 + 6, none⟩ (.int .i64 x.c.a5)).setCell ⟨g, t * 9 + 7, none⟩ (.int .i64 x.c.a6)).setCell ⟨g, t * 9 + 8, none⟩ (.int .i64 x.c.a7))

theorem has_set9 {W : World} {base g n cap : Nat} {ys zs : List Value} {u0 u1 u2 u3 u4 u5 u6 u7 u8 : Value} (h : Has W base 9 (.slice (some ⟨g, 0, none⟩) n cap) n (ys ++ u0 :: u1 :: u2 :: u3 :: u4 :: u5 :: u6 :: u7 :: u8 :: zs)) (t : Nat) (ht : t * 9 = ys.length) (x : W9) :
    Has (set9at W g t x) base 9 (.slice (some ⟨g, 0, none⟩) n cap) n (ys ++ x.cells ++ zs) ∧ W.grownBy (set9at W g t x) (some g) := by
  obtain ⟨h0, k0⟩ := has_stored h (t * 9) (.int .i64 x.s)
  obtain ⟨h1, k1⟩ := has_stored h0 (t * 9 + 1) (.int .i64 x.c.a0)
  obtain ⟨h2, k2⟩ := has_stored h1 (t * 9 + 2) (.int .i64 x.c.a1)
  obtain ⟨h3, k3⟩ := has_stored h2 (t * 9 + 3) (.int .i64 x.c.a2)
  obtain ⟨h4, k4⟩ := has_stored h3 (t * 9 + 4) (.int .i64 x.c.a3)
  obtain ⟨h5, k5⟩ := has_stored h4 (t * 9 + 5) (.int .i64 x.c.a4)
  obtain ⟨h6, k6⟩ := has_stored h5 (t * 9 + 6) (.int .i64 x.c.a5)
  obtain ⟨h7, k7⟩ := has_stored h6 (t * 9 + 7) (.int .i64 x.c.a6)
  obtain ⟨h8, k8⟩ := has_stored h7 (t * 9 + 8) (.int .i64 x.c.a7)
  rw [set_nine _ _ _ _ _ _ _ _ _ _ _ x _ ht] at h8
  exact ⟨h8, grown_trans' k0 (grown_trans' k1 (grown_trans' k2 (grown_trans' k3 (grown_trans' k4 (grown_trans' k5 (grown_trans' k6 (grown_trans' k7 k8)))))))⟩

theorem has_parts {w : World} {base size g n cap : Nat} {xs : List Value} (h : Has w base size (.slice (some ⟨g, 0, none⟩) n cap) n xs) : base ≤ g ∧ g < w.heap.size ∧ n ≤ 9223372036854775807 ∧ (∀ j, j < n * size → w.cell? ⟨g, j, none⟩ = xs[j]?) ∧ ∀ j, w.frozen? ⟨g, j, none⟩ = false := by
  rcases has_cases h with ⟨h', _⟩ | ⟨g', cap', h', h1, h2, h3, h4, h5⟩
  · simp at h'
  · simp only [Value.slice.injEq, Option.some.injEq, Addr.mk.injEq, and_true, true_and] at h'
    obtain ⟨rfl, rfl⟩ := h'
    exact ⟨h1, h2, h3, h4, h5⟩

/-- Nine cells in the midst. -/
theorem mid_cells {W : World} {g n : Nat} {ys zs : List Value} {u0 u1 u2 u3 u4 u5 u6 u7 u8 : Value} (h : ∀ j, j < n * 9 → W.cell? ⟨g, j, none⟩ = (ys ++ u0 :: u1 :: u2 :: u3 :: u4 :: u5 :: u6 :: u7 :: u8 :: zs)[j]?) (t : Nat) (ht : t < n) (hy : ys.length = t * 9) :
    W.cell? ⟨g, t * 9, none⟩ = some u0 ∧ W.cell? ⟨g, t * 9 + 1, none⟩ = some u1 ∧ W.cell? ⟨g, t * 9 + 2, none⟩ = some u2 ∧ W.cell? ⟨g, t * 9 + 3, none⟩ = some u3 ∧ W.cell? ⟨g, t * 9 + 4, none⟩ = some u4 ∧ W.cell? ⟨g, t * 9 + 5, none⟩ = some u5 ∧ W.cell? ⟨g, t * 9 + 6, none⟩ = some u6 ∧ W.cell? ⟨g, t * 9 + 7, none⟩ = some u7 ∧ W.cell? ⟨g, t * 9 + 8, none⟩ = some u8 := by
  have hk : ∀ j : Nat, j < 9 → W.cell? ⟨g, t * 9 + j, none⟩ = [u0, u1, u2, u3, u4, u5, u6, u7, u8][j]? := fun j hj => by
    rw [h _ (by omega), List.getElem?_append_right (by omega), hy, show t * 9 + j - t * 9 = j from by omega]
    rcases nine hj with rfl | rfl | rfl | rfl | rfl | rfl | rfl | rfl | rfl <;> rfl
  exact ⟨hk 0 (by omega), hk 1 (by omega), hk 2 (by omega), hk 3 (by omega), hk 4 (by omega), hk 5 (by omega), hk 6 (by omega), hk 7 (by omega), hk 8 (by omega)⟩

/-- What deleting leaves: the slice cut, its first cells those of the wheels that stay. -/
def DelPost (ws : List W9) (base g cap : Nat) (w : World) (e : Ending) (w' : World) : Prop :=
  e = .returned (.slice (some ⟨g, 0, none⟩) (nonzero ws).length cap) ∧ Has w' base 9 (.slice (some ⟨g, 0, none⟩) (nonzero ws).length cap) (nonzero ws).length (wlCells (nonzero ws)) ∧ w.grownBy w' (some g)

set_option maxRecDepth 100000 in
set_option maxHeartbeats 4000000 in
theorem delW_ok (base g cap : Nat) (ws : List W9) (w : World) (hh : Has w base 9 (.slice (some ⟨g, 0, none⟩) ws.length cap) ws.length (wlCells ws)) (hcap : ws.length ≤ cap) (hl : ws.length ≤ 1000) :
    Calls Try.prog 71 #[.slice (some ⟨g, 0, none⟩) ws.length cap, .func (.func 72) #[] #[]] w (DelPost ws base g cap w) := by
  have eg : ∀ args w, (callFunc 72 args).run Try.prog w = .ok (.enter 72 args) w := enters_of Try.func72 (by kernel_rfl) rfl
  have hidx := idxW_ok 72 #[] (fun x => x.c.eqB zero8) eg _ ws w (has_reads hh) (radOver w)
  have Hh := hide hh
  clear eg hh
  go_enter Try.func71, Try.ntmps71
  go_wp2_with fail
  refine hidx.mono ?_
  rintro e w1 ⟨k, rfl, hk, hb1⟩
  clear hidx
  have Hh1 := hide (has_kept Hh.out hb1)
  rcases hk with ⟨rfl, hall⟩ | ⟨k0, rfl, hk0, hz, hbef⟩
  · have Hn : Hid (nonzero ws = ws) := by
      have := nonzero_take ws ws.length fun j h _ => hall j h
      rwa [List.take_length] at this
    clear hall
    go_wp2_with fail
    go_ret
    exact ⟨by rw [Hn.out]; rfl, by rw [Hn.out]; exact Hh1.out, grown_of_kept hb1 _⟩
  · have hne1 : ((k0 : Int) == -1) = false := beq_eq_false_iff_ne.2 (by omega)
    have Hst : Hid (nonzero (ws.take (k0 + 1)) = ws.take k0) := by
      show _ = _
      rw [nonzero_succ ws k0 hk0, if_pos hz, nonzero_take ws k0 hbef]
    have Hbef := hide hbef
    clear hbef hz
    go_wp2_with fail
    go_loopw [5, 6, 7] (fun s5 s6 _ wr => ∃ (i j : Nat) (mid : List Value), s5 = .int .i64 i ∧ s6 = .int .i64 j ∧ j ≤ ws.length ∧ i < j ∧ i = (nonzero (ws.take j)).length ∧ mid.length = (j - i) * 9 ∧ Has wr base 9 (.slice (some ⟨g, 0, none⟩) ws.length cap) ws.length (wlCells (nonzero (ws.take j)) ++ (mid ++ wlCells (ws.drop j))) ∧ w.grownBy wr (some g)) (fun _ s6 _ _ => ws.length - (intOf s6).toNat)
    case atStart =>
      have hi : k0 = (nonzero (ws.take (k0 + 1))).length := by rw [Hst.out, List.length_take]; omega
      have e : wlCells ws = wlCells (nonzero (ws.take (k0 + 1))) ++ ((ws[k0]).cells ++ wlCells (ws.drop (k0 + 1))) := by rw [Hst.out]; exact wl_split ws k0 hk0
      exact ⟨k0, k0 + 1, (ws[k0]).cells, rfl, by go_num, by omega, by omega, hi, by simp [W9.cells], by rw [← e]; exact Hh1.out, grown_of_kept hb1 _⟩
    case round =>
      obtain ⟨i, j, mid, rfl, rfl, hj, hij, hi, hml, hhas, hgr⟩ := hrel
      clear Hh1 hb1 Hst Hbef hne1
      have Hi := hide hi
      have Hml := hide hml
      clear hi hml
      have Hhas := hide hhas
      obtain ⟨hbg, hglt, _, hcell, hfr⟩ := has_parts hhas
      clear hhas
      have hilt : i < ws.length := by omega
      by_cases hlt : j < ws.length
      · have hal : (wlCells (nonzero (ws.take j))).length = i * 9 := by rw [wlCells_len, ← Hi.out]
        have hD : wlCells (ws.drop j) = (ws[j]).cells ++ wlCells (ws.drop (j + 1)) := by rw [List.drop_eq_getElem_cons hlt]; unfold wlCells; rw [List.flatMap_cons]
        have Hs := hide (nonzero_succ ws j hlt)
        obtain ⟨q0, q1, q2, q3, q4, q5, q6, q7, q8, mid0, rfl, hm0⟩ := nine_of_len mid (j - i - 1) (by rw [Hml.out, show j - i - 1 + 1 = j - i from by omega])
        have hC1 := mid_cells (n := ws.length) (u0 := q0) (u1 := q1) (u2 := q2) (u3 := q3) (u4 := q4) (u5 := q5) (u6 := q6) (u7 := q7) (u8 := q8) (ys := wlCells (nonzero (ws.take j))) (zs := mid0 ++ wlCells (ws.drop j)) (by simpa using hcell) i hilt hal
        generalize hm : ws[j] = m at hD Hs
        have hC2 := mid_cells (n := ws.length) (ys := wlCells (nonzero (ws.take j)) ++ (q0 :: q1 :: q2 :: q3 :: q4 :: q5 :: q6 :: q7 :: q8 :: mid0)) (zs := wlCells (ws.drop (j + 1))) (u0 := .int .i64 m.s) (u1 := .int .i64 m.c.a0) (u2 := .int .i64 m.c.a1) (u3 := .int .i64 m.c.a2) (u4 := .int .i64 m.c.a3) (u5 := .int .i64 m.c.a4) (u6 := .int .i64 m.c.a5) (u7 := .int .i64 m.c.a6) (u8 := .int .i64 m.c.a7)
          (by rw [hD] at hcell; simpa [W9.cells] using hcell) j hlt (by rw [List.length_append, hal, Hml.out, ← Nat.add_mul]; congr 1; omega)
        have HD := hide hD
        have Hm0 := hide hm0
        have Hal := hide hal
        clear hcell hm hD hm0 hal
        obtain ⟨p0, p1, p2, p3, p4, p5, p6, p7, p8⟩ := hC2
        have hcall := radIs_ok m (wr.alloc (.cells m.arr 49))
        rw [val9_spell] at hcall
        unfold W9.arr at hcall
        cases hz : m.c.eqB zero8
        · have Hz := hide hz
          rw [hz] at hcall
          clear hz
          go_wp2_with fail
          refine hcall.mono ?_
          rintro e w2 ⟨rfl, hb2⟩
          have hk2 : Below wr.heap.size wr w2 := kept_trans (kept_new wr (.cells m.arr 49)) hb2
          have hv := blk9_kept (blk9_new wr m 49) hb2
          obtain ⟨v0, v1, v2, v3, v4, v5, v6, v7, v8⟩ := blk9_cells hv
          obtain ⟨c0, c1, c2, c3, c4, c5, c6, c7, c8⟩ := hC1
          replace c0 := kept_cell hk2 c0
          replace c1 := kept_cell hk2 c1
          replace c2 := kept_cell hk2 c2
          replace c3 := kept_cell hk2 c3
          replace c4 := kept_cell hk2 c4
          replace c5 := kept_cell hk2 c5
          replace c6 := kept_cell hk2 c6
          replace c7 := kept_cell hk2 c7
          replace c8 := kept_cell hk2 c8
          have hf2 : ∀ q, w2.frozen? ⟨g, q, none⟩ = false := fun q => (hk2.frozen (p := ⟨g, q, none⟩) hglt).trans (hfr q)
          have hh2 := has_kept Hhas.out hk2
          have h9 := has_set9 (ys := wlCells (nonzero (ws.take j))) (zs := mid0 ++ wlCells (ws.drop j)) (by simpa using hh2) i Hal.out.symm m
          have H9 := hide h9
          have hgr2 := grown_trans' (grown_trans' hgr (grown_of_kept hk2 (some g))) h9.2
          clear h9 hh2 hcall p0 p1 p2 p3 p4 p5 p6 p7 p8 hfr hb2 hk2 hv hgr
          go_wp2_with fail
          go_roundw
          case rel =>
            refine ⟨i + 1, j + 1, mid0 ++ m.cells, by go_num, by go_num, by omega, by omega, ?_, ?_, ?_, hgr2⟩
            · rw [Hs.out, Hz.out]; simp [← Hi.out]
            · rw [List.length_append, Hm0.out, show j + 1 - (i + 1) = j - i - 1 + 1 from by omega, Nat.add_mul]; simp [W9.cells]
            · have := H9.out.1
              rw [HD.out] at this
              rw [Hs.out, Hz.out]
              simpa [wlCells_app, wlCells_one1, set9at] using this
          case measure => simp [intOf]; omega
        · have Hz := hide hz
          rw [hz] at hcall
          clear hz hC1
          go_wp2_with fail
          refine hcall.mono ?_
          rintro e w2 ⟨rfl, hb2⟩
          have hk2 : Below wr.heap.size wr w2 := kept_trans (kept_new wr (.cells m.arr 49)) hb2
          have Hh2 := hide (has_kept Hhas.out hk2)
          have hgr2 := grown_trans' hgr (grown_of_kept hk2 (some g))
          clear hcall p0 p1 p2 p3 p4 p5 p6 p7 p8 hfr hb2 hk2 hgr
          go_wp2_with fail
          go_roundw
          case rel =>
            refine ⟨i, j + 1, (q0 :: q1 :: q2 :: q3 :: q4 :: q5 :: q6 :: q7 :: q8 :: mid0) ++ m.cells, rfl, by go_num, by omega, by omega, ?_, ?_, ?_, hgr2⟩
            · rw [Hs.out, Hz.out]; simpa using Hi.out
            · rw [List.length_append, Hml.out, show j + 1 - i = j - i + 1 from by omega, Nat.add_mul]; simp [W9.cells]
            · have := Hh2.out
              rw [HD.out] at this
              rw [Hs.out, Hz.out]
              simpa using this
          case measure => simp [intOf]; omega
      · obtain rfl : j = ws.length := by omega
        have hsz : ∀ q, q < ws.length * 9 → (wr.cell? ⟨g, q, none⟩).isSome = true := fun q hq => by
          rw [hcell q hq]
          have := Hhas.out.1
          rw [List.getElem?_eq_getElem (by omega)]; rfl
        obtain ⟨vs, hvl, hrun⟩ := run_clear_k (P := Try.prog) wr 29 49 zero9.val 9 Try.underlying29 Try.zeroValue49 (by rfl) (by decide) (by simp [zero9, zero8, W9.val, Value.cells, Value.oneCell']) g (i * 9) (ws.length - i) (cap - i) (by omega)
          (fun q hq => hsz _ (by omega)) (fun q _ => hfr _)
        obtain ⟨xs', hx1, hx2, hx3⟩ := has_setCells vs (i * 9) wr _ Hhas.out
        have hal : (wlCells (nonzero ws)).length = i * 9 := by rw [wlCells_len, ← List.take_length (l := ws)] ; exact congrArg (· * 9) Hi.out.symm
        have hin : (nonzero ws).length = i := by have := Hi.out; rw [List.take_length] at this; exact this.symm
        have hcut := has_cut hx1 (n' := i) (by omega)
        rw [hx2, List.take_length, List.take_append_of_le_length (by omega), List.take_of_length_le (by omega)] at hcut
        have Hcut := hide hcut
        have Hin := hide hin
        have Hg := hide (grown_trans' hgr hx3)
        have c1 : (0 : Int) ≤ (i : Int) := by omega
        have c2 : (i : Int) ≤ (ws.length : Int) := by omega
        have c3 : (i : Int) ≤ (cap : Int) := by omega
        have c4 : ¬ cap = i := by omega
        clear hx1 hx2 hx3 hcut hal hin hgr hsz hcell hfr hvl
        go_wp2_with fail
        go_ret
        exact ⟨by rw [Hin.out]; rfl, by rw [Hin.out]; exact Hcut.out, Hg.out⟩

end Go.Proofs.Ytodjmmdfgjkhiaa
