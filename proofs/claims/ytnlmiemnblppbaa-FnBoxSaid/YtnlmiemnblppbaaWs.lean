/-
  The reference's tidy design: l5Add, l5Done, l5Tidy, DesignTidy.
-/
import Derived.Test.YtnlmiemnblppbaaWp
import Derived.Test.YtnlmiemnblppbaaWcl
import Derived.Deep.RegionHeld3
import Derived.Deep.DrawnRows
import Derived.Test.YtnlmiemnblppbaaReg
namespace Go.Proofs.Ytnlmiemnblppbaa
open Go.RowKit
attribute [local go_sem ↓] Go.wp_at_zero Go.wp_at_succ

theorem first_ge (ws : List W9) (s : Int) : ∃ k, k ≤ ws.length ∧ (∀ j (h : j < ws.length), j < k → (ws[j]).s < s) ∧ ∀ h : k < ws.length, s ≤ (ws[k]).s := by
  induction ws with
  | nil => exact ⟨0, by simp, fun _ h => by simp at h, fun h => by simp at h⟩
  | cons x xs ih =>
    by_cases h0 : x.s < s
    · obtain ⟨k, hk, hb, hn⟩ := ih
      refine ⟨k + 1, by simpa using hk, fun j h hj => ?_, fun h => hn (by simpa using h)⟩
      cases j with
      | zero => exact h0
      | succ j => exact hb j (by simpa using h) (by omega)
    · exact ⟨0, by omega, fun _ _ h => absurd h (by omega), fun _ => by show s ≤ x.s; omega⟩

/-- A list of wheels with a flag, in a slice of its own. -/
def AddPost (r : List W9) (b : Bool) (w : World) (e : Ending) (w' : World) : Prop :=
  ∃ g cap, e = .returned (.tuple #[.slice (some ⟨g, 0, none⟩) r.length cap, .bool b]) ∧ w'.ownsRow w.heap.size 124 9 (.slice (some ⟨g, 0, none⟩) r.length cap) r.length (wlCells r) ∧ Below w.heap.size w w'

theorem owns_cap {w : World} {base : Nat} {e : TypeId} {size g n cap : Nat} {xs : List Value} (h : w.ownsRow base e size (.slice (some ⟨g, 0, none⟩) n cap) n xs) : n ≤ cap := by
  rcases h.2 with ⟨h', _⟩ | ⟨g', cap', cur, h', _, _, hn, _⟩
  · simp at h'
  · simp only [Value.slice.injEq, Option.some.injEq, Addr.mk.injEq, and_true, true_and] at h'
    omega

theorem owns_empty (W : World) (T : TypeId) (size base : Nat) (h : base ≤ W.heap.size) : (W.alloc (.cells #[] T)).ownsRow base T size (.slice (some ⟨W.heap.size, 0, none⟩) 0 0) 0 [] :=
  owns_base (by simpa using World.ownsRow_lit (base := W.heap.size) (e := T) (size := size) W #[] 0 (Nat.le_refl _) (by decide) (by simp)) h

theorem news_of_cells {W : World} {b o n : Nat} {xs : List Value} (h : ∀ j, j < n → W.cell? ⟨b, o + j, none⟩ = xs[j]?) (hl : xs.length = n) : ∀ (j : Nat) u, xs[j]? = some u → W.cell? ((⟨b, o, none⟩ : Addr).add j) = some u := by
  intro j u hu
  have hj := (List.getElem?_eq_some_iff.1 hu).1
  rw [Addr.add_lit, h j (by omega), hu]

theorem wlCells_one (ws : List W9) : ∀ v ∈ wlCells ws, v.oneCell' = true := by
  intro v hv
  simp only [wlCells, List.mem_flatMap] at hv
  obtain ⟨x, _, hx⟩ := hv
  exact cells9_one x v hx

theorem set_rad (ys zs : List Value) (u u0 u1 u2 u3 u4 u5 u6 u7 : Value) (c : C8) (k : Nat) (hk : k = ys.length) :
    ((((((((ys ++ u :: u0 :: u1 :: u2 :: u3 :: u4 :: u5 :: u6 :: u7 :: zs).set (k + 1) (.int .i64 c.a0)).set (k + 2) (.int .i64 c.a1)).set (k + 3) (.int .i64 c.a2)).set (k + 4) (.int .i64 c.a3)).set (k + 5) (.int .i64 c.a4)).set (k + 6) (.int .i64 c.a5)).set (k + 7) (.int .i64 c.a6)).set (k + 8) (.int .i64 c.a7)
    = ys ++ u :: (c.cells ++ zs) := by
  subst hk
  simp [C8.cells]

theorem wl_split (ws : List W9) (t : Nat) (h : t < ws.length) : wlCells ws = wlCells (ws.take t) ++ ((ws[t]).cells ++ wlCells (ws.drop (t + 1))) := by
  have e : ws = ws.take t ++ ws[t] :: ws.drop (t + 1) := by rw [← List.drop_eq_getElem_cons h, List.take_append_drop]
  conv => lhs; rw [e]
  unfold wlCells
  rw [List.flatMap_append, List.flatMap_cons]

theorem wl_set_rad (ws : List W9) (t : Nat) (h : t < ws.length) (c : C8) :
    (((((((((wlCells ws).set (t * 9 + 1) (.int .i64 c.a0)).set (t * 9 + 2) (.int .i64 c.a1)).set (t * 9 + 3) (.int .i64 c.a2)).set (t * 9 + 4) (.int .i64 c.a3)).set (t * 9 + 5) (.int .i64 c.a4)).set (t * 9 + 6) (.int .i64 c.a5)).set (t * 9 + 7) (.int .i64 c.a6)).set (t * 9 + 8) (.int .i64 c.a7))
    = wlCells (ws.set t ⟨(ws[t]).s, c⟩) := by
  have hl : t * 9 = (wlCells (ws.take t)).length := by rw [wlCells_len]; simp; omega
  have e2 := wl_split (ws.set t ⟨(ws[t]).s, c⟩) t (by simpa using h)
  rw [List.take_set_of_le (Nat.le_refl _), List.drop_set_of_lt (by omega), List.getElem_set_self] at e2
  rw [e2, wl_split ws t h]
  have := set_rad (wlCells (ws.take t)) (wlCells (ws.drop (t + 1))) (.int .i64 (ws[t]).s) (.int .i64 (ws[t]).c.a0) (.int .i64 (ws[t]).c.a1) (.int .i64 (ws[t]).c.a2) (.int .i64 (ws[t]).c.a3) (.int .i64 (ws[t]).c.a4) (.int .i64 (ws[t]).c.a5) (.int .i64 (ws[t]).c.a6) (.int .i64 (ws[t]).c.a7) c _ hl
  simp only [W9.cells, List.cons_append, List.nil_append] at this ⊢
  rw [this]
  simp [C8.cells]

/-- Eight numbers stored into the radius of element t of a row of wheels. -/
def setRad (W : World) (g t : Nat) (c : C8) : World := ((((((((W.setCell ⟨g, t * 9 + 1, none⟩ (.int .i64 c.a0)).setCell ⟨g, t * 9 + 2, none⟩ (.int .i64 c.a1)).setCell ⟨g, t * 9 + 3, none⟩ (.int .i64 c.a2)).setCell ⟨g, t * 9 + 4, none⟩ (.int .i64 c.a3)).setCell ⟨g, t * 9 + 5, none⟩ (.int .i64 c.a4)).setCell ⟨g, t * 9 + 6, none⟩ (.int .i64 c.a5)).setCell ⟨g, t * 9 + 7, none⟩ (.int .i64 c.a6)).setCell ⟨g, t * 9 + 8, none⟩ (.int .i64 c.a7))

theorem owns_rad {W : World} {base g cap : Nat} {e : TypeId} {ws : List W9} (h : W.ownsRow base e 9 (.slice (some ⟨g, 0, none⟩) ws.length cap) ws.length (wlCells ws)) (t : Nat) (ht : t < ws.length) (c : C8) :
    (setRad W g t c).ownsRow base e 9 (.slice (some ⟨g, 0, none⟩) ws.length cap) ws.length (wlCells (ws.set t ⟨(ws[t]).s, c⟩)) := by
  rw [← wl_set_rad ws t ht c]
  exact ((((((((h.stored _ _).1.stored _ _).1.stored _ _).1.stored _ _).1.stored _ _).1.stored _ _).1.stored _ _).1.stored _ _).1

theorem kept_setRad {w W : World} (h : Below w.heap.size w W) {g : Nat} (hg : w.heap.size ≤ g) (t : Nat) (c : C8) : Below w.heap.size w (setRad W g t c) :=
  kept_set (kept_set (kept_set (kept_set (kept_set (kept_set (kept_set (kept_set h hg _) hg _) hg _) hg _) hg _) hg _) hg _) hg _

theorem owns_cells9 {W : World} {base g cap : Nat} {e : TypeId} {ws : List W9} (h : W.ownsRow base e 9 (.slice (some ⟨g, 0, none⟩) ws.length cap) ws.length (wlCells ws)) (t : Nat) (ht : t < ws.length) :
    (W.cell? ⟨g, t * 9, none⟩ = some (.int .i64 (ws[t]).s) ∧ W.cell? ⟨g, t * 9 + 1, none⟩ = some (.int .i64 (ws[t]).c.a0) ∧ W.cell? ⟨g, t * 9 + 2, none⟩ = some (.int .i64 (ws[t]).c.a1) ∧ W.cell? ⟨g, t * 9 + 3, none⟩ = some (.int .i64 (ws[t]).c.a2) ∧ W.cell? ⟨g, t * 9 + 4, none⟩ = some (.int .i64 (ws[t]).c.a3)
    ∧ W.cell? ⟨g, t * 9 + 5, none⟩ = some (.int .i64 (ws[t]).c.a4) ∧ W.cell? ⟨g, t * 9 + 6, none⟩ = some (.int .i64 (ws[t]).c.a5) ∧ W.cell? ⟨g, t * 9 + 7, none⟩ = some (.int .i64 (ws[t]).c.a6) ∧ W.cell? ⟨g, t * 9 + 8, none⟩ = some (.int .i64 (ws[t]).c.a7)) := by
  have := wl_cells (w := W) (b := g) (o := 0) (ws := ws) (fun j hj => by rw [Nat.zero_add]; exact h.cellAt j hj) t ht
  simpa only [Nat.zero_add] using this

theorem cells9_at {W : World} {base g cap n : Nat} {e : TypeId} {ws : List W9} (h : W.ownsRow base e 9 (.slice (some ⟨g, 0, none⟩) n cap) n (wlCells ws)) (hn : ws.length = n) (t : Nat) (x : W9) (ht : ws[t]? = some x) :
    (W.cell? ⟨g, t * 9, none⟩ = some (.int .i64 x.s) ∧ W.cell? ⟨g, t * 9 + 1, none⟩ = some (.int .i64 x.c.a0) ∧ W.cell? ⟨g, t * 9 + 2, none⟩ = some (.int .i64 x.c.a1) ∧ W.cell? ⟨g, t * 9 + 3, none⟩ = some (.int .i64 x.c.a2) ∧ W.cell? ⟨g, t * 9 + 4, none⟩ = some (.int .i64 x.c.a3)
    ∧ W.cell? ⟨g, t * 9 + 5, none⟩ = some (.int .i64 x.c.a4) ∧ W.cell? ⟨g, t * 9 + 6, none⟩ = some (.int .i64 x.c.a5) ∧ W.cell? ⟨g, t * 9 + 7, none⟩ = some (.int .i64 x.c.a6) ∧ W.cell? ⟨g, t * 9 + 8, none⟩ = some (.int .i64 x.c.a7)) := by
  subst hn
  obtain ⟨hl, rfl⟩ := List.getElem?_eq_some_iff.1 ht
  exact owns_cells9 h t hl

theorem news_take {W : World} {g : Nat} {ws : List W9} (h : ∀ j, j < ws.length * 9 → W.cell? ⟨g, 0 + j, none⟩ = (wlCells ws)[j]?) (t : Nat) : ∀ (j : Nat) u, (wlCells (ws.take t))[j]? = some u → W.cell? ((⟨g, 0, none⟩ : Addr).add j) = some u := by
  intro j u hu
  have hj := (List.getElem?_eq_some_iff.1 hu).1
  have hl : (wlCells (ws.take t)).length ≤ ws.length * 9 := by rw [wlCells_len, List.length_take]; omega
  rw [Addr.add_lit, h j (by omega)]
  conv => lhs; rw [← List.take_append_drop t ws, wlCells_app]
  rw [List.getElem?_append_left hj]
  exact hu

theorem news_drop {W : World} {g : Nat} {ws : List W9} (h : ∀ j, j < ws.length * 9 → W.cell? ⟨g, 0 + j, none⟩ = (wlCells ws)[j]?) (t o3 : Nat) (ho : t < ws.length → o3 = t * 9) : ∀ (j : Nat) u, (wlCells (ws.drop t))[j]? = some u → W.cell? ((⟨g, o3, none⟩ : Addr).add j) = some u := by
  intro j u hu
  have hj := (List.getElem?_eq_some_iff.1 hu).1
  rw [wlCells_len, List.length_drop] at hj
  have ht : t < ws.length := by omega
  have hl : (wlCells (ws.take t)).length = t * 9 := by rw [wlCells_len, List.length_take]; omega
  rw [Addr.add_lit, ho ht]
  have := h (t * 9 + j) (by omega)
  rw [Nat.zero_add] at this
  rw [this]
  conv => lhs; rw [← List.take_append_drop t ws, wlCells_app]
  rw [List.getElem?_append_right (by omega), hl, show t * 9 + j - t * 9 = j from by omega]
  exact hu

theorem small_mid {c : C8} (h : c.smallB 1000000 = true) : c.small 1000000000 := by
  have h := of_decide_eq_true h
  intro j hj
  have := h j hj
  omega

set_option maxRecDepth 100000 in
set_option maxHeartbeats 4000000 in
theorem l5Add_ok (g cap base : Nat) (ws : List W9) (x : W9) (w : World) (hown : w.ownsRow base 124 9 (.slice (some ⟨g, 0, none⟩) ws.length cap) ws.length (wlCells ws)) (ha : Asc ws) (hl : ws.length ≤ 100)
    (hsm : ∀ y ∈ ws, y.c.smallB 1000000 = true) (hx : x.c.smallB 1000000 = true) :
    Calls Try.prog 123 #[.slice (some ⟨g, 0, none⟩) ws.length cap, x.val] w (AddPost (addW ws x) ((radW ws x).smallB 1000000) w) := by
  obtain ⟨k, hk, hlow, hge⟩ := first_ge ws x.s
  have hcap := owns_cap hown
  have hrd : ∀ j, j < ws.length * 9 → w.cell? ⟨g, 0 + j, none⟩ = (wlCells ws)[j]? := fun j hj => by rw [Nat.zero_add]; exact hown.cellAt j hj
  have hgl : g < w.heap.size := (hown.lt g rfl).2
  have hbox := blk9_new w x 124
  have Hb := hide hbox
  have Hlow := hide hlow
  have Hrd := hide hrd
  clear hlow hrd hbox
  rw [val9_spell]
  go_enter Try.func123, Try.ntmps123
  go_wp2_with fail
  go_loopw [6] (fun i wr => ∃ t : Nat, t ≤ k ∧ i = .int .i64 t ∧ Blk9 wr w.heap.size 124 x ∧ Below w.heap.size w wr) (fun i _ => k - (intOf i).toNat)
  case atStart => exact ⟨0, by omega, rfl, Hb.out, kept_new _ _⟩
  case round =>
    obtain ⟨t, ht, rfl, hbx, hb⟩ := hrel
    clear Hb
    have e1 := blk9_cell hbx 0 (by omega)
    by_cases hlt : t < k
    · have hA := (wl_cells (below_cells hb hgl Hrd.out) t (by omega)).1
      rw [Nat.zero_add] at hA
      have hs := Hlow.out t (by omega) hlt
      generalize (ws[t]).s = y at hA hs
      have htn : t < ws.length := by omega
      have e1' : wr.cell? ⟨w.heap.size, 0, none⟩ = some (.int .i64 x.s) := e1
      have g1 : (0 : Int) ≤ (t : Int) := by omega
      have g2 : (t : Int) < (ws.length : Int) := by omega
      clear e1
      go_wp2_with fail
      go_quiet (fail)
      go_wp2_with fail
      go_roundw
      case rel => exact ⟨t + 1, by omega, by go_num, blk9_kept hbx (kept_drewN _ _), kept_trans hb (kept_drewN _ _)⟩
      case measure => simp [intOf]; omega
    · obtain rfl : t = k := by omega
      have e1' : wr.cell? ⟨w.heap.size, 0, none⟩ = some (.int .i64 x.s) := e1
      clear e1
      obtain ⟨i0, hi, hz0, hz1, hz2⟩ := info_parts Try.infoW
      by_cases hkl : t < ws.length
      · have hA := wl_cells (below_cells hb hgl Hrd.out) t hkl
        simp only [Nat.zero_add] at hA
        have hxs := hge hkl
        have hys := hsm _ (List.getElem_mem hkl)
        have hAdd := addW_at (w := x) hk Hlow.out hge ha
        have g1 : (0 : Int) ≤ (t : Int) := by omega
        have g2 : (t : Int) < (ws.length : Int) := by omega
        have hwr := owns_kept hown hb
        by_cases heq : (ws[t]).s = x.s
        · obtain ⟨hadd, hrad⟩ := hAdd.1 hkl heq
          have Hadd := hide hadd
          have Hrad := hide hrad
          clear hadd hrad hAdd hge
          generalize hy : ws[t] = y at hA hxs hys Hadd Hrad heq
          have Hy := hide hy
          have Hys := hide hys
          clear hys hy
          have Heq := hide heq
          obtain ⟨p0, p1, p2, p3, p4, p5, p6, p7, p8⟩ := hA
          rw [heq] at p0
          clear heq hxs
          go_wp2_with fail
          go_quiet (fail)
          rename Nat => n1
          go_wp2_with fail
          go_quiet (fail)
          rename Nat => n2
          have hk1 : Below wr.heap.size wr ((wr.drewN (n1 + n2)).alloc (.cells #[] 124)) := kept_alloc (kept_drewN _ _) _
          have hnews := news_of_cells (below_cells (kept_trans hb hk1) hgl Hrd.out) (wlCells_len ws)
          have hemp := owns_empty (wr.drewN (n1 + n2)) 124 9 w.heap.size hb.size
          have hone := wlCells_one ws
          have hsz0 : w.heap.size ≤ wr.heap.size := hb.size
          go_wp2_with (at_builtin; refine wpList_append_lies _ rfl _ _ 110 rfl w.heap.size 124 i0 _ 9 72 Try.underlying110 hi hz0 hz1 hz2 rfl (by decide) _ 0 [] rfl hemp ⟨g, 0, none⟩ ws.length cap (wlCells ws) rfl (wlCells_len ws) hnews hone (by omega) (by unfold maxLen; omega) (by omega) (by simp; omega) _ rfl ?_)
          intro g2' cap2 w2 ho2 hg2 hlie _
          have hk2 : Below wr.heap.size wr w2 := kept_grown hk1 hg2 (fun k hk => by simp [Value.ownBlock] at hk; omega)
          try simp only [Nat.zero_add, List.nil_append] at ho2
          have hg2' : wr.heap.size ≤ g2' := by
            rcases hlie with h | h
            · simp [Value.ownBlock] at h; omega
            · omega
          obtain ⟨-, q1, q2, q3, q4, q5, q6, q7, q8⟩ := blk9_cells hbx
          clear hemp hnews hone p0 e1' hlie hg2
          have Ho2 := hide ho2
          have Hk2 := hide hk2
          have Hb := hide hb
          clear ho2 hk2 hk1 hb hwr hown ha hgl hcap hsm
          go_wp2_with fail
          refine wp_region_held (S := fun W => Below wr.heap.size wr W) (by kernel_rfl) ?_
          refine wpAnyH_take (i := 0) (v := .slice (some ⟨g2', 0, none⟩) ws.length cap2) rfl (by kernel_rfl) (by kernel_rfl) (by kernel_rfl) (fun _ _ _ h => h) (.inl ⟨by kernel_rfl, fun _ _ => by go_simp⟩) Hk2.out.drew ?_
          refine wpAnyH_take (i := 1) (v := .int .i64 t) rfl (by kernel_rfl) (by kernel_rfl) (by kernel_rfl) (fun _ _ _ h => h) (.inl ⟨by kernel_rfl, fun _ _ => by go_simp⟩) Hk2.out.drew ?_
          refine wpAnyH_take (i := 2) (v := .slice (some ⟨g, 0, none⟩) ws.length cap) rfl (by kernel_rfl) (by kernel_rfl) (by kernel_rfl) (fun _ _ _ h => h) (.inl ⟨by kernel_rfl, fun _ _ => by go_simp⟩) Hk2.out.drew ?_
          refine wpAnyH_take (i := 3) (v := .int .i64 t) rfl (by kernel_rfl) (by kernel_rfl) (by kernel_rfl) (fun _ _ _ h => h) (.inl ⟨by kernel_rfl, fun _ _ => by go_simp⟩) Hk2.out.drew ?_
          refine wpAnyH_take (i := 4) (v := .pointer (some ⟨g, t * 9, none⟩)) rfl (by kernel_rfl) (by kernel_rfl) (by kernel_rfl) (fun _ _ _ h => h) (.inl ⟨by kernel_rfl, fun _ _ => by go_simp⟩) Hk2.out.drew ?_
          refine wpAnyH_take (i := 5) (v := .pointer (some ⟨g, t * 9 + 1, none⟩)) rfl (by kernel_rfl) (by kernel_rfl) (by kernel_rfl) (fun _ _ _ h => h) (.inl ⟨by kernel_rfl, fun _ _ => by go_simp⟩) Hk2.out.drew ?_
          refine wpAnyH_take (i := 6) (v := .agg #[.int .i64 y.c.a0, .int .i64 y.c.a1, .int .i64 y.c.a2, .int .i64 y.c.a3, .int .i64 y.c.a4, .int .i64 y.c.a5, .int .i64 y.c.a6, .int .i64 y.c.a7]) rfl (by kernel_rfl) (by kernel_rfl) (by kernel_rfl) (fun _ _ _ h => h) (.inl ⟨by kernel_rfl, fun W hW => by (have c1 := kept_cell hW p1; have c2 := kept_cell hW p2; have c3 := kept_cell hW p3; have c4 := kept_cell hW p4; have c5 := kept_cell hW p5; have c6 := kept_cell hW p6; have c7 := kept_cell hW p7; have c8 := kept_cell hW p8; go_simp)⟩) Hk2.out.drew ?_
          refine wpAnyH_take (i := 7) (v := .pointer (some ⟨w.heap.size, 1, none⟩)) rfl (by kernel_rfl) (by kernel_rfl) (by kernel_rfl) (fun _ _ _ h => h) (.inl ⟨by kernel_rfl, fun _ _ => by go_simp⟩) Hk2.out.drew ?_
          refine wpAnyH_take (i := 8) (v := .agg #[.int .i64 x.c.a0, .int .i64 x.c.a1, .int .i64 x.c.a2, .int .i64 x.c.a3, .int .i64 x.c.a4, .int .i64 x.c.a5, .int .i64 x.c.a6, .int .i64 x.c.a7]) rfl (by kernel_rfl) (by kernel_rfl) (by kernel_rfl) (fun _ _ _ h => h) (.inl ⟨by kernel_rfl, fun W hW => by (have c1 := kept_cell hW q1; have c2 := kept_cell hW q2; have c3 := kept_cell hW q3; have c4 := kept_cell hW q4; have c5 := kept_cell hW q5; have c6 := kept_cell hW q6; have c7 := kept_cell hW q7; have c8 := kept_cell hW q8; go_simp)⟩) Hk2.out.drew ?_
          refine wpAnyH_all (rs := [9]) (by kernel_rfl) (by simp) (List.forall_mem_cons.2 ⟨?_, List.forall_mem_nil _⟩)
          refine opH_call (f := 120) rfl (by kernel_rfl) (by go_simp; exact ⟨rfl, rfl⟩) (l2Sum_ok y.c x.c _ (small_mid Hys.out) (small_mid hx)) ?_
          rintro e w3 ⟨rfl, hb3⟩
          have hS3 : Below wr.heap.size wr w3 := kept_trans Hk2.out.drew hb3
          have Ho3 := hide (owns_kept Ho2.out (kept_trans (kept_drew w2) hb3))
          refine ⟨_, rfl, hS3, ?_⟩
          refine wpAnyH_take (i := 10) (v := .pointer (some ⟨g2', t * 9, none⟩)) rfl (by kernel_rfl) (by kernel_rfl) (by kernel_rfl) (fun _ _ _ h => h) (.inl ⟨by kernel_rfl, fun _ _ => by go_simp⟩) hS3 ?_
          refine wpAnyH_take (i := 11) (v := .pointer (some ⟨g2', t * 9 + 1, none⟩)) rfl (by kernel_rfl) (by kernel_rfl) (by kernel_rfl) (fun _ _ _ h => h) (.inl ⟨by kernel_rfl, fun _ _ => by go_simp⟩) hS3 ?_
          refine wpAnyH_all (rs := [12]) (by kernel_rfl) (by simp) (List.forall_mem_cons.2 ⟨?_, List.forall_mem_nil _⟩)
          obtain ⟨-, z1, z2, z3, z4, z5, z6, z7, z8⟩ := owns_cells9 Ho3.out t hkl
          have fz := fun j => Ho3.out.frozenAt j
          refine opH_store (w' := setRad w3 g2' t (y.c.add x.c)) rfl (by kernel_rfl) (by generalize y.c.add x.c = s; rw [val_spell]; go_simp; rfl) ?_
          clear z1 z2 z3 z4 z5 z6 z7 z8 fz
          refine ⟨kept_setRad hS3 hg2' t _, ?_⟩
          refine wpAnyH_done (by kernel_rfl) ?_ _
          have hoN := owns_rad Ho3.out t hkl (y.c.add x.c)
          have hkN := kept_trans Hb.out (kept_setRad hS3 hg2' t (y.c.add x.c))
          rw [Hy.out, Heq.out, ← Hadd.out] at hoN
          have hat : (addW ws x)[t]? = some ⟨x.s, y.c.add x.c⟩ := by rw [Hadd.out]; simp [hkl]
          have hln : (addW ws x).length = ws.length := by rw [Hadd.out]; simp
          generalize setRad w3 g2' t (y.c.add x.c) = w4 at *
          obtain ⟨-, z1, z2, z3, z4, z5, z6, z7, z8⟩ := cells9_at hoN hln t _ hat
          have HoN := hide hoN
          have HkN := hide hkN
          have Hln := hide hln
          clear hoN hkN hat hln
          generalize y.c.add x.c = s at *
          go_simp
          go_wp2_with fail
          refine (cycValid_ok' s _).mono ?_
          rintro e w5 ⟨rfl, hb5⟩
          go_wp2_with fail
          go_ret2
          exact ⟨g2', cap2, by rw [Hrad.out, Hln.out]; rfl, by rw [Hln.out]; exact owns_kept HoN.out hb5, kept_trans HkN.out hb5⟩
        · obtain ⟨hadd, hrad⟩ := hAdd.2 (fun _ => heq)
          have Hcells : Hid (wlCells (addW ws x) = wlCells (ws.take t) ++ x.arr.toList ++ wlCells (ws.drop t)) := by rw [hadd]; show _ = _; simp [wlCells, W9.arr, W9.cells]
          have Hln : Hid ((addW ws x).length = ws.length + 1) := by rw [hadd]; show _ = _; simp; omega
          have Hrad := hide hrad
          clear hadd hrad hAdd hge
          generalize ws[t] = y at hA hxs hys heq
          have hA := hA.1
          have hgt : x.s < y.s := by omega
          have hne : ¬ y.s < x.s := by omega
          obtain ⟨-, q1, q2, q3, q4, q5, q6, q7, q8⟩ := blk9_cells hbx
          obtain ⟨o3, ho3⟩ : ∃ o3, o3 = t * 9 := ⟨_, rfl⟩
          have Ho3 := hide ho3
          have Hpre : Hid (∀ W, Below wr.heap.size wr W → ∀ (j : Nat) u, (wlCells (ws.take t))[j]? = some u → W.cell? ((⟨g, 0, none⟩ : Addr).add j) = some u) := fun W hW => news_take (below_cells (kept_trans hb hW) hgl Hrd.out) t
          have Hsuf : Hid (∀ W, Below wr.heap.size wr W → ∀ (j : Nat) u, (wlCells (ws.drop t))[j]? = some u → W.cell? ((⟨g, o3, none⟩ : Addr).add j) = some u) := fun W hW => news_drop (below_cells (kept_trans hb hW) hgl Hrd.out) t _ (fun _ => ho3)
          have hsz0 : w.heap.size ≤ wr.heap.size := hb.size
          have Hb := hide hb
          have g3 : (t : Int) ≤ (cap : Int) := by omega
          have g4 : (t : Int) < (cap : Int) := by omega
          have g5 : ¬ cap = t := by omega
          clear hys hwr hown ha hsm hb hlt ht ho3
          go_wp2_with fail
          go_quiet (fail)
          rename Nat => n1
          go_wp2_with fail
          go_quiet (fail)
          rename Nat => n2
          go_wp2_with fail
          have hS0 : Below wr.heap.size wr ((wr.drewN n1).drewN n2).drew := (kept_trans (kept_drewN wr n1) (kept_drewN _ n2)).drew
          refine wp_region_held (S := fun W => Below wr.heap.size wr W) (by kernel_rfl) ?_
          change wpAnyH _ _ _ _ _ _ _ _ ((wr.drewN n1).drewN n2).drew
          generalize ((wr.drewN n1).drewN n2).drew = v0 at hS0 ⊢
          clear hxs hgt hne heq hA
          --R8
          refine wpAnyH_take (i := 1) (v := .slice (some ⟨g, 0, none⟩) ws.length cap) rfl (by kernel_rfl) (by kernel_rfl) (by kernel_rfl) (fun _ _ _ h => h) (.inl ⟨by kernel_rfl, fun _ _ => by go_simp⟩) hS0 ?_
          refine wpAnyH_take (i := 2) (v := .int .i64 t) rfl (by kernel_rfl) (by kernel_rfl) (by kernel_rfl) (fun _ _ _ h => h) (.inl ⟨by kernel_rfl, fun _ _ => by go_simp⟩) hS0 ?_
          refine wpAnyH_take (i := 3) (v := .slice (some ⟨g, 0, none⟩) t cap) rfl (by kernel_rfl) (by kernel_rfl) (by kernel_rfl) (fun _ _ _ h => h) (.inl ⟨by kernel_rfl, fun _ _ => by go_simp⟩) hS0 ?_
          refine wpAnyH_take (i := 5) (v := .agg #[.int .i64 x.s, .int .i64 x.c.a0, .int .i64 x.c.a1, .int .i64 x.c.a2, .int .i64 x.c.a3, .int .i64 x.c.a4, .int .i64 x.c.a5, .int .i64 x.c.a6, .int .i64 x.c.a7]) rfl (by kernel_rfl) (by kernel_rfl) (by kernel_rfl) (fun _ _ _ h => h) (.inl ⟨by kernel_rfl, fun W hW => by (have c0 := kept_cell hW e1'; have c1 := kept_cell hW q1; have c2 := kept_cell hW q2; have c3 := kept_cell hW q3; have c4 := kept_cell hW q4; have c5 := kept_cell hW q5; have c6 := kept_cell hW q6; have c7 := kept_cell hW q7; have c8 := kept_cell hW q8; go_simp)⟩) hS0 ?_
          refine wpAnyH_take (i := 8) (v := .slice (some ⟨g, 0, none⟩) ws.length cap) rfl (by kernel_rfl) (by kernel_rfl) (by kernel_rfl) (fun _ _ _ h => h) (.inl ⟨by kernel_rfl, fun _ _ => by go_simp⟩) hS0 ?_
          refine wpAnyH_take (i := 9) (v := .int .i64 t) rfl (by kernel_rfl) (by kernel_rfl) (by kernel_rfl) (fun _ _ _ h => h) (.inl ⟨by kernel_rfl, fun _ _ => by go_simp⟩) hS0 ?_
          refine wpAnyH_take (i := 10) (v := .slice (some ⟨g, o3, none⟩) (ws.length - t) (cap - t)) rfl (by kernel_rfl) (by kernel_rfl) (by kernel_rfl) (fun _ _ _ h => h) (.inl ⟨by kernel_rfl, fun W hW => by (have ho3 := Ho3.out; first | (go_simp; done) | (go_simp; split <;> rfl))⟩) hS0 ?_
          refine wpAnyH_take (i := 12) (v := .pointer (some ⟨w.heap.size, 1, none⟩)) rfl (by kernel_rfl) (by kernel_rfl) (by kernel_rfl) (fun _ _ _ h => h) (.inl ⟨by kernel_rfl, fun _ _ => by go_simp⟩) hS0 ?_
          refine wpAnyH_take (i := 13) (v := .agg #[.int .i64 x.c.a0, .int .i64 x.c.a1, .int .i64 x.c.a2, .int .i64 x.c.a3, .int .i64 x.c.a4, .int .i64 x.c.a5, .int .i64 x.c.a6, .int .i64 x.c.a7]) rfl (by kernel_rfl) (by kernel_rfl) (by kernel_rfl) (fun _ _ _ h => h) (.inl ⟨by kernel_rfl, fun W hW => by (have c1 := kept_cell hW q1; have c2 := kept_cell hW q2; have c3 := kept_cell hW q3; have c4 := kept_cell hW q4; have c5 := kept_cell hW q5; have c6 := kept_cell hW q6; have c7 := kept_cell hW q7; have c8 := kept_cell hW q8; go_simp)⟩) hS0 ?_
          refine wpAnyH_all (rs := [0, 6]) (by kernel_rfl) (by simp) (List.forall_mem_cons.2 ⟨?_, List.forall_mem_cons.2 ⟨?_, List.forall_mem_nil _⟩⟩)
          · refine opH_run (v := .slice (some ⟨v0.heap.size, 0, none⟩) 0 0) (w' := v0.alloc (.cells #[] 124)) rfl (by kernel_rfl) (by go_simp) ?_
            have own0 := owns_empty v0 124 9 w.heap.size (Nat.le_trans hsz0 hS0.size)
            have hS1 := kept_alloc hS0 (.cells #[] 124)
            have hb0 : wr.heap.size ≤ v0.heap.size := hS0.size
            generalize v0.heap.size = b0 at *
            generalize v0.alloc (.cells #[] 124) = v1 at *
            refine ⟨hS1, ?_⟩
            refine wpAnyH_all (rs := [4, 6]) (by kernel_rfl) (by simp) (List.forall_mem_cons.2 ⟨?_, List.forall_mem_cons.2 ⟨?_, List.forall_mem_nil _⟩⟩)
            · refine opH rfl (by kernel_rfl) ?_
              refine wp_append_any (.tmp 60) (.tmp 63) 110 (by rfl) w.heap.size 124 i0 _ 9 72 Try.underlying110 hi hz0 hz1 hz2 (by rfl) (by decide) b0 0 0 _ (by go_simp) own0 ⟨g, 0, none⟩ t cap _ (by go_simp) (by rw [wlCells_len]; simp; omega) (Hpre.out _ hS1) (wlCells_one _) (by omega) (by decide) (Nat.le_trans hsz0 hS1.size) t (Nat.zero_add t) _ (List.nil_append _) ?_
              intro g1 cap1 v2 own1 hgr hgl1 _
              have hS2 := kept_grown hS1 hgr (fun q hq => by cases hq; exact hb0)
              have hb1 : wr.heap.size ≤ g1 := by rcases hgl1 with e | e; (rw [e]; exact hb0); (rw [e]; exact hS1.size)
              clear hgr hgl1 own0
              refine ⟨hS2, ?_⟩
              refine wpAnyH_all (rs := [6]) (by kernel_rfl) (by simp) (List.forall_mem_cons.2 ⟨?_, List.forall_mem_nil _⟩)
              refine opH_run (v := .slice (some ⟨v2.heap.size, 0, none⟩) 1 1) (w' := v2.alloc (.cells x.arr 124)) rfl (by kernel_rfl) (by unfold W9.arr; go_simp) ?_
              have news1 := news_new v2 x.arr 124
              have hS3 := kept_alloc hS2 (.cells x.arr 124)
              have hb1lt : v2.heap.size < (v2.alloc (.cells x.arr 124)).heap.size := by simp
              have hneown1 : g1 < v2.heap.size := (own1.lt _ rfl).2
              replace own1 := owns_kept own1 (kept_new v2 (.cells x.arr 124))
              generalize v2.heap.size = b1 at *
              generalize v2.alloc (.cells x.arr 124) = v3 at *
              refine ⟨hS3, ?_⟩
              refine wpAnyH_all (rs := [7]) (by kernel_rfl) (by simp) (List.forall_mem_cons.2 ⟨?_, List.forall_mem_nil _⟩)
              refine opH rfl (by kernel_rfl) ?_
              refine wp_append_any (.tmp 64) (.tmp 66) 110 (by rfl) w.heap.size 124 i0 _ 9 72 Try.underlying110 hi hz0 hz1 hz2 (by rfl) (by decide) g1 t cap1 _ (by go_simp) own1 ⟨b1, 0, none⟩ 1 1 _ (by go_simp) rfl news1 (cells9_one x) (by omega) (by decide) (Nat.le_trans hsz0 hS3.size) (t + 1) rfl _ rfl ?_
              intro g2 cap2 v4 own2 hgr hgl2 _
              have hS4 := kept_grown hS3 hgr (fun q hq => by cases hq; exact hb1)
              have hb2 : wr.heap.size ≤ g2 := by rcases hgl2 with e | e; (rw [e]; exact hb1); (rw [e]; exact hS3.size)
              clear hgr hgl2 own1
              refine ⟨hS4, ?_⟩
              refine wpAnyH_all (rs := [11]) (by kernel_rfl) (by simp) (List.forall_mem_cons.2 ⟨?_, List.forall_mem_nil _⟩)
              refine opH rfl (by kernel_rfl) ?_
              refine wp_append_any (.tmp 67) (.tmp 70) 110 (by rfl) w.heap.size 124 i0 _ 9 72 Try.underlying110 hi hz0 hz1 hz2 (by rfl) (by decide) g2 (t + 1) cap2 _ (by go_simp) own2 ⟨g, o3, none⟩ (ws.length - t) (cap - t) _ (by go_simp) (by rw [wlCells_len]; simp) (Hsuf.out _ hS4) (wlCells_one _) (by omega) (by decide) (Nat.le_trans hsz0 hS4.size) (ws.length + 1) (by omega) _ rfl ?_
              intro g3 cap3 v5 own3 hgr hgl3 _
              have hS5 := kept_grown hS4 hgr (fun q hq => by cases hq; exact hb2)
              have hb3 : wr.heap.size ≤ g3 := by rcases hgl3 with e | e; (rw [e]; exact hb2); (rw [e]; exact hS4.size)
              clear hgr hgl3 own2
              refine ⟨hS5, ?_⟩
              refine wpAnyH_all (rs := [14]) (by kernel_rfl) (by simp) (List.forall_mem_cons.2 ⟨?_, List.forall_mem_nil _⟩)
              refine opH_call (f := 77) rfl (by kernel_rfl) (by go_simp; rfl) (cycValid_ok' x.c _) ?_
              rintro e v6 ⟨rfl, hbc⟩
              have hS6 := kept_trans hS5 hbc
              replace own3 := owns_kept own3 hbc
              refine ⟨_, rfl, hS6, ?_⟩
              refine wpAnyH_take (i := 15) (v := .slice (some ⟨g3, 0, none⟩) (ws.length + 1) cap3) rfl (by kernel_rfl) (by kernel_rfl) (by kernel_rfl) (fun _ _ _ h => h) (.inl ⟨by kernel_rfl, fun _ _ => by go_simp⟩) hS6 ?_
              refine wpAnyH_take (i := 16) (v := .bool (x.c.smallB 1000000)) rfl (by kernel_rfl) (by kernel_rfl) (by kernel_rfl) (fun _ _ _ h => h) (.inl ⟨by kernel_rfl, fun _ _ => by go_simp⟩) hS6 ?_
              refine wpAnyH_done (by kernel_rfl) ?_ _
              have hfin := kept_trans Hb.out hS6
              go_simp
              go_wp2_with fail
              go_ret2
              exact ⟨g3, cap3, by rw [Hrad.out, Hln.out, hx]; rfl, by rw [Hln.out, Hcells.out]; exact own3, hfin⟩
            · refine opH_run (v := .slice (some ⟨v1.heap.size, 0, none⟩) 1 1) (w' := v1.alloc (.cells x.arr 124)) rfl (by kernel_rfl) (by unfold W9.arr; go_simp) ?_
              have news1 := news_new v1 x.arr 124
              have hS2 := kept_alloc hS1 (.cells x.arr 124)
              have hb1lt : v1.heap.size < (v1.alloc (.cells x.arr 124)).heap.size := by simp
              have hneown0 : b0 < v1.heap.size := (own0.lt _ rfl).2
              replace own0 := owns_kept own0 (kept_new v1 (.cells x.arr 124))
              generalize v1.heap.size = b1 at *
              generalize v1.alloc (.cells x.arr 124) = v2 at *
              refine ⟨hS2, ?_⟩
              refine wpAnyH_all (rs := [4]) (by kernel_rfl) (by simp) (List.forall_mem_cons.2 ⟨?_, List.forall_mem_nil _⟩)
              refine opH rfl (by kernel_rfl) ?_
              refine wp_append_any (.tmp 60) (.tmp 63) 110 (by rfl) w.heap.size 124 i0 _ 9 72 Try.underlying110 hi hz0 hz1 hz2 (by rfl) (by decide) b0 0 0 _ (by go_simp) own0 ⟨g, 0, none⟩ t cap _ (by go_simp) (by rw [wlCells_len]; simp; omega) (Hpre.out _ hS2) (wlCells_one _) (by omega) (by decide) (Nat.le_trans hsz0 hS2.size) t (Nat.zero_add t) _ (List.nil_append _) ?_
              intro g1 cap1 v3 own1 hgr hgl1 _
              have hS3 := kept_grown hS2 hgr (fun q hq => by cases hq; exact hb0)
              have hb1 : wr.heap.size ≤ g1 := by rcases hgl1 with e | e; (rw [e]; exact hb0); (rw [e]; exact hS2.size)
              replace news1 := news_grown news1 hgr (fun e => by simp only [Option.some.injEq] at e; omega)
              clear hgr hgl1 own0
              refine ⟨hS3, ?_⟩
              refine wpAnyH_all (rs := [7]) (by kernel_rfl) (by simp) (List.forall_mem_cons.2 ⟨?_, List.forall_mem_nil _⟩)
              refine opH rfl (by kernel_rfl) ?_
              refine wp_append_any (.tmp 64) (.tmp 66) 110 (by rfl) w.heap.size 124 i0 _ 9 72 Try.underlying110 hi hz0 hz1 hz2 (by rfl) (by decide) g1 t cap1 _ (by go_simp) own1 ⟨b1, 0, none⟩ 1 1 _ (by go_simp) rfl news1 (cells9_one x) (by omega) (by decide) (Nat.le_trans hsz0 hS3.size) (t + 1) rfl _ rfl ?_
              intro g2 cap2 v4 own2 hgr hgl2 _
              have hS4 := kept_grown hS3 hgr (fun q hq => by cases hq; exact hb1)
              have hb2 : wr.heap.size ≤ g2 := by rcases hgl2 with e | e; (rw [e]; exact hb1); (rw [e]; exact hS3.size)
              clear hgr hgl2 own1
              refine ⟨hS4, ?_⟩
              refine wpAnyH_all (rs := [11]) (by kernel_rfl) (by simp) (List.forall_mem_cons.2 ⟨?_, List.forall_mem_nil _⟩)
              refine opH rfl (by kernel_rfl) ?_
              refine wp_append_any (.tmp 67) (.tmp 70) 110 (by rfl) w.heap.size 124 i0 _ 9 72 Try.underlying110 hi hz0 hz1 hz2 (by rfl) (by decide) g2 (t + 1) cap2 _ (by go_simp) own2 ⟨g, o3, none⟩ (ws.length - t) (cap - t) _ (by go_simp) (by rw [wlCells_len]; simp) (Hsuf.out _ hS4) (wlCells_one _) (by omega) (by decide) (Nat.le_trans hsz0 hS4.size) (ws.length + 1) (by omega) _ rfl ?_
              intro g3 cap3 v5 own3 hgr hgl3 _
              have hS5 := kept_grown hS4 hgr (fun q hq => by cases hq; exact hb2)
              have hb3 : wr.heap.size ≤ g3 := by rcases hgl3 with e | e; (rw [e]; exact hb2); (rw [e]; exact hS4.size)
              clear hgr hgl3 own2
              refine ⟨hS5, ?_⟩
              refine wpAnyH_all (rs := [14]) (by kernel_rfl) (by simp) (List.forall_mem_cons.2 ⟨?_, List.forall_mem_nil _⟩)
              refine opH_call (f := 77) rfl (by kernel_rfl) (by go_simp; rfl) (cycValid_ok' x.c _) ?_
              rintro e v6 ⟨rfl, hbc⟩
              have hS6 := kept_trans hS5 hbc
              replace own3 := owns_kept own3 hbc
              refine ⟨_, rfl, hS6, ?_⟩
              refine wpAnyH_take (i := 15) (v := .slice (some ⟨g3, 0, none⟩) (ws.length + 1) cap3) rfl (by kernel_rfl) (by kernel_rfl) (by kernel_rfl) (fun _ _ _ h => h) (.inl ⟨by kernel_rfl, fun _ _ => by go_simp⟩) hS6 ?_
              refine wpAnyH_take (i := 16) (v := .bool (x.c.smallB 1000000)) rfl (by kernel_rfl) (by kernel_rfl) (by kernel_rfl) (fun _ _ _ h => h) (.inl ⟨by kernel_rfl, fun _ _ => by go_simp⟩) hS6 ?_
              refine wpAnyH_done (by kernel_rfl) ?_ _
              have hfin := kept_trans Hb.out hS6
              go_simp
              go_wp2_with fail
              go_ret2
              exact ⟨g3, cap3, by rw [Hrad.out, Hln.out, hx]; rfl, by rw [Hln.out, Hcells.out]; exact own3, hfin⟩
          · refine opH_run (v := .slice (some ⟨v0.heap.size, 0, none⟩) 1 1) (w' := v0.alloc (.cells x.arr 124)) rfl (by kernel_rfl) (by unfold W9.arr; go_simp) ?_
            have news1 := news_new v0 x.arr 124
            have hS1 := kept_alloc hS0 (.cells x.arr 124)
            have hb1lt : v0.heap.size < (v0.alloc (.cells x.arr 124)).heap.size := by simp
            generalize v0.heap.size = b1 at *
            generalize v0.alloc (.cells x.arr 124) = v1 at *
            refine ⟨hS1, ?_⟩
            refine wpAnyH_all (rs := [0]) (by kernel_rfl) (by simp) (List.forall_mem_cons.2 ⟨?_, List.forall_mem_nil _⟩)
            refine opH_run (v := .slice (some ⟨v1.heap.size, 0, none⟩) 0 0) (w' := v1.alloc (.cells #[] 124)) rfl (by kernel_rfl) (by go_simp) ?_
            have own0 := owns_empty v1 124 9 w.heap.size (Nat.le_trans hsz0 hS1.size)
            have hS2 := kept_alloc hS1 (.cells #[] 124)
            have hb0 : wr.heap.size ≤ v1.heap.size := hS1.size
            replace news1 := news_kept news1 (kept_new v1 (.cells #[] 124))
            have hne : b1 < v1.heap.size := hb1lt
            generalize v1.heap.size = b0 at *
            generalize v1.alloc (.cells #[] 124) = v2 at *
            refine ⟨hS2, ?_⟩
            refine wpAnyH_all (rs := [4]) (by kernel_rfl) (by simp) (List.forall_mem_cons.2 ⟨?_, List.forall_mem_nil _⟩)
            refine opH rfl (by kernel_rfl) ?_
            refine wp_append_any (.tmp 60) (.tmp 63) 110 (by rfl) w.heap.size 124 i0 _ 9 72 Try.underlying110 hi hz0 hz1 hz2 (by rfl) (by decide) b0 0 0 _ (by go_simp) own0 ⟨g, 0, none⟩ t cap _ (by go_simp) (by rw [wlCells_len]; simp; omega) (Hpre.out _ hS2) (wlCells_one _) (by omega) (by decide) (Nat.le_trans hsz0 hS2.size) t (Nat.zero_add t) _ (List.nil_append _) ?_
            intro g1 cap1 v3 own1 hgr hgl1 _
            have hS3 := kept_grown hS2 hgr (fun q hq => by cases hq; exact hb0)
            have hb1 : wr.heap.size ≤ g1 := by rcases hgl1 with e | e; (rw [e]; exact hb0); (rw [e]; exact hS2.size)
            replace news1 := news_grown news1 hgr (fun e => by simp only [Option.some.injEq] at e; omega)
            clear hgr hgl1 own0
            refine ⟨hS3, ?_⟩
            refine wpAnyH_all (rs := [7]) (by kernel_rfl) (by simp) (List.forall_mem_cons.2 ⟨?_, List.forall_mem_nil _⟩)
            refine opH rfl (by kernel_rfl) ?_
            refine wp_append_any (.tmp 64) (.tmp 66) 110 (by rfl) w.heap.size 124 i0 _ 9 72 Try.underlying110 hi hz0 hz1 hz2 (by rfl) (by decide) g1 t cap1 _ (by go_simp) own1 ⟨b1, 0, none⟩ 1 1 _ (by go_simp) rfl news1 (cells9_one x) (by omega) (by decide) (Nat.le_trans hsz0 hS3.size) (t + 1) rfl _ rfl ?_
            intro g2 cap2 v4 own2 hgr hgl2 _
            have hS4 := kept_grown hS3 hgr (fun q hq => by cases hq; exact hb1)
            have hb2 : wr.heap.size ≤ g2 := by rcases hgl2 with e | e; (rw [e]; exact hb1); (rw [e]; exact hS3.size)
            clear hgr hgl2 own1
            refine ⟨hS4, ?_⟩
            refine wpAnyH_all (rs := [11]) (by kernel_rfl) (by simp) (List.forall_mem_cons.2 ⟨?_, List.forall_mem_nil _⟩)
            refine opH rfl (by kernel_rfl) ?_
            refine wp_append_any (.tmp 67) (.tmp 70) 110 (by rfl) w.heap.size 124 i0 _ 9 72 Try.underlying110 hi hz0 hz1 hz2 (by rfl) (by decide) g2 (t + 1) cap2 _ (by go_simp) own2 ⟨g, o3, none⟩ (ws.length - t) (cap - t) _ (by go_simp) (by rw [wlCells_len]; simp) (Hsuf.out _ hS4) (wlCells_one _) (by omega) (by decide) (Nat.le_trans hsz0 hS4.size) (ws.length + 1) (by omega) _ rfl ?_
            intro g3 cap3 v5 own3 hgr hgl3 _
            have hS5 := kept_grown hS4 hgr (fun q hq => by cases hq; exact hb2)
            have hb3 : wr.heap.size ≤ g3 := by rcases hgl3 with e | e; (rw [e]; exact hb2); (rw [e]; exact hS4.size)
            clear hgr hgl3 own2
            refine ⟨hS5, ?_⟩
            refine wpAnyH_all (rs := [14]) (by kernel_rfl) (by simp) (List.forall_mem_cons.2 ⟨?_, List.forall_mem_nil _⟩)
            refine opH_call (f := 77) rfl (by kernel_rfl) (by go_simp; rfl) (cycValid_ok' x.c _) ?_
            rintro e v6 ⟨rfl, hbc⟩
            have hS6 := kept_trans hS5 hbc
            replace own3 := owns_kept own3 hbc
            refine ⟨_, rfl, hS6, ?_⟩
            refine wpAnyH_take (i := 15) (v := .slice (some ⟨g3, 0, none⟩) (ws.length + 1) cap3) rfl (by kernel_rfl) (by kernel_rfl) (by kernel_rfl) (fun _ _ _ h => h) (.inl ⟨by kernel_rfl, fun _ _ => by go_simp⟩) hS6 ?_
            refine wpAnyH_take (i := 16) (v := .bool (x.c.smallB 1000000)) rfl (by kernel_rfl) (by kernel_rfl) (by kernel_rfl) (fun _ _ _ h => h) (.inl ⟨by kernel_rfl, fun _ _ => by go_simp⟩) hS6 ?_
            refine wpAnyH_done (by kernel_rfl) ?_ _
            have hfin := kept_trans Hb.out hS6
            go_simp
            go_wp2_with fail
            go_ret2
            exact ⟨g3, cap3, by rw [Hrad.out, Hln.out, hx]; rfl, by rw [Hln.out, Hcells.out]; exact own3, hfin⟩
      · have g1 : (0 : Int) ≤ (t : Int) := by omega
        obtain ⟨hadd, hrad⟩ := (addW_at (w := x) hk Hlow.out hge ha).2 (fun h => absurd h hkl)
        have Hcells : Hid (wlCells (addW ws x) = wlCells (ws.take t) ++ x.arr.toList ++ wlCells (ws.drop t)) := by rw [hadd]; show _ = _; simp [wlCells, W9.arr, W9.cells]
        have Hln : Hid ((addW ws x).length = ws.length + 1) := by rw [hadd]; show _ = _; simp; omega
        have Hrad := hide hrad
        clear hadd hrad hge
        obtain ⟨-, q1, q2, q3, q4, q5, q6, q7, q8⟩ := blk9_cells hbx
        have ⟨o3, ho3⟩ : ∃ o3, o3 = (if cap = t then 0 else t * 9) := ⟨_, rfl⟩
        have Ho3 := hide ho3
        have Hpre : Hid (∀ W, Below wr.heap.size wr W → ∀ (j : Nat) u, (wlCells (ws.take t))[j]? = some u → W.cell? ((⟨g, 0, none⟩ : Addr).add j) = some u) := fun W hW => news_take (below_cells (kept_trans hb hW) hgl Hrd.out) t
        have Hsuf : Hid (∀ W, Below wr.heap.size wr W → ∀ (j : Nat) u, (wlCells (ws.drop t))[j]? = some u → W.cell? ((⟨g, o3, none⟩ : Addr).add j) = some u) := fun W hW => news_drop (below_cells (kept_trans hb hW) hgl Hrd.out) t _ (fun h => absurd h hkl)
        have hsz0 : w.heap.size ≤ wr.heap.size := hb.size
        have Hb := hide hb
        have g3 : (t : Int) ≤ (cap : Int) := by omega
        have hd : decide ((t : Int) < (ws.length : Int)) = false := decide_eq_false (by omega)
        clear hown ha hsm hb hlt ht ho3
        go_wp2_with fail
        go_quiet (fail)
        rename Nat => n1
        go_wp2_with fail
        go_quiet (fail)
        rename Nat => n2
        go_wp2_with fail
        have hS0 : Below wr.heap.size wr ((wr.drewN n1).drewN n2).drew := (kept_trans (kept_drewN wr n1) (kept_drewN _ n2)).drew
        refine wp_region_held (S := fun W => Below wr.heap.size wr W) (by kernel_rfl) ?_
        change wpAnyH _ _ _ _ _ _ _ _ ((wr.drewN n1).drewN n2).drew
        generalize ((wr.drewN n1).drewN n2).drew = v0 at hS0 ⊢
        --R8
        refine wpAnyH_take (i := 1) (v := .slice (some ⟨g, 0, none⟩) ws.length cap) rfl (by kernel_rfl) (by kernel_rfl) (by kernel_rfl) (fun _ _ _ h => h) (.inl ⟨by kernel_rfl, fun _ _ => by go_simp⟩) hS0 ?_
        refine wpAnyH_take (i := 2) (v := .int .i64 t) rfl (by kernel_rfl) (by kernel_rfl) (by kernel_rfl) (fun _ _ _ h => h) (.inl ⟨by kernel_rfl, fun _ _ => by go_simp⟩) hS0 ?_
        refine wpAnyH_take (i := 3) (v := .slice (some ⟨g, 0, none⟩) t cap) rfl (by kernel_rfl) (by kernel_rfl) (by kernel_rfl) (fun _ _ _ h => h) (.inl ⟨by kernel_rfl, fun _ _ => by go_simp⟩) hS0 ?_
        refine wpAnyH_take (i := 5) (v := .agg #[.int .i64 x.s, .int .i64 x.c.a0, .int .i64 x.c.a1, .int .i64 x.c.a2, .int .i64 x.c.a3, .int .i64 x.c.a4, .int .i64 x.c.a5, .int .i64 x.c.a6, .int .i64 x.c.a7]) rfl (by kernel_rfl) (by kernel_rfl) (by kernel_rfl) (fun _ _ _ h => h) (.inl ⟨by kernel_rfl, fun W hW => by (have c0 := kept_cell hW e1'; have c1 := kept_cell hW q1; have c2 := kept_cell hW q2; have c3 := kept_cell hW q3; have c4 := kept_cell hW q4; have c5 := kept_cell hW q5; have c6 := kept_cell hW q6; have c7 := kept_cell hW q7; have c8 := kept_cell hW q8; go_simp)⟩) hS0 ?_
        refine wpAnyH_take (i := 8) (v := .slice (some ⟨g, 0, none⟩) ws.length cap) rfl (by kernel_rfl) (by kernel_rfl) (by kernel_rfl) (fun _ _ _ h => h) (.inl ⟨by kernel_rfl, fun _ _ => by go_simp⟩) hS0 ?_
        refine wpAnyH_take (i := 9) (v := .int .i64 t) rfl (by kernel_rfl) (by kernel_rfl) (by kernel_rfl) (fun _ _ _ h => h) (.inl ⟨by kernel_rfl, fun _ _ => by go_simp⟩) hS0 ?_
        refine wpAnyH_take (i := 10) (v := .slice (some ⟨g, o3, none⟩) (ws.length - t) (cap - t)) rfl (by kernel_rfl) (by kernel_rfl) (by kernel_rfl) (fun _ _ _ h => h) (.inl ⟨by kernel_rfl, fun W hW => by (have ho3 := Ho3.out; first | (go_simp; done) | (go_simp; split <;> rfl))⟩) hS0 ?_
        refine wpAnyH_take (i := 12) (v := .pointer (some ⟨w.heap.size, 1, none⟩)) rfl (by kernel_rfl) (by kernel_rfl) (by kernel_rfl) (fun _ _ _ h => h) (.inl ⟨by kernel_rfl, fun _ _ => by go_simp⟩) hS0 ?_
        refine wpAnyH_take (i := 13) (v := .agg #[.int .i64 x.c.a0, .int .i64 x.c.a1, .int .i64 x.c.a2, .int .i64 x.c.a3, .int .i64 x.c.a4, .int .i64 x.c.a5, .int .i64 x.c.a6, .int .i64 x.c.a7]) rfl (by kernel_rfl) (by kernel_rfl) (by kernel_rfl) (fun _ _ _ h => h) (.inl ⟨by kernel_rfl, fun W hW => by (have c1 := kept_cell hW q1; have c2 := kept_cell hW q2; have c3 := kept_cell hW q3; have c4 := kept_cell hW q4; have c5 := kept_cell hW q5; have c6 := kept_cell hW q6; have c7 := kept_cell hW q7; have c8 := kept_cell hW q8; go_simp)⟩) hS0 ?_
        refine wpAnyH_all (rs := [0, 6]) (by kernel_rfl) (by simp) (List.forall_mem_cons.2 ⟨?_, List.forall_mem_cons.2 ⟨?_, List.forall_mem_nil _⟩⟩)
        · refine opH_run (v := .slice (some ⟨v0.heap.size, 0, none⟩) 0 0) (w' := v0.alloc (.cells #[] 124)) rfl (by kernel_rfl) (by go_simp) ?_
          have own0 := owns_empty v0 124 9 w.heap.size (Nat.le_trans hsz0 hS0.size)
          have hS1 := kept_alloc hS0 (.cells #[] 124)
          have hb0 : wr.heap.size ≤ v0.heap.size := hS0.size
          generalize v0.heap.size = b0 at *
          generalize v0.alloc (.cells #[] 124) = v1 at *
          refine ⟨hS1, ?_⟩
          refine wpAnyH_all (rs := [4, 6]) (by kernel_rfl) (by simp) (List.forall_mem_cons.2 ⟨?_, List.forall_mem_cons.2 ⟨?_, List.forall_mem_nil _⟩⟩)
          · refine opH rfl (by kernel_rfl) ?_
            refine wp_append_any (.tmp 60) (.tmp 63) 110 (by rfl) w.heap.size 124 i0 _ 9 72 Try.underlying110 hi hz0 hz1 hz2 (by rfl) (by decide) b0 0 0 _ (by go_simp) own0 ⟨g, 0, none⟩ t cap _ (by go_simp) (by rw [wlCells_len]; simp; omega) (Hpre.out _ hS1) (wlCells_one _) (by omega) (by decide) (Nat.le_trans hsz0 hS1.size) t (Nat.zero_add t) _ (List.nil_append _) ?_
            intro g1 cap1 v2 own1 hgr hgl1 _
            have hS2 := kept_grown hS1 hgr (fun q hq => by cases hq; exact hb0)
            have hb1 : wr.heap.size ≤ g1 := by rcases hgl1 with e | e; (rw [e]; exact hb0); (rw [e]; exact hS1.size)
            clear hgr hgl1 own0
            refine ⟨hS2, ?_⟩
            refine wpAnyH_all (rs := [6]) (by kernel_rfl) (by simp) (List.forall_mem_cons.2 ⟨?_, List.forall_mem_nil _⟩)
            refine opH_run (v := .slice (some ⟨v2.heap.size, 0, none⟩) 1 1) (w' := v2.alloc (.cells x.arr 124)) rfl (by kernel_rfl) (by unfold W9.arr; go_simp) ?_
            have news1 := news_new v2 x.arr 124
            have hS3 := kept_alloc hS2 (.cells x.arr 124)
            have hb1lt : v2.heap.size < (v2.alloc (.cells x.arr 124)).heap.size := by simp
            have hneown1 : g1 < v2.heap.size := (own1.lt _ rfl).2
            replace own1 := owns_kept own1 (kept_new v2 (.cells x.arr 124))
            generalize v2.heap.size = b1 at *
            generalize v2.alloc (.cells x.arr 124) = v3 at *
            refine ⟨hS3, ?_⟩
            refine wpAnyH_all (rs := [7]) (by kernel_rfl) (by simp) (List.forall_mem_cons.2 ⟨?_, List.forall_mem_nil _⟩)
            refine opH rfl (by kernel_rfl) ?_
            refine wp_append_any (.tmp 64) (.tmp 66) 110 (by rfl) w.heap.size 124 i0 _ 9 72 Try.underlying110 hi hz0 hz1 hz2 (by rfl) (by decide) g1 t cap1 _ (by go_simp) own1 ⟨b1, 0, none⟩ 1 1 _ (by go_simp) rfl news1 (cells9_one x) (by omega) (by decide) (Nat.le_trans hsz0 hS3.size) (t + 1) rfl _ rfl ?_
            intro g2 cap2 v4 own2 hgr hgl2 _
            have hS4 := kept_grown hS3 hgr (fun q hq => by cases hq; exact hb1)
            have hb2 : wr.heap.size ≤ g2 := by rcases hgl2 with e | e; (rw [e]; exact hb1); (rw [e]; exact hS3.size)
            clear hgr hgl2 own1
            refine ⟨hS4, ?_⟩
            refine wpAnyH_all (rs := [11]) (by kernel_rfl) (by simp) (List.forall_mem_cons.2 ⟨?_, List.forall_mem_nil _⟩)
            refine opH rfl (by kernel_rfl) ?_
            refine wp_append_any (.tmp 67) (.tmp 70) 110 (by rfl) w.heap.size 124 i0 _ 9 72 Try.underlying110 hi hz0 hz1 hz2 (by rfl) (by decide) g2 (t + 1) cap2 _ (by go_simp) own2 ⟨g, o3, none⟩ (ws.length - t) (cap - t) _ (by go_simp) (by rw [wlCells_len]; simp) (Hsuf.out _ hS4) (wlCells_one _) (by omega) (by decide) (Nat.le_trans hsz0 hS4.size) (ws.length + 1) (by omega) _ rfl ?_
            intro g3 cap3 v5 own3 hgr hgl3 _
            have hS5 := kept_grown hS4 hgr (fun q hq => by cases hq; exact hb2)
            have hb3 : wr.heap.size ≤ g3 := by rcases hgl3 with e | e; (rw [e]; exact hb2); (rw [e]; exact hS4.size)
            clear hgr hgl3 own2
            refine ⟨hS5, ?_⟩
            refine wpAnyH_all (rs := [14]) (by kernel_rfl) (by simp) (List.forall_mem_cons.2 ⟨?_, List.forall_mem_nil _⟩)
            refine opH_call (f := 77) rfl (by kernel_rfl) (by go_simp; rfl) (cycValid_ok' x.c _) ?_
            rintro e v6 ⟨rfl, hbc⟩
            have hS6 := kept_trans hS5 hbc
            replace own3 := owns_kept own3 hbc
            refine ⟨_, rfl, hS6, ?_⟩
            refine wpAnyH_take (i := 15) (v := .slice (some ⟨g3, 0, none⟩) (ws.length + 1) cap3) rfl (by kernel_rfl) (by kernel_rfl) (by kernel_rfl) (fun _ _ _ h => h) (.inl ⟨by kernel_rfl, fun _ _ => by go_simp⟩) hS6 ?_
            refine wpAnyH_take (i := 16) (v := .bool (x.c.smallB 1000000)) rfl (by kernel_rfl) (by kernel_rfl) (by kernel_rfl) (fun _ _ _ h => h) (.inl ⟨by kernel_rfl, fun _ _ => by go_simp⟩) hS6 ?_
            refine wpAnyH_done (by kernel_rfl) ?_ _
            have hfin := kept_trans Hb.out hS6
            go_simp
            go_wp2_with fail
            go_ret2
            exact ⟨g3, cap3, by rw [Hrad.out, Hln.out, hx]; rfl, by rw [Hln.out, Hcells.out]; exact own3, hfin⟩
          · refine opH_run (v := .slice (some ⟨v1.heap.size, 0, none⟩) 1 1) (w' := v1.alloc (.cells x.arr 124)) rfl (by kernel_rfl) (by unfold W9.arr; go_simp) ?_
            have news1 := news_new v1 x.arr 124
            have hS2 := kept_alloc hS1 (.cells x.arr 124)
            have hb1lt : v1.heap.size < (v1.alloc (.cells x.arr 124)).heap.size := by simp
            have hneown0 : b0 < v1.heap.size := (own0.lt _ rfl).2
            replace own0 := owns_kept own0 (kept_new v1 (.cells x.arr 124))
            generalize v1.heap.size = b1 at *
            generalize v1.alloc (.cells x.arr 124) = v2 at *
            refine ⟨hS2, ?_⟩
            refine wpAnyH_all (rs := [4]) (by kernel_rfl) (by simp) (List.forall_mem_cons.2 ⟨?_, List.forall_mem_nil _⟩)
            refine opH rfl (by kernel_rfl) ?_
            refine wp_append_any (.tmp 60) (.tmp 63) 110 (by rfl) w.heap.size 124 i0 _ 9 72 Try.underlying110 hi hz0 hz1 hz2 (by rfl) (by decide) b0 0 0 _ (by go_simp) own0 ⟨g, 0, none⟩ t cap _ (by go_simp) (by rw [wlCells_len]; simp; omega) (Hpre.out _ hS2) (wlCells_one _) (by omega) (by decide) (Nat.le_trans hsz0 hS2.size) t (Nat.zero_add t) _ (List.nil_append _) ?_
            intro g1 cap1 v3 own1 hgr hgl1 _
            have hS3 := kept_grown hS2 hgr (fun q hq => by cases hq; exact hb0)
            have hb1 : wr.heap.size ≤ g1 := by rcases hgl1 with e | e; (rw [e]; exact hb0); (rw [e]; exact hS2.size)
            replace news1 := news_grown news1 hgr (fun e => by simp only [Option.some.injEq] at e; omega)
            clear hgr hgl1 own0
            refine ⟨hS3, ?_⟩
            refine wpAnyH_all (rs := [7]) (by kernel_rfl) (by simp) (List.forall_mem_cons.2 ⟨?_, List.forall_mem_nil _⟩)
            refine opH rfl (by kernel_rfl) ?_
            refine wp_append_any (.tmp 64) (.tmp 66) 110 (by rfl) w.heap.size 124 i0 _ 9 72 Try.underlying110 hi hz0 hz1 hz2 (by rfl) (by decide) g1 t cap1 _ (by go_simp) own1 ⟨b1, 0, none⟩ 1 1 _ (by go_simp) rfl news1 (cells9_one x) (by omega) (by decide) (Nat.le_trans hsz0 hS3.size) (t + 1) rfl _ rfl ?_
            intro g2 cap2 v4 own2 hgr hgl2 _
            have hS4 := kept_grown hS3 hgr (fun q hq => by cases hq; exact hb1)
            have hb2 : wr.heap.size ≤ g2 := by rcases hgl2 with e | e; (rw [e]; exact hb1); (rw [e]; exact hS3.size)
            clear hgr hgl2 own1
            refine ⟨hS4, ?_⟩
            refine wpAnyH_all (rs := [11]) (by kernel_rfl) (by simp) (List.forall_mem_cons.2 ⟨?_, List.forall_mem_nil _⟩)
            refine opH rfl (by kernel_rfl) ?_
            refine wp_append_any (.tmp 67) (.tmp 70) 110 (by rfl) w.heap.size 124 i0 _ 9 72 Try.underlying110 hi hz0 hz1 hz2 (by rfl) (by decide) g2 (t + 1) cap2 _ (by go_simp) own2 ⟨g, o3, none⟩ (ws.length - t) (cap - t) _ (by go_simp) (by rw [wlCells_len]; simp) (Hsuf.out _ hS4) (wlCells_one _) (by omega) (by decide) (Nat.le_trans hsz0 hS4.size) (ws.length + 1) (by omega) _ rfl ?_
            intro g3 cap3 v5 own3 hgr hgl3 _
            have hS5 := kept_grown hS4 hgr (fun q hq => by cases hq; exact hb2)
            have hb3 : wr.heap.size ≤ g3 := by rcases hgl3 with e | e; (rw [e]; exact hb2); (rw [e]; exact hS4.size)
            clear hgr hgl3 own2
            refine ⟨hS5, ?_⟩
            refine wpAnyH_all (rs := [14]) (by kernel_rfl) (by simp) (List.forall_mem_cons.2 ⟨?_, List.forall_mem_nil _⟩)
            refine opH_call (f := 77) rfl (by kernel_rfl) (by go_simp; rfl) (cycValid_ok' x.c _) ?_
            rintro e v6 ⟨rfl, hbc⟩
            have hS6 := kept_trans hS5 hbc
            replace own3 := owns_kept own3 hbc
            refine ⟨_, rfl, hS6, ?_⟩
            refine wpAnyH_take (i := 15) (v := .slice (some ⟨g3, 0, none⟩) (ws.length + 1) cap3) rfl (by kernel_rfl) (by kernel_rfl) (by kernel_rfl) (fun _ _ _ h => h) (.inl ⟨by kernel_rfl, fun _ _ => by go_simp⟩) hS6 ?_
            refine wpAnyH_take (i := 16) (v := .bool (x.c.smallB 1000000)) rfl (by kernel_rfl) (by kernel_rfl) (by kernel_rfl) (fun _ _ _ h => h) (.inl ⟨by kernel_rfl, fun _ _ => by go_simp⟩) hS6 ?_
            refine wpAnyH_done (by kernel_rfl) ?_ _
            have hfin := kept_trans Hb.out hS6
            go_simp
            go_wp2_with fail
            go_ret2
            exact ⟨g3, cap3, by rw [Hrad.out, Hln.out, hx]; rfl, by rw [Hln.out, Hcells.out]; exact own3, hfin⟩
        · refine opH_run (v := .slice (some ⟨v0.heap.size, 0, none⟩) 1 1) (w' := v0.alloc (.cells x.arr 124)) rfl (by kernel_rfl) (by unfold W9.arr; go_simp) ?_
          have news1 := news_new v0 x.arr 124
          have hS1 := kept_alloc hS0 (.cells x.arr 124)
          have hb1lt : v0.heap.size < (v0.alloc (.cells x.arr 124)).heap.size := by simp
          generalize v0.heap.size = b1 at *
          generalize v0.alloc (.cells x.arr 124) = v1 at *
          refine ⟨hS1, ?_⟩
          refine wpAnyH_all (rs := [0]) (by kernel_rfl) (by simp) (List.forall_mem_cons.2 ⟨?_, List.forall_mem_nil _⟩)
          refine opH_run (v := .slice (some ⟨v1.heap.size, 0, none⟩) 0 0) (w' := v1.alloc (.cells #[] 124)) rfl (by kernel_rfl) (by go_simp) ?_
          have own0 := owns_empty v1 124 9 w.heap.size (Nat.le_trans hsz0 hS1.size)
          have hS2 := kept_alloc hS1 (.cells #[] 124)
          have hb0 : wr.heap.size ≤ v1.heap.size := hS1.size
          replace news1 := news_kept news1 (kept_new v1 (.cells #[] 124))
          have hne : b1 < v1.heap.size := hb1lt
          generalize v1.heap.size = b0 at *
          generalize v1.alloc (.cells #[] 124) = v2 at *
          refine ⟨hS2, ?_⟩
          refine wpAnyH_all (rs := [4]) (by kernel_rfl) (by simp) (List.forall_mem_cons.2 ⟨?_, List.forall_mem_nil _⟩)
          refine opH rfl (by kernel_rfl) ?_
          refine wp_append_any (.tmp 60) (.tmp 63) 110 (by rfl) w.heap.size 124 i0 _ 9 72 Try.underlying110 hi hz0 hz1 hz2 (by rfl) (by decide) b0 0 0 _ (by go_simp) own0 ⟨g, 0, none⟩ t cap _ (by go_simp) (by rw [wlCells_len]; simp; omega) (Hpre.out _ hS2) (wlCells_one _) (by omega) (by decide) (Nat.le_trans hsz0 hS2.size) t (Nat.zero_add t) _ (List.nil_append _) ?_
          intro g1 cap1 v3 own1 hgr hgl1 _
          have hS3 := kept_grown hS2 hgr (fun q hq => by cases hq; exact hb0)
          have hb1 : wr.heap.size ≤ g1 := by rcases hgl1 with e | e; (rw [e]; exact hb0); (rw [e]; exact hS2.size)
          replace news1 := news_grown news1 hgr (fun e => by simp only [Option.some.injEq] at e; omega)
          clear hgr hgl1 own0
          refine ⟨hS3, ?_⟩
          refine wpAnyH_all (rs := [7]) (by kernel_rfl) (by simp) (List.forall_mem_cons.2 ⟨?_, List.forall_mem_nil _⟩)
          refine opH rfl (by kernel_rfl) ?_
          refine wp_append_any (.tmp 64) (.tmp 66) 110 (by rfl) w.heap.size 124 i0 _ 9 72 Try.underlying110 hi hz0 hz1 hz2 (by rfl) (by decide) g1 t cap1 _ (by go_simp) own1 ⟨b1, 0, none⟩ 1 1 _ (by go_simp) rfl news1 (cells9_one x) (by omega) (by decide) (Nat.le_trans hsz0 hS3.size) (t + 1) rfl _ rfl ?_
          intro g2 cap2 v4 own2 hgr hgl2 _
          have hS4 := kept_grown hS3 hgr (fun q hq => by cases hq; exact hb1)
          have hb2 : wr.heap.size ≤ g2 := by rcases hgl2 with e | e; (rw [e]; exact hb1); (rw [e]; exact hS3.size)
          clear hgr hgl2 own1
          refine ⟨hS4, ?_⟩
          refine wpAnyH_all (rs := [11]) (by kernel_rfl) (by simp) (List.forall_mem_cons.2 ⟨?_, List.forall_mem_nil _⟩)
          refine opH rfl (by kernel_rfl) ?_
          refine wp_append_any (.tmp 67) (.tmp 70) 110 (by rfl) w.heap.size 124 i0 _ 9 72 Try.underlying110 hi hz0 hz1 hz2 (by rfl) (by decide) g2 (t + 1) cap2 _ (by go_simp) own2 ⟨g, o3, none⟩ (ws.length - t) (cap - t) _ (by go_simp) (by rw [wlCells_len]; simp) (Hsuf.out _ hS4) (wlCells_one _) (by omega) (by decide) (Nat.le_trans hsz0 hS4.size) (ws.length + 1) (by omega) _ rfl ?_
          intro g3 cap3 v5 own3 hgr hgl3 _
          have hS5 := kept_grown hS4 hgr (fun q hq => by cases hq; exact hb2)
          have hb3 : wr.heap.size ≤ g3 := by rcases hgl3 with e | e; (rw [e]; exact hb2); (rw [e]; exact hS4.size)
          clear hgr hgl3 own2
          refine ⟨hS5, ?_⟩
          refine wpAnyH_all (rs := [14]) (by kernel_rfl) (by simp) (List.forall_mem_cons.2 ⟨?_, List.forall_mem_nil _⟩)
          refine opH_call (f := 77) rfl (by kernel_rfl) (by go_simp; rfl) (cycValid_ok' x.c _) ?_
          rintro e v6 ⟨rfl, hbc⟩
          have hS6 := kept_trans hS5 hbc
          replace own3 := owns_kept own3 hbc
          refine ⟨_, rfl, hS6, ?_⟩
          refine wpAnyH_take (i := 15) (v := .slice (some ⟨g3, 0, none⟩) (ws.length + 1) cap3) rfl (by kernel_rfl) (by kernel_rfl) (by kernel_rfl) (fun _ _ _ h => h) (.inl ⟨by kernel_rfl, fun _ _ => by go_simp⟩) hS6 ?_
          refine wpAnyH_take (i := 16) (v := .bool (x.c.smallB 1000000)) rfl (by kernel_rfl) (by kernel_rfl) (by kernel_rfl) (fun _ _ _ h => h) (.inl ⟨by kernel_rfl, fun _ _ => by go_simp⟩) hS6 ?_
          refine wpAnyH_done (by kernel_rfl) ?_ _
          have hfin := kept_trans Hb.out hS6
          go_simp
          go_wp2_with fail
          go_ret2
          exact ⟨g3, cap3, by rw [Hrad.out, Hln.out, hx]; rfl, by rw [Hln.out, Hcells.out]; exact own3, hfin⟩

end Go.Proofs.Ytnlmiemnblppbaa
