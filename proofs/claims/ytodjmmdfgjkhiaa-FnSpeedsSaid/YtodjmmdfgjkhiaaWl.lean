/-
  Lists of wheels: copies, comparisons, marks.
-/
import Derived.Test.YtodjmmdfgjkhiaaW9
namespace Go.Proofs.Ytodjmmdfgjkhiaa
open Go.RowKit

set_option maxRecDepth 100000 in
set_option maxHeartbeats 1000000 in
theorem eqWheelS_ok (v v' : Value) (ws : List W9) (w : World) (hr : Reads w 9 v ws.length (wlCells ws)) (hr' : Reads w 9 v' ws.length (wlCells ws)) :
    Calls Try.prog 14 #[v, v'] w fun e w' => e = .returned (.bool true) ∧ Below w.heap.size w w' := by
  obtain ⟨_, hm, A, c, rfl, hc⟩ := hr
  obtain ⟨_, _, A', c', rfl, hc'⟩ := hr'
  go_enter Try.func14, Try.ntmps14
  go_wp2_with fail
  go_loopw [5] (fun i wr => ∃ t : Nat, t ≤ ws.length ∧ i = .int .i64 t ∧ Below w.heap.size w wr) (fun i _ => ws.length - (intOf i).toNat)
  case atStart => exact ⟨0, by omega, rfl, Below.refl _ _⟩
  case round =>
    obtain ⟨t, ht, rfl, hb⟩ := hrel
    by_cases hlt : t < ws.length
    · obtain ⟨b, o, rfl, hbl, hcell⟩ := hc (by omega) (by omega)
      obtain ⟨b', o', rfl, hbl', hcell'⟩ := hc' (by omega) (by omega)
      have hA := wl_cells (below_cells hb hbl hcell) t hlt
      have hB := wl_cells (below_cells hb hbl' hcell') t hlt
      clear hcell hc hcell' hc'
      generalize ws[t] = m at hA hB
      obtain ⟨p0, p1, p2, p3, p4, p5, p6, p7, p8⟩ := hA
      obtain ⟨q0, q1, q2, q3, q4, q5, q6, q7, q8⟩ := hB
      go_wp2_with fail
      go_still_tail 8, (by kernel_rfl)
      go_wp2_with fail
      refine (eqWheel_ok m _).mono ?_
      rintro e w1 ⟨rfl, hb1⟩
      go_wp2_with fail
      go_roundw
      case rel => exact ⟨t + 1, by omega, by go_num, kept_trans hb.drew hb1⟩
      case measure => simp [intOf]; omega
    · go_wp2_with fail
      go_ret
      exact ⟨rfl, hb⟩

set_option maxRecDepth 100000 in
set_option maxHeartbeats 1000000 in
theorem heldWheelS_ok (v : Value) (n : Nat) (k : Int) (w : World) (hr : Reads w 9 v n (marks k (n * 9))) (hk : 0 ≤ k) (hk2 : k + n * 9 ≤ 9223372036854775807) :
    Calls Try.prog 27 #[v, .int .i64 k] w fun e w' => e = .returned (.int .i64 (k + n * 9)) ∧ w = w' := by
  obtain ⟨_, hm, A, c, rfl, hc⟩ := hr
  go_enter Try.func27, Try.ntmps27
  go_wp2_with fail
  go_loop [1, 5] (fun q i => ∃ t : Nat, t ≤ n ∧ i = .int .i64 t ∧ q = .int .i64 (k + t * 9)) (fun _ i => n - (intOf i).toNat)
  case atStart => exact ⟨0, by omega, rfl, by simp⟩
  case round =>
    obtain ⟨t, ht, rfl, rfl⟩ := hrel
    by_cases hlt : t < n
    · obtain ⟨b, o, rfl, hbl, hcell⟩ := hc (by omega) (by omega)
      have h1 : ∀ s : Nat, s < 9 → w.cell? ⟨b, o + t * 9 + s, none⟩ = some (.int .i64 (k + t * 9 + s)) := fun s hs => by
        rw [Nat.add_assoc, hcell (t * 9 + s) (by omega), marks_get _ _ _ (by omega)]
        simp; omega
      have h0 : w.cell? ⟨b, o + t * 9, none⟩ = some (.int .i64 (k + t * 9)) := by have := h1 0 (by omega); simpa using this
      have H1 := hide fun (s : Nat) (hs : s < 8) => show w.cell? ⟨b, o + t * 9 + 1 + s, none⟩ = some (.int .i64 (k + t * 9 + 1 + s)) by
        have := h1 (s + 1) (by omega)
        rw [show o + t * 9 + 1 + s = o + t * 9 + (s + 1) from by omega, this]
        simp; omega
      clear hcell hc h1
      go_wp2_with fail
      go_loop [1, 6] (fun q i => ∃ s : Nat, s ≤ 8 ∧ i = .int .i64 s ∧ q = .int .i64 (k + t * 9 + 1 + s)) (fun _ i => 8 - (intOf i).toNat)
      case atStart => exact ⟨0, by omega, rfl, by simp⟩
      case round =>
        obtain ⟨s, hs, rfl, rfl⟩ := hrel
        by_cases hlt' : s < 8
        · have h1 := H1.out s hlt'
          go_wp2_with fail
          go_round
          case rel => exact ⟨s + 1, by omega, by go_num, by go_num⟩
          case measure => simp [intOf]; omega
        · obtain rfl : s = 8 := by omega
          go_wp2_with fail
          go_round
          case rel => exact ⟨t + 1, by omega, by go_num, by go_num⟩
          case measure => simp [intOf]; omega
    · obtain rfl : t = n := by omega
      go_wp2_with fail
      go_ret
      exact ⟨rfl, rfl⟩

/-- What a copy of wheels gives: a slice of its own with these wheels. -/
def WlNew (ws : List W9) (w : World) (e : Ending) (w' : World) : Prop :=
  ∃ v, e = .returned v ∧ w'.ownsRow w.heap.size 49 9 v ws.length (wlCells ws) ∧ Below w.heap.size w w'

set_option maxRecDepth 100000 in
set_option maxHeartbeats 4000000 in
theorem toWheelS_ok (v : Value) (ws : List W9) (w : World) (hr : Reads w 9 v ws.length (wlCells ws)) (hn : ws.length ≤ 1048576) :
    Calls Try.prog 11 #[v] w (WlNew ws w) := by
  obtain ⟨i0, hi, hz0, hz1, hz2⟩ := info_parts Try.infoW
  obtain ⟨_, hm, A, c, rfl, hc⟩ := hr
  go_enter Try.func11, Try.ntmps11
  go_wp2_with (at_make; refine wpList_make_full _ rfl _ _ 29 rfl w.heap.size 49 i0 _ 9 Try.underlying29 hi hz0 hz1 _ _ _ _ ws.length rfl rfl rfl rfl (by rw [hz2]; omega) (by unfold maxLen; omega) (Nat.le_refl _) ?_)
  intro w1 hown hgrow
  have hb1 := kept_of_grown hgrow
  have hlt0 := (hown.lt _ rfl).2
  clear hgrow
  go_wp2_with fail
  go_loopw [4] (fun i wr => ∃ (t : Nat) (zs : List Value), t ≤ ws.length ∧ i = .int .i64 t ∧ zs.length = (ws.length - t) * 9 ∧ wr.ownsRow w.heap.size 49 9 (.slice (some ⟨w.heap.size, 0, none⟩) ws.length ws.length) ws.length (wlCells (ws.take t) ++ zs) ∧ Below w.heap.size w wr) (fun i _ => ws.length - (intOf i).toNat)
  case atStart =>
    have hl := hown.1
    exact ⟨0, _, by omega, rfl, hl.trans (by simp), by simpa [wlCells] using hown, hb1⟩
  case round =>
    obtain ⟨t, zs, ht, rfl, hzl, how, hb⟩ := hrel
    by_cases hlt : t < ws.length
    · obtain ⟨b, o, rfl, hbl, hcell⟩ := hc (by omega) (by omega)
      have hA := wl_cells (below_cells hb hbl hcell) t hlt
      clear hcell hc
      obtain ⟨u0, u1, u2, u3, u4, u5, u6, u7, u8, zs', rfl, hzl'⟩ := nine_of_len zs (ws.length - (t + 1)) (by omega)
      have hmt := wlCells_succ ws t hlt
      generalize ws[t] = m at hA hmt
      obtain ⟨p0, p1, p2, p3, p4, p5, p6, p7, p8⟩ := hA
      have Hmt := hide hmt
      have Hzl := hide hzl'
      clear hmt hzl hzl'
      go_wp2_with fail
      refine (toWheel_ok m _).mono ?_
      rintro e w2 ⟨rfl, hb2⟩
      have how2 := owns_kept how hb2
      have hlen : (wlCells (ws.take t)).length = t * 9 := by rw [wlCells_len]; simp; omega
      have hk : ∀ j : Nat, j < 9 → w2.cell? ⟨w.heap.size, t * 9 + j, none⟩ = [u0, u1, u2, u3, u4, u5, u6, u7, u8][j]? := fun j hj => by
        rw [how2.cellAt _ (by omega), List.getElem?_append_right (by omega), hlen]
        rw [show t * 9 + j - t * 9 = j from by omega]
        rcases nine hj with rfl | rfl | rfl | rfl | rfl | rfl | rfl | rfl | rfl <;> rfl
      have k0 : w2.cell? ⟨w.heap.size, t * 9, none⟩ = some u0 := hk 0 (by omega)
      have k1 : w2.cell? ⟨w.heap.size, t * 9 + 1, none⟩ = some u1 := hk 1 (by omega)
      have k2 : w2.cell? ⟨w.heap.size, t * 9 + 2, none⟩ = some u2 := hk 2 (by omega)
      have k3 : w2.cell? ⟨w.heap.size, t * 9 + 3, none⟩ = some u3 := hk 3 (by omega)
      have k4 : w2.cell? ⟨w.heap.size, t * 9 + 4, none⟩ = some u4 := hk 4 (by omega)
      have k5 : w2.cell? ⟨w.heap.size, t * 9 + 5, none⟩ = some u5 := hk 5 (by omega)
      have k6 : w2.cell? ⟨w.heap.size, t * 9 + 6, none⟩ = some u6 := hk 6 (by omega)
      have k7 : w2.cell? ⟨w.heap.size, t * 9 + 7, none⟩ = some u7 := hk 7 (by omega)
      have k8 : w2.cell? ⟨w.heap.size, t * 9 + 8, none⟩ = some u8 := hk 8 (by omega)
      have f0 := fun j => how2.frozenAt j
      have s0 := (how2.stored (t * 9) (.int .i64 m.s)).1
      have s1 := (s0.stored (t * 9 + 1) (.int .i64 m.c.a0)).1
      have s2 := (s1.stored (t * 9 + 2) (.int .i64 m.c.a1)).1
      have s3 := (s2.stored (t * 9 + 3) (.int .i64 m.c.a2)).1
      have s4 := (s3.stored (t * 9 + 4) (.int .i64 m.c.a3)).1
      have s5 := (s4.stored (t * 9 + 5) (.int .i64 m.c.a4)).1
      have s6 := (s5.stored (t * 9 + 6) (.int .i64 m.c.a5)).1
      have s7 := (s6.stored (t * 9 + 7) (.int .i64 m.c.a6)).1
      have s8 := (s7.stored (t * 9 + 8) (.int .i64 m.c.a7)).1
      rw [set_nine _ _ _ _ _ _ _ _ _ _ _ _ _ hlen.symm] at s8
      have hle : w.heap.size ≤ w2.heap.size := Nat.le_trans hb.size hb2.size
      clear how how2 s0 s1 s2 s3 s4 s5 s6 s7 hk
      rw [val9_spell]
      go_wp2_with fail
      go_roundw
      case rel => exact ⟨t + 1, zs', by omega, by go_num, Hzl.out, by rw [Hmt.out]; exact s8, kept_set (kept_set (kept_set (kept_set (kept_set (kept_set (kept_set (kept_set (kept_set (kept_trans hb hb2) (Nat.le_refl _) _) (Nat.le_refl _) _) (Nat.le_refl _) _) (Nat.le_refl _) _) (Nat.le_refl _) _) (Nat.le_refl _) _) (Nat.le_refl _) _) (Nat.le_refl _) _) (Nat.le_refl _) _⟩
      case measure => simp [intOf]; omega
    · obtain rfl : t = ws.length := by omega
      have hz : zs = [] := List.eq_nil_of_length_eq_zero (by omega)
      subst hz
      have how' : wr.ownsRow w.heap.size 49 9 (.slice (some ⟨w.heap.size, 0, none⟩) ws.length ws.length) ws.length (wlCells ws) := by simpa using how
      clear how
      go_wp2_with fail
      go_ret
      exact ⟨_, rfl, how', hb⟩

set_option maxRecDepth 100000 in
set_option maxHeartbeats 1000000 in
theorem markWheelS_ok (B n : Nat) (v : Value) (xs : List Value) (k : Int) (w : World) (hw : Has w B 9 v n xs) (hk : 0 ≤ k) (hk2 : k + n * 9 ≤ 9223372036854775807) :
    Calls Try.prog 22 #[v, .int .i64 k] w fun e w' => e = .returned (.int .i64 (k + n * 9)) ∧ Has w' B 9 v n (marks k (n * 9)) ∧ w.grownBy w' v.ownBlock := by
  rcases has_cases hw with ⟨rfl, rfl⟩ | ⟨g, cap, rfl, hB, hg, hm, _, _⟩
  · go_enter Try.func22, Try.ntmps22
    go_wp2_with fail
    refine wp_loop_rounds 1 ?_; rw [rounds_succ]
    go_wp2
    go_ret
    exact ⟨by simp, ⟨by simp [marks], by omega, .inl ⟨rfl, rfl⟩⟩, World.grownBy.refl _ _⟩
  · have hlen := hw.1
    go_enter Try.func22, Try.ntmps22
    go_wp2_with fail
    go_loopw [1, 5] (fun q i wr => ∃ t : Nat, t ≤ n ∧ i = .int .i64 t ∧ q = .int .i64 (k + t * 9) ∧ Has wr B 9 (.slice (some ⟨g, 0, none⟩) n cap) n (marks k (t * 9) ++ xs.drop (t * 9)) ∧ w.grownBy wr (some g)) (fun _ i _ => n - (intOf i).toNat)
    case atStart => exact ⟨0, by omega, rfl, by simp, by simpa [marks] using hw, World.grownBy.refl _ _⟩
    case round =>
      obtain ⟨t, ht, rfl, rfl, how, hgr⟩ := hrel
      by_cases hlt : t < n
      · obtain ⟨hcl, hfr⟩ : (∀ j, j < n * 9 → wr.cell? ⟨g, j, none⟩ = (marks k (t * 9) ++ xs.drop (t * 9))[j]?) ∧ (∀ j, wr.frozen? ⟨g, j, none⟩ = false) := by
          rcases has_cases how with ⟨h', _⟩ | ⟨g', cap', h', _, _, _, h1, h2⟩
          · simp at h'
          · simp only [Value.slice.injEq, Option.some.injEq, Addr.mk.injEq, and_true, true_and] at h'
            obtain ⟨rfl, rfl⟩ := h'
            exact ⟨h1, h2⟩
        have hsz : (marks k (t * 9) ++ xs.drop (t * 9)).length = xs.length := by simp [length_marks]; omega
        obtain ⟨u0, k0⟩ : ∃ u, wr.cell? ⟨g, t * 9, none⟩ = some u := by
          rw [hcl _ (by omega)]
          exact ⟨_, List.getElem?_eq_getElem (by omega)⟩
        have f0 := hfr (t * 9)
        obtain ⟨s1, g1⟩ := has_stored how (t * 9) (.int .i64 (k + (t * 9 : Nat)))
        rw [marks_set k (t * 9) xs (by omega)] at s1
        have gg := grown_trans' hgr g1
        rw [show (k + (t * 9 : Nat) : Int) = k + t * 9 from by omega] at s1 gg
        have S1 := hide s1
        have GG := hide gg
        clear how hgr g1 hsz hcl hfr s1 gg
        go_wp2_with fail
        go_loopw [1, 6] (fun q i ws => ∃ s : Nat, s ≤ 8 ∧ i = .int .i64 s ∧ q = .int .i64 (k + t * 9 + 1 + s) ∧ Has ws B 9 (.slice (some ⟨g, 0, none⟩) n cap) n (marks k (t * 9 + 1 + s) ++ xs.drop (t * 9 + 1 + s)) ∧ w.grownBy ws (some g)) (fun _ i _ => 8 - (intOf i).toNat)
        case atStart => exact ⟨0, by omega, rfl, by simp, by simpa using S1.out, GG.out⟩
        case round =>
          clear S1 GG k0 f0
          obtain ⟨s, hs, rfl, rfl, how, hgr⟩ := hrel
          by_cases hlt' : s < 8
          · obtain ⟨hcl, hfr⟩ : (∀ j, j < n * 9 → wr.cell? ⟨g, j, none⟩ = (marks k (t * 9 + 1 + s) ++ xs.drop (t * 9 + 1 + s))[j]?) ∧ (∀ j, wr.frozen? ⟨g, j, none⟩ = false) := by
              rcases has_cases how with ⟨h', _⟩ | ⟨g', cap', h', _, _, _, h1, h2⟩
              · simp at h'
              · simp only [Value.slice.injEq, Option.some.injEq, Addr.mk.injEq, and_true, true_and] at h'
                obtain ⟨rfl, rfl⟩ := h'
                exact ⟨h1, h2⟩
            have hsz : (marks k (t * 9 + 1 + s) ++ xs.drop (t * 9 + 1 + s)).length = xs.length := by simp [length_marks]; omega
            obtain ⟨u0, k0⟩ : ∃ u, wr.cell? ⟨g, t * 9 + 1 + s, none⟩ = some u := by
              rw [hcl _ (by omega)]
              exact ⟨_, List.getElem?_eq_getElem (by omega)⟩
            have f0 := hfr (t * 9 + 1 + s)
            obtain ⟨s1, g1⟩ := has_stored how (t * 9 + 1 + s) (.int .i64 (k + (t * 9 + 1 + s : Nat)))
            rw [marks_set k (t * 9 + 1 + s) xs (by omega)] at s1
            have gg := grown_trans' hgr g1
            rw [show (k + (t * 9 + 1 + s : Nat) : Int) = k + t * 9 + 1 + s from by omega] at s1 gg
            clear how hgr g1 hw hsz hcl hfr
            go_wp2_with fail
            go_roundw
            case rel => exact ⟨s + 1, by omega, by go_num, by go_num, s1, gg⟩
            case measure => simp [intOf]; omega
          · obtain rfl : s = 8 := by omega
            go_wp2_with fail
            go_roundw
            case rel => exact ⟨t + 1, by omega, by go_num, by go_num, by rw [show (t + 1) * 9 = t * 9 + 1 + 8 from by omega]; exact how, hgr⟩
            case measure => simp [intOf]; omega
      · obtain rfl : t = n := by omega
        go_wp2_with fail
        go_ret
        exact ⟨rfl, by simpa [List.drop_of_length_le, hlen] using how, hgr⟩

end Go.Proofs.Ytodjmmdfgjkhiaa
