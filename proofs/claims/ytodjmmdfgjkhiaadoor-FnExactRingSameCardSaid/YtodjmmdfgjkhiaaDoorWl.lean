/-
  Lists of wheels: copies, comparisons, marks.
-/
import Derived.Test.YtodjmmdfgjkhiaaDoorW9
namespace Go.Proofs.YtodjmmdfgjkhiaaDoor
open Go.RowKit

set_option maxRecDepth 100000 in
set_option maxHeartbeats 1000000 in
theorem eqWheelS_ok (v v' : Value) (ws : List W9) (w : World) (hr : Reads w 9 v ws.length (wlCells ws)) (hr' : Reads w 9 v' ws.length (wlCells ws)) :
    Calls Tryd.prog 7 #[v, v'] w fun e w' => e = .returned (.bool true) ∧ Below w.heap.size w w' := by
  obtain ⟨_, hm, A, c, rfl, hc⟩ := hr
  obtain ⟨_, _, A', c', rfl, hc'⟩ := hr'
  go_enter Tryd.func7, Tryd.ntmps7
  go_wp2_with fail
  go_loopw [5] (fun i wr => ∃ t : Nat, t ≤ ws.length ∧ i = .int .i64 t ∧ Below w.heap.size w wr) (fun i _ => ws.length - (intOf i).toNat)
  case atStart => exact ⟨0, by omega, rfl, Below.refl _ _⟩
  case round =>
    obtain ⟨t, ht, rfl, hb⟩ := hrel
    by_cases hlt : t < ws.length
    · obtain ⟨b, o, rfl, hbl, hcell⟩ := hc (by omega) (by omega)
      obtain ⟨b', o', rfl, hbl', hcell'⟩ := hc' (by omega) (by omega)
      have hA := wl_cells (below_cells hb hbl hcell) t hlt
      have hB := wl_cells (below_cells hb hbl' hcell') t hlt
      clear hcell hc hcell' hc'
      generalize ws[t] = m at hA hB
      obtain ⟨p0, p1, p2, p3, p4, p5, p6, p7, p8⟩ := hA
      obtain ⟨q0, q1, q2, q3, q4, q5, q6, q7, q8⟩ := hB
      go_wp2_with fail
      go_still_tail 8, (by kernel_rfl)
      go_wp2_with fail
      refine (eqWheel_ok m _).mono ?_
      rintro e w1 ⟨rfl, hb1⟩
      go_wp2_with fail
      go_roundw
      case rel => exact ⟨t + 1, by omega, by go_num, kept_trans hb.drew hb1⟩
      case measure => simp [intOf]; omega
    · go_wp2_with fail
      go_ret
      exact ⟨rfl, hb⟩

set_option maxRecDepth 100000 in
set_option maxHeartbeats 1000000 in
theorem heldWheelS_ok (v : Value) (n : Nat) (k : Int) (w : World) (hr : Reads w 9 v n (marks k (n * 9))) (hk : 0 ≤ k) (hk2 : k + n * 9 ≤ 9223372036854775807) :
    Calls Tryd.prog 9 #[v, .int .i64 k] w fun e w' => e = .returned (.int .i64 (k + n * 9)) ∧ w = w' := by
  obtain ⟨_, hm, A, c, rfl, hc⟩ := hr
  go_enter Tryd.func9, Tryd.ntmps9
  go_wp2_with fail
  go_loop [1, 5] (fun q i => ∃ t : Nat, t ≤ n ∧ i = .int .i64 t ∧ q = .int .i64 (k + t * 9)) (fun _ i => n - (intOf i).toNat)
  case atStart => exact ⟨0, by omega, rfl, by simp⟩
  case round =>
    obtain ⟨t, ht, rfl, rfl⟩ := hrel
    by_cases hlt : t < n
    · obtain ⟨b, o, rfl, hbl, hcell⟩ := hc (by omega) (by omega)
      have h1 : ∀ s : Nat, s < 9 → w.cell? ⟨b, o + t * 9 + s, none⟩ = some (.int .i64 (k + t * 9 + s)) := fun s hs => by
        rw [Nat.add_assoc, hcell (t * 9 + s) (by omega), marks_get _ _ _ (by omega)]
        simp; omega
      have h0 : w.cell? ⟨b, o + t * 9, none⟩ = some (.int .i64 (k + t * 9)) := by have := h1 0 (by omega); simpa using this
      have H1 := hide fun (s : Nat) (hs : s < 8) => show w.cell? ⟨b, o + t * 9 + 1 + s, none⟩ = some (.int .i64 (k + t * 9 + 1 + s)) by
        have := h1 (s + 1) (by omega)
        rw [show o + t * 9 + 1 + s = o + t * 9 + (s + 1) from by omega, this]
        simp; omega
      clear hcell hc h1
      go_wp2_with fail
      go_loop [1, 6] (fun q i => ∃ s : Nat, s ≤ 8 ∧ i = .int .i64 s ∧ q = .int .i64 (k + t * 9 + 1 + s)) (fun _ i => 8 - (intOf i).toNat)
      case atStart => exact ⟨0, by omega, rfl, by simp⟩
      case round =>
        obtain ⟨s, hs, rfl, rfl⟩ := hrel
        by_cases hlt' : s < 8
        · have h1 := H1.out s hlt'
          go_wp2_with fail
          go_round
          case rel => exact ⟨s + 1, by omega, by go_num, by go_num⟩
          case measure => simp [intOf]; omega
        · obtain rfl : s = 8 := by omega
          go_wp2_with fail
          go_round
          case rel => exact ⟨t + 1, by omega, by go_num, by go_num⟩
          case measure => simp [intOf]; omega
    · obtain rfl : t = n := by omega
      go_wp2_with fail
      go_ret
      exact ⟨rfl, rfl⟩

/-- What a copy of wheels gives: a slice of its own with these wheels. -/
def WlNew (ws : List W9) (w : World) (e : Ending) (w' : World) : Prop :=
  ∃ v, e = .returned v ∧ w'.ownsRow w.heap.size 38 9 v ws.length (wlCells ws) ∧ Below w.heap.size w w'

set_option maxRecDepth 100000 in
set_option maxHeartbeats 1000000 in
theorem markWheelS_ok (B n : Nat) (v : Value) (xs : List Value) (k : Int) (w : World) (hw : Has w B 9 v n xs) (hk : 0 ≤ k) (hk2 : k + n * 9 ≤ 9223372036854775807) :
    Calls Tryd.prog 8 #[v, .int .i64 k] w fun e w' => e = .returned (.int .i64 (k + n * 9)) ∧ Has w' B 9 v n (marks k (n * 9)) ∧ w.grownBy w' v.ownBlock := by
  rcases has_cases hw with ⟨rfl, rfl⟩ | ⟨g, cap, rfl, hB, hg, hm, _, _⟩
  · go_enter Tryd.func8, Tryd.ntmps8
    go_wp2_with fail
    refine wp_loop_rounds 1 ?_; rw [rounds_succ]
    go_wp2
    go_ret
    exact ⟨by simp, ⟨by simp [marks], by omega, .inl ⟨rfl, rfl⟩⟩, World.grownBy.refl _ _⟩
  · have hlen := hw.1
    go_enter Tryd.func8, Tryd.ntmps8
    go_wp2_with fail
    go_loopw [1, 5] (fun q i wr => ∃ t : Nat, t ≤ n ∧ i = .int .i64 t ∧ q = .int .i64 (k + t * 9) ∧ Has wr B 9 (.slice (some ⟨g, 0, none⟩) n cap) n (marks k (t * 9) ++ xs.drop (t * 9)) ∧ w.grownBy wr (some g)) (fun _ i _ => n - (intOf i).toNat)
    case atStart => exact ⟨0, by omega, rfl, by simp, by simpa [marks] using hw, World.grownBy.refl _ _⟩
    case round =>
      obtain ⟨t, ht, rfl, rfl, how, hgr⟩ := hrel
      by_cases hlt : t < n
      · obtain ⟨hcl, hfr⟩ : (∀ j, j < n * 9 → wr.cell? ⟨g, j, none⟩ = (marks k (t * 9) ++ xs.drop (t * 9))[j]?) ∧ (∀ j, wr.frozen? ⟨g, j, none⟩ = false) := by
          rcases has_cases how with ⟨h', _⟩ | ⟨g', cap', h', _, _, _, h1, h2⟩
          · simp at h'
          · simp only [Value.slice.injEq, Option.some.injEq, Addr.mk.injEq, and_true, true_and] at h'
            obtain ⟨rfl, rfl⟩ := h'
            exact ⟨h1, h2⟩
        have hsz : (marks k (t * 9) ++ xs.drop (t * 9)).length = xs.length := by simp [length_marks]; omega
        obtain ⟨u0, k0⟩ : ∃ u, wr.cell? ⟨g, t * 9, none⟩ = some u := by
          rw [hcl _ (by omega)]
          exact ⟨_, List.getElem?_eq_getElem (by omega)⟩
        have f0 := hfr (t * 9)
        obtain ⟨s1, g1⟩ := has_stored how (t * 9) (.int .i64 (k + (t * 9 : Nat)))
        rw [marks_set k (t * 9) xs (by omega)] at s1
        have gg := grown_trans' hgr g1
        rw [show (k + (t * 9 : Nat) : Int) = k + t * 9 from by omega] at s1 gg
        have S1 := hide s1
        have GG := hide gg
        clear how hgr g1 hsz hcl hfr s1 gg
        go_wp2_with fail
        go_loopw [1, 6] (fun q i ws => ∃ s : Nat, s ≤ 8 ∧ i = .int .i64 s ∧ q = .int .i64 (k + t * 9 + 1 + s) ∧ Has ws B 9 (.slice (some ⟨g, 0, none⟩) n cap) n (marks k (t * 9 + 1 + s) ++ xs.drop (t * 9 + 1 + s)) ∧ w.grownBy ws (some g)) (fun _ i _ => 8 - (intOf i).toNat)
        case atStart => exact ⟨0, by omega, rfl, by simp, by simpa using S1.out, GG.out⟩
        case round =>
          clear S1 GG k0 f0
          obtain ⟨s, hs, rfl, rfl, how, hgr⟩ := hrel
          by_cases hlt' : s < 8
          · obtain ⟨hcl, hfr⟩ : (∀ j, j < n * 9 → wr.cell? ⟨g, j, none⟩ = (marks k (t * 9 + 1 + s) ++ xs.drop (t * 9 + 1 + s))[j]?) ∧ (∀ j, wr.frozen? ⟨g, j, none⟩ = false) := by
              rcases has_cases how with ⟨h', _⟩ | ⟨g', cap', h', _, _, _, h1, h2⟩
              · simp at h'
              · simp only [Value.slice.injEq, Option.some.injEq, Addr.mk.injEq, and_true, true_and] at h'
                obtain ⟨rfl, rfl⟩ := h'
                exact ⟨h1, h2⟩
            have hsz : (marks k (t * 9 + 1 + s) ++ xs.drop (t * 9 + 1 + s)).length = xs.length := by simp [length_marks]; omega
            obtain ⟨u0, k0⟩ : ∃ u, wr.cell? ⟨g, t * 9 + 1 + s, none⟩ = some u := by
              rw [hcl _ (by omega)]
              exact ⟨_, List.getElem?_eq_getElem (by omega)⟩
            have f0 := hfr (t * 9 + 1 + s)
            obtain ⟨s1, g1⟩ := has_stored how (t * 9 + 1 + s) (.int .i64 (k + (t * 9 + 1 + s : Nat)))
            rw [marks_set k (t * 9 + 1 + s) xs (by omega)] at s1
            have gg := grown_trans' hgr g1
            rw [show (k + (t * 9 + 1 + s : Nat) : Int) = k + t * 9 + 1 + s from by omega] at s1 gg
            clear how hgr g1 hw hsz hcl hfr
            go_wp2_with fail
            go_roundw
            case rel => exact ⟨s + 1, by omega, by go_num, by go_num, s1, gg⟩
            case measure => simp [intOf]; omega
          · obtain rfl : s = 8 := by omega
            go_wp2_with fail
            go_roundw
            case rel => exact ⟨t + 1, by omega, by go_num, by go_num, by rw [show (t + 1) * 9 = t * 9 + 1 + 8 from by omega]; exact how, hgr⟩
            case measure => simp [intOf]; omega
      · obtain rfl : t = n := by omega
        go_wp2_with fail
        go_ret
        exact ⟨rfl, by simpa [List.drop_of_length_le, hlen] using how, hgr⟩

end Go.Proofs.YtodjmmdfgjkhiaaDoor
