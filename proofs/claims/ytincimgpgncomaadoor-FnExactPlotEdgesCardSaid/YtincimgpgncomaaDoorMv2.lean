/-
  Moves: copies, comparisons, marks; MovesLength of the program and of the reference.
-/
import Derived.Test.YtincimgpgncomaaDoorMv1
import Derived.Deep.RegionHeld3
import Derived.BigRegion
namespace Go.Proofs.YtincimgpgncomaaDoor
open Go.RowKit

theorem eqMove_ok (x y : Int) (w : World) :
    Calls Tryd.prog 24 #[.agg #[.int .i64 x, .int .i64 y], .agg #[.int .i64 x, .int .i64 y]] w fun e w' => e = .returned (.bool true) ∧ Below w.heap.size w w' := by
  go_enter Tryd.func24, Tryd.ntmps24
  go_wp2_with fail
  go_ret
  exact ⟨rfl, kept_alloc (kept_new _ _) _⟩

set_option maxRecDepth 100000 in
set_option maxHeartbeats 400000 in
theorem eqMoveS_ok (v v' : Value) (ms : List (Int × Int)) (w : World) (hr : Reads w 2 v ms.length (mvCells ms)) (hr' : Reads w 2 v' ms.length (mvCells ms)) :
    Calls Tryd.prog 30 #[v, v'] w fun e w' => e = .returned (.bool true) ∧ Below w.heap.size w w' := by
  obtain ⟨_, hm, A, c, rfl, hc⟩ := hr
  obtain ⟨_, _, A', c', rfl, hc'⟩ := hr'
  go_enter Tryd.func30, Tryd.ntmps30
  go_wp2_with fail
  go_loopw [5] (fun i wr => ∃ t : Nat, t ≤ ms.length ∧ i = .int .i64 t ∧ Below w.heap.size w wr) (fun i _ => ms.length - (intOf i).toNat)
  case atStart => exact ⟨0, by omega, rfl, Below.refl _ _⟩
  case round =>
    obtain ⟨t, ht, rfl, hb⟩ := hrel
    by_cases hlt : t < ms.length
    · obtain ⟨b, o, rfl, hbl, hcell⟩ := hc (by omega) (by omega)
      obtain ⟨b', o', rfl, hbl', hcell'⟩ := hc' (by omega) (by omega)
      have h1 := (hb.cell (p := ⟨b, o + t * 2, none⟩) hbl).trans ((hcell (t * 2) (by omega)).trans (mvCells_x ms t hlt))
      have h2 : wr.cell? ⟨b, o + t * 2 + 1, none⟩ = _ := (hb.cell (p := ⟨b, o + t * 2 + 1, none⟩) hbl).trans ((hcell (t * 2 + 1) (by omega)).trans (mvCells_y ms t hlt))
      have h1' := (hb.cell (p := ⟨b', o' + t * 2, none⟩) hbl').trans ((hcell' (t * 2) (by omega)).trans (mvCells_x ms t hlt))
      have h2' : wr.cell? ⟨b', o' + t * 2 + 1, none⟩ = _ := (hb.cell (p := ⟨b', o' + t * 2 + 1, none⟩) hbl').trans ((hcell' (t * 2 + 1) (by omega)).trans (mvCells_y ms t hlt))
      clear hcell hc hcell' hc'
      generalize ms[t] = m at h1 h2 h1' h2'
      obtain ⟨x, y⟩ := m
      dsimp only at h1 h2 h1' h2'
      go_wp2_with fail
      go_still_tail 8, (by kernel_rfl)
      go_wp2_with fail
      refine (eqMove_ok x y _).mono ?_
      rintro e w1 ⟨rfl, hb1⟩
      go_wp2_with fail
      go_roundw
      case rel => exact ⟨t + 1, by omega, by go_num, kept_trans hb.drew hb1⟩
      case measure => simp [intOf]; omega
    · go_wp2_with fail
      go_ret
      exact ⟨rfl, hb⟩

theorem Tryd.infoMv : (Tryd.prog.info? 30).map (fun i => (i.zero, i.size, i.bytes)) = some (some (.agg #[.int .i64 0, .int .i64 0]), 2, 16) := by kernel_rfl

theorem mvCells_succ (ms : List (Int × Int)) (t : Nat) (h : t < ms.length) (x y : Int) (hm : ms[t] = (x, y)) : mvCells (ms.take (t + 1)) = mvCells (ms.take t) ++ [.int .i64 x, .int .i64 y] := by
  rw [List.take_succ_eq_append_getElem h, hm]
  simp [mvCells]

theorem set_two (ys zs : List Value) (u0 u1 a b : Value) (k : Nat) (hk : k = ys.length) : ((ys ++ u0 :: u1 :: zs).set k a).set (k + 1) b = ys ++ [a, b] ++ zs := by
  subst hk
  simp

theorem two_of_len (zs : List Value) (n : Nat) (h : zs.length = (n + 1) * 2) : ∃ u0 u1 zs', zs = u0 :: u1 :: zs' ∧ zs'.length = n * 2 := by
  match zs, h with
  | u0 :: u1 :: zs', h => exact ⟨u0, u1, zs', rfl, by simp at h; omega⟩
  | [], h => simp at h
  | [_], h => simp at h; omega

/-- What a copy of moves gives: a slice of its own with these moves. -/
def MvNew (ms : List (Int × Int)) (w : World) (e : Ending) (w' : World) : Prop :=
  ∃ v, e = .returned v ∧ w'.ownsRow w.heap.size 30 2 v ms.length (mvCells ms) ∧ Below w.heap.size w w'

set_option maxHeartbeats 1000000 in
theorem heldMoveS_ok (v : Value) (n : Nat) (k : Int) (w : World) (hr : Reads w 2 v n (marks k (n * 2))) (hk : 0 ≤ k) (hk2 : k + n * 2 ≤ 9223372036854775807) :
    Calls Tryd.prog 32 #[v, .int .i64 k] w fun e w' => e = .returned (.int .i64 (k + n * 2)) ∧ w = w' := by
  obtain ⟨_, hm, A, c, rfl, hc⟩ := hr
  go_enter Tryd.func32, Tryd.ntmps32
  go_wp2_with fail
  go_loop [1, 5] (fun q i => ∃ t : Nat, t ≤ n ∧ i = .int .i64 t ∧ q = .int .i64 (k + t * 2)) (fun _ i => n - (intOf i).toNat)
  case atStart => exact ⟨0, by omega, rfl, by simp⟩
  case round =>
    obtain ⟨t, ht, rfl, rfl⟩ := hrel
    by_cases hlt : t < n
    · obtain ⟨b, o, rfl, hbl, hcell⟩ := hc (by omega) (by omega)
      have h1 : w.cell? ⟨b, o + t * 2, none⟩ = some (.int .i64 (k + t * 2)) := by
        rw [hcell (t * 2) (by omega), marks_get _ _ _ (by omega)]
        simp
      have h2 : w.cell? ⟨b, o + t * 2 + 1, none⟩ = some (.int .i64 (k + t * 2 + 1)) := by
        have e := hcell (t * 2 + 1) (by omega)
        rw [marks_get _ _ _ (by omega)] at e
        refine e.trans ?_
        simp; omega
      clear hcell hc
      go_wp2_with fail
      go_round
      case rel => exact ⟨t + 1, by omega, by go_num, by go_num⟩
      case measure => simp [intOf]; omega
    · obtain rfl : t = n := by omega
      go_wp2_with fail
      go_ret
      exact ⟨rfl, rfl⟩

set_option maxHeartbeats 1000000 in
theorem markMoveS_ok (B n : Nat) (v : Value) (xs : List Value) (k : Int) (w : World) (hw : Has w B 2 v n xs) (hk : 0 ≤ k) (hk2 : k + n * 2 ≤ 9223372036854775807) :
    Calls Tryd.prog 31 #[v, .int .i64 k] w fun e w' => e = .returned (.int .i64 (k + n * 2)) ∧ Has w' B 2 v n (marks k (n * 2)) ∧ w.grownBy w' v.ownBlock := by
  rcases has_cases hw with ⟨rfl, rfl⟩ | ⟨g, cap, rfl, hB, hg, hm, _, _⟩
  · go_enter Tryd.func31, Tryd.ntmps31
    go_wp2_with fail
    refine wp_loop_rounds 1 ?_; rw [rounds_succ]
    go_wp2
    go_ret
    exact ⟨by simp, ⟨by simp [marks], by omega, .inl ⟨rfl, rfl⟩⟩, World.grownBy.refl _ _⟩
  · have hlen := hw.1
    go_enter Tryd.func31, Tryd.ntmps31
    go_wp2_with fail
    go_loopw [1, 5] (fun q i wr => ∃ t : Nat, t ≤ n ∧ i = .int .i64 t ∧ q = .int .i64 (k + t * 2) ∧ Has wr B 2 (.slice (some ⟨g, 0, none⟩) n cap) n (marks k (t * 2) ++ xs.drop (t * 2)) ∧ w.grownBy wr (some g)) (fun _ i _ => n - (intOf i).toNat)
    case atStart => exact ⟨0, by omega, rfl, by simp, by simpa [marks] using hw, World.grownBy.refl _ _⟩
    case round =>
      obtain ⟨t, ht, rfl, rfl, how, hgr⟩ := hrel
      by_cases hlt : t < n
      · obtain ⟨hcl, hfr⟩ : (∀ j, j < n * 2 → wr.cell? ⟨g, j, none⟩ = (marks k (t * 2) ++ xs.drop (t * 2))[j]?) ∧ (∀ j, wr.frozen? ⟨g, j, none⟩ = false) := by
          rcases has_cases how with ⟨h', _⟩ | ⟨g', cap', h', _, _, _, h1, h2⟩
          · simp at h'
          · simp only [Value.slice.injEq, Option.some.injEq, Addr.mk.injEq, and_true, true_and] at h'
            obtain ⟨rfl, rfl⟩ := h'
            exact ⟨h1, h2⟩
        have hsz : (marks k (t * 2) ++ xs.drop (t * 2)).length = xs.length := by simp [length_marks]; omega
        obtain ⟨u0, k0⟩ : ∃ u, wr.cell? ⟨g, t * 2, none⟩ = some u := by
          rw [hcl _ (by omega)]
          exact ⟨_, List.getElem?_eq_getElem (by omega)⟩
        obtain ⟨u1, k1⟩ : ∃ u, wr.cell? ⟨g, t * 2 + 1, none⟩ = some u := by
          rw [hcl _ (by omega)]
          exact ⟨_, List.getElem?_eq_getElem (by omega)⟩
        have f0 := hfr (t * 2)
        have f1 := hfr (t * 2 + 1)
        obtain ⟨s1, g1⟩ := has_stored how (t * 2) (.int .i64 (k + (t * 2 : Nat)))
        rw [marks_set k (t * 2) xs (by omega)] at s1
        obtain ⟨s2, g2⟩ := has_stored s1 (t * 2 + 1) (.int .i64 (k + (t * 2 + 1 : Nat)))
        rw [marks_set k (t * 2 + 1) xs (by omega)] at s2
        have gg := grown_trans' (grown_trans' hgr g1) g2
        rw [show (k + (t * 2 : Nat) : Int) = k + t * 2 from by omega, show (k + (t * 2 + 1 : Nat) : Int) = k + t * 2 + 1 from by omega] at s2 gg
        clear how hgr s1 g1 g2 hw hsz hcl hfr
        go_wp2_with fail
        go_roundw
        case rel => exact ⟨t + 1, by omega, by go_num, by go_num, by rw [show (t + 1) * 2 = t * 2 + 1 + 1 from by omega]; exact s2, gg⟩
        case measure => simp [intOf]; omega
      · obtain rfl : t = n := by omega
        go_wp2_with fail
        go_ret
        exact ⟨rfl, by simpa [List.drop_of_length_le, hlen] using how, hgr⟩

def mvLen (m : Int × Int) : Int := max m.1 (-m.1) + max m.2 (-m.2)
def mvSum (ms : List (Int × Int)) (t : Nat) : Int := ((ms.take t).map mvLen).sum
def movesLen (ms : List (Int × Int)) : Int := if mvsIn ms then mvSum ms ms.length else -1

theorem mvSum_succ (ms : List (Int × Int)) (t : Nat) (h : t < ms.length) (x y : Int) (hm : ms[t] = (x, y)) : mvSum ms (t + 1) = mvSum ms t + (max x (-x) + max y (-y)) := by
  unfold mvSum
  rw [List.take_succ_eq_append_getElem h, hm]
  simp [mvLen]

theorem mvSum_bd (ms : List (Int × Int)) (h : mvsUpto ms ms.length) (t : Nat) (ht : t ≤ ms.length) : 0 ≤ mvSum ms t ∧ mvSum ms t ≤ 20000000 * t := by
  induction t with
  | zero => simp [mvSum]
  | succ t ih =>
    have i := ih (by omega)
    have v := h t (by omega) (by omega)
    rw [mvSum_succ ms t (by omega) (ms[t]).1 (ms[t]).2 rfl]
    obtain ⟨a, b, c, d⟩ := v
    omega

theorem mvsIn_parts {ms : List (Int × Int)} (h : mvsIn ms = true) : ms.length ≤ 100 ∧ mvsUpto ms ms.length := by
  simp only [mvsIn, Bool.and_eq_true, List.all_eq_true, decide_eq_true_eq] at h
  exact ⟨h.1, fun i hi _ => h.2 _ (List.getElem_mem hi)⟩

theorem max_if (x : Int) : (if x < -x then -x else x) = max x (-x) := by split <;> omega

set_option maxHeartbeats 1000000 in
theorem implLen_ok (v : Value) (ms : List (Int × Int)) (w : World) (hr : Reads w 2 v ms.length (mvCells ms)) :
    Calls Tryd.prog 39 #[v] w fun e w' => e = .returned (.int .i64 (movesLen ms)) ∧ Below w.heap.size w w' := by
  have Hr := hide hr
  obtain ⟨_, hm, A, c, rfl, hc⟩ := hr
  cases hin : mvsIn ms with
  | false =>
    have Hfin : Hid (movesLen ms = -1) := by simp [movesLen, hin, Hid]
    have Hin := hide hin
    clear hin
    go_enter Tryd.func39, Tryd.ntmps39
    go_wp2_with fail
    refine (movesValid_ok _ ms _ Hr.out).mono ?_
    rintro e w1 ⟨rfl, hb1⟩
    rw [Hin.out]
    go_wp2_with fail
    go_ret
    exact ⟨by rw [Hfin.out]; rfl, hb1⟩
  | true =>
    have Hfin : Hid (movesLen ms = mvSum ms ms.length) := by simp [movesLen, hin, Hid]
    obtain ⟨hl, hup⟩ := mvsIn_parts hin
    have Hup := hide hup
    have Hin := hide hin
    clear hin hup
    go_enter Tryd.func39, Tryd.ntmps39
    go_wp2_with fail
    refine (movesValid_ok _ ms _ Hr.out).mono ?_
    rintro e w1 ⟨rfl, hb1⟩
    rw [Hin.out]
    go_wp2_with fail
    go_loopw [3, 11] (fun q i wr => ∃ t : Nat, t ≤ ms.length ∧ i = .int .i64 t ∧ q = .int .i64 (mvSum ms t) ∧ Below w.heap.size w wr) (fun _ i _ => ms.length - (intOf i).toNat)
    case atStart => exact ⟨0, by omega, rfl, rfl, hb1⟩
    case round =>
      obtain ⟨t, ht, rfl, rfl, hb⟩ := hrel
      by_cases hlt : t < ms.length
      · obtain ⟨b, o, rfl, hbl, hcell⟩ := hc (by omega) (by omega)
        have h1 := (hb.cell (p := ⟨b, o + t * 2, none⟩) hbl).trans ((hcell (t * 2) (by omega)).trans (mvCells_x ms t hlt))
        have h2 : wr.cell? ⟨b, o + t * 2 + 1, none⟩ = _ := (hb.cell (p := ⟨b, o + t * 2 + 1, none⟩) hbl).trans ((hcell (t * 2 + 1) (by omega)).trans (mvCells_y ms t hlt))
        have hs := mvSum_succ ms t hlt (ms[t]).1 (ms[t]).2 rfl
        have hv := Hup.out t hlt hlt
        have hbd := mvSum_bd ms Hup.out t (by omega)
        clear hcell hc
        generalize ms[t] = p at h1 h2 hs hv
        obtain ⟨x, y⟩ := p
        obtain ⟨v1, v2, v3, v4⟩ := hv
        dsimp only at h1 h2 hs v1 v2 v3 v4
        have Hs := hide hs
        clear hs
        generalize mvSum ms t = s at hbd Hs
        obtain ⟨b1, b2⟩ := hbd
        go_wp2_with fail
        go_roundw
        case rel => exact ⟨t + 1, by omega, by go_num, by rw [Hs.out, max_if, max_if], kept_alloc hb _⟩
        case measure => simp [intOf]; omega
      · obtain rfl : t = ms.length := by omega
        go_wp2_with fail
        go_ret
        exact ⟨by rw [Hfin.out]; rfl, hb⟩
end Go.Proofs.YtincimgpgncomaaDoor
