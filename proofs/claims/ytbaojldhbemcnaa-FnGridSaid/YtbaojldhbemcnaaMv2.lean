/-
  Moves: copies, comparisons, marks; MovesLength of the program and of the reference.
-/
import Derived.Test.YtbaojldhbemcnaaMv1
import Derived.Deep.RegionHeld3
import Derived.BigRegion
namespace Go.Proofs.Ytbaojldhbemcnaa
open Go.RowKit

theorem toMove_ok (x y : Int) (w : World) :
    Calls Try.prog 32 #[.agg #[.int .i64 x, .int .i64 y]] w fun e w' => e = .returned (.agg #[.int .i64 x, .int .i64 y]) ∧ Below w.heap.size w w' := by
  go_enter Try.func32, Try.ntmps32
  go_wp2_with fail
  exact bodyPost_ret (v := .agg #[.int .i64 x, .int .i64 y]) (by simp [results, Try.results32, go_sem]) rfl ⟨rfl, kept_alloc (kept_alloc (kept_new _ _) _) _⟩

theorem eqMove_ok (x y : Int) (w : World) :
    Calls Try.prog 34 #[.agg #[.int .i64 x, .int .i64 y], .agg #[.int .i64 x, .int .i64 y]] w fun e w' => e = .returned (.bool true) ∧ Below w.heap.size w w' := by
  go_enter Try.func34, Try.ntmps34
  go_wp2_with fail
  go_ret
  exact ⟨rfl, kept_alloc (kept_new _ _) _⟩

set_option maxRecDepth 100000 in
set_option maxHeartbeats 400000 in
theorem eqMoveS_ok (v v' : Value) (ms : List (Int × Int)) (w : World) (hr : Reads w 2 v ms.length (mvCells ms)) (hr' : Reads w 2 v' ms.length (mvCells ms)) :
    Calls Try.prog 13 #[v, v'] w fun e w' => e = .returned (.bool true) ∧ Below w.heap.size w w' := by
  obtain ⟨_, hm, A, c, rfl, hc⟩ := hr
  obtain ⟨_, _, A', c', rfl, hc'⟩ := hr'
  go_enter Try.func13, Try.ntmps13
  go_wp2_with fail
  go_loopw [5] (fun i wr => ∃ t : Nat, t ≤ ms.length ∧ i = .int .i64 t ∧ Below w.heap.size w wr) (fun i _ => ms.length - (intOf i).toNat)
  case atStart => exact ⟨0, by omega, rfl, Below.refl _ _⟩
  case round =>
    obtain ⟨t, ht, rfl, hb⟩ := hrel
    by_cases hlt : t < ms.length
    · obtain ⟨b, o, rfl, hbl, hcell⟩ := hc (by omega) (by omega)
      obtain ⟨b', o', rfl, hbl', hcell'⟩ := hc' (by omega) (by omega)
      have h1 := (hb.cell (p := ⟨b, o + t * 2, none⟩) hbl).trans ((hcell (t * 2) (by omega)).trans (mvCells_x ms t hlt))
      have h2 : wr.cell? ⟨b, o + t * 2 + 1, none⟩ = _ := (hb.cell (p := ⟨b, o + t * 2 + 1, none⟩) hbl).trans ((hcell (t * 2 + 1) (by omega)).trans (mvCells_y ms t hlt))
      have h1' := (hb.cell (p := ⟨b', o' + t * 2, none⟩) hbl').trans ((hcell' (t * 2) (by omega)).trans (mvCells_x ms t hlt))
      have h2' : wr.cell? ⟨b', o' + t * 2 + 1, none⟩ = _ := (hb.cell (p := ⟨b', o' + t * 2 + 1, none⟩) hbl').trans ((hcell' (t * 2 + 1) (by omega)).trans (mvCells_y ms t hlt))
      clear hcell hc hcell' hc'
      generalize ms[t] = m at h1 h2 h1' h2'
      obtain ⟨x, y⟩ := m
      dsimp only at h1 h2 h1' h2'
      go_wp2_with fail
      go_still_tail 8, (by kernel_rfl)
      go_wp2_with fail
      refine (eqMove_ok x y _).mono ?_
      rintro e w1 ⟨rfl, hb1⟩
      go_wp2_with fail
      go_roundw
      case rel => exact ⟨t + 1, by omega, by go_num, kept_trans hb.drew hb1⟩
      case measure => simp [intOf]; omega
    · go_wp2_with fail
      go_ret
      exact ⟨rfl, hb⟩

theorem Try.infoMv : (Try.prog.info? 32).map (fun i => (i.zero, i.size, i.bytes)) = some (some (.agg #[.int .i64 0, .int .i64 0]), 2, 16) := by kernel_rfl

theorem mvCells_succ (ms : List (Int × Int)) (t : Nat) (h : t < ms.length) (x y : Int) (hm : ms[t] = (x, y)) : mvCells (ms.take (t + 1)) = mvCells (ms.take t) ++ [.int .i64 x, .int .i64 y] := by
  rw [List.take_succ_eq_append_getElem h, hm]
  simp [mvCells]

theorem set_two (ys zs : List Value) (u0 u1 a b : Value) (k : Nat) (hk : k = ys.length) : ((ys ++ u0 :: u1 :: zs).set k a).set (k + 1) b = ys ++ [a, b] ++ zs := by
  subst hk
  simp

theorem two_of_len (zs : List Value) (n : Nat) (h : zs.length = (n + 1) * 2) : ∃ u0 u1 zs', zs = u0 :: u1 :: zs' ∧ zs'.length = n * 2 := by
  match zs, h with
  | u0 :: u1 :: zs', h => exact ⟨u0, u1, zs', rfl, by simp at h; omega⟩
  | [], h => simp at h
  | [_], h => simp at h; omega

/-- What a copy of moves gives: a slice of its own with these moves. -/
def MvNew (ms : List (Int × Int)) (w : World) (e : Ending) (w' : World) : Prop :=
  ∃ v, e = .returned v ∧ w'.ownsRow w.heap.size 32 2 v ms.length (mvCells ms) ∧ Below w.heap.size w w'

set_option maxHeartbeats 1000000 in
theorem toMoveS_ok (v : Value) (ms : List (Int × Int)) (w : World) (hr : Reads w 2 v ms.length (mvCells ms)) (hn : ms.length ≤ 1048576) :
    Calls Try.prog 11 #[v] w (MvNew ms w) := by
  obtain ⟨i0, hi, hz0, hz1, hz2⟩ := info_parts Try.infoMv
  obtain ⟨_, hm, A, c, rfl, hc⟩ := hr
  go_enter Try.func11, Try.ntmps11
  go_wp2_with (at_make; refine wpList_make_full _ rfl _ _ 25 rfl w.heap.size 32 i0 _ 2 Try.underlying25 hi hz0 hz1 _ _ _ _ ms.length rfl rfl rfl rfl (by rw [hz2]; omega) (by unfold maxLen; omega) (Nat.le_refl _) ?_)
  intro w1 hown hgrow
  have hb1 := kept_of_grown hgrow
  have hlt0 := (hown.lt _ rfl).2
  clear hgrow
  go_wp2_with fail
  go_loopw [4] (fun i wr => ∃ (t : Nat) (zs : List Value), t ≤ ms.length ∧ i = .int .i64 t ∧ zs.length = (ms.length - t) * 2 ∧ wr.ownsRow w.heap.size 32 2 (.slice (some ⟨w.heap.size, 0, none⟩) ms.length ms.length) ms.length (mvCells (ms.take t) ++ zs) ∧ Below w.heap.size w wr) (fun i _ => ms.length - (intOf i).toNat)
  case atStart =>
    have hl := hown.1
    exact ⟨0, _, by omega, rfl, hl.trans (by simp), by simpa [mvCells] using hown, hb1⟩
  case round =>
    obtain ⟨t, zs, ht, rfl, hzl, how, hb⟩ := hrel
    by_cases hlt : t < ms.length
    · obtain ⟨b, o, rfl, hbl, hcell⟩ := hc (by omega) (by omega)
      have h1 := (hb.cell (p := ⟨b, o + t * 2, none⟩) hbl).trans ((hcell (t * 2) (by omega)).trans (mvCells_x ms t hlt))
      have h2 : wr.cell? ⟨b, o + t * 2 + 1, none⟩ = _ := (hb.cell (p := ⟨b, o + t * 2 + 1, none⟩) hbl).trans ((hcell (t * 2 + 1) (by omega)).trans (mvCells_y ms t hlt))
      clear hcell hc
      obtain ⟨u0, u1, zs', rfl, hzl'⟩ := two_of_len zs (ms.length - (t + 1)) (by omega)
      have hmt := mvCells_succ ms t hlt (ms[t]).1 (ms[t]).2 rfl
      generalize ms[t] = m at h1 h2 hmt
      obtain ⟨x, y⟩ := m
      have Hmt := hide hmt
      have Hzl := hide hzl'
      clear hmt hzl hzl'
      dsimp only at h1 h2
      go_wp2_with fail
      refine (toMove_ok x y _).mono ?_
      rintro e w2 ⟨rfl, hb2⟩
      have how2 := owns_kept how hb2
      have hlen : (mvCells (ms.take t)).length = t * 2 := by rw [mvCells_len]; simp; omega
      have k0 : w2.cell? ⟨w.heap.size, t * 2, none⟩ = some u0 := by
        rw [how2.cellAt _ (by omega), List.getElem?_append_right (by omega), hlen]
        simp
      have k1 : w2.cell? ⟨w.heap.size, t * 2 + 1, none⟩ = some u1 := by
        rw [how2.cellAt _ (by omega), List.getElem?_append_right (by omega), hlen]
        simp [show t * 2 + 1 - t * 2 = 1 from by omega]
      have f0 := how2.frozenAt (t * 2)
      have f1 := how2.frozenAt (t * 2 + 1)
      have s1 := (how2.stored (t * 2) (.int .i64 x)).1
      have s2 := (s1.stored (t * 2 + 1) (.int .i64 y)).1
      rw [set_two _ _ _ _ _ _ _ hlen.symm] at s2
      have hle : w.heap.size ≤ w2.heap.size := Nat.le_trans hb.size hb2.size
      clear how how2 s1
      go_wp2_with fail
      go_roundw
      case rel => exact ⟨t + 1, zs', by omega, by go_num, Hzl.out, by rw [Hmt.out]; exact s2, kept_set (kept_set (kept_trans hb hb2) (Nat.le_refl _) _) (Nat.le_refl _) _⟩
      case measure => simp [intOf]; omega
    · obtain rfl : t = ms.length := by omega
      have hz : zs = [] := List.eq_nil_of_length_eq_zero (by omega)
      subst hz
      have how' : wr.ownsRow w.heap.size 32 2 (.slice (some ⟨w.heap.size, 0, none⟩) ms.length ms.length) ms.length (mvCells ms) := by simpa using how
      clear how
      go_wp2_with fail
      go_ret
      exact ⟨_, rfl, how', hb⟩

set_option maxHeartbeats 1000000 in
theorem heldMoveS_ok (v : Value) (n : Nat) (k : Int) (w : World) (hr : Reads w 2 v n (marks k (n * 2))) (hk : 0 ≤ k) (hk2 : k + n * 2 ≤ 9223372036854775807) :
    Calls Try.prog 23 #[v, .int .i64 k] w fun e w' => e = .returned (.int .i64 (k + n * 2)) ∧ w = w' := by
  obtain ⟨_, hm, A, c, rfl, hc⟩ := hr
  go_enter Try.func23, Try.ntmps23
  go_wp2_with fail
  go_loop [1, 5] (fun q i => ∃ t : Nat, t ≤ n ∧ i = .int .i64 t ∧ q = .int .i64 (k + t * 2)) (fun _ i => n - (intOf i).toNat)
  case atStart => exact ⟨0, by omega, rfl, by simp⟩
  case round =>
    obtain ⟨t, ht, rfl, rfl⟩ := hrel
    by_cases hlt : t < n
    · obtain ⟨b, o, rfl, hbl, hcell⟩ := hc (by omega) (by omega)
      have h1 : w.cell? ⟨b, o + t * 2, none⟩ = some (.int .i64 (k + t * 2)) := by
        rw [hcell (t * 2) (by omega), marks_get _ _ _ (by omega)]
        simp
      have h2 : w.cell? ⟨b, o + t * 2 + 1, none⟩ = some (.int .i64 (k + t * 2 + 1)) := by
        have e := hcell (t * 2 + 1) (by omega)
        rw [marks_get _ _ _ (by omega)] at e
        refine e.trans ?_
        simp; omega
      clear hcell hc
      go_wp2_with fail
      go_round
      case rel => exact ⟨t + 1, by omega, by go_num, by go_num⟩
      case measure => simp [intOf]; omega
    · obtain rfl : t = n := by omega
      go_wp2_with fail
      go_ret
      exact ⟨rfl, rfl⟩

set_option maxHeartbeats 1000000 in
theorem markMoveS_ok (B n : Nat) (v : Value) (xs : List Value) (k : Int) (w : World) (hw : Has w B 2 v n xs) (hk : 0 ≤ k) (hk2 : k + n * 2 ≤ 9223372036854775807) :
    Calls Try.prog 22 #[v, .int .i64 k] w fun e w' => e = .returned (.int .i64 (k + n * 2)) ∧ Has w' B 2 v n (marks k (n * 2)) ∧ w.grownBy w' v.ownBlock := by
  rcases has_cases hw with ⟨rfl, rfl⟩ | ⟨g, cap, rfl, hB, hg, hm, _, _⟩
  · go_enter Try.func22, Try.ntmps22
    go_wp2_with fail
    refine wp_loop_rounds 1 ?_; rw [rounds_succ]
    go_wp2
    go_ret
    exact ⟨by simp, ⟨by simp [marks], by omega, .inl ⟨rfl, rfl⟩⟩, World.grownBy.refl _ _⟩
  · have hlen := hw.1
    go_enter Try.func22, Try.ntmps22
    go_wp2_with fail
    go_loopw [1, 5] (fun q i wr => ∃ t : Nat, t ≤ n ∧ i = .int .i64 t ∧ q = .int .i64 (k + t * 2) ∧ Has wr B 2 (.slice (some ⟨g, 0, none⟩) n cap) n (marks k (t * 2) ++ xs.drop (t * 2)) ∧ w.grownBy wr (some g)) (fun _ i _ => n - (intOf i).toNat)
    case atStart => exact ⟨0, by omega, rfl, by simp, by simpa [marks] using hw, World.grownBy.refl _ _⟩
    case round =>
      obtain ⟨t, ht, rfl, rfl, how, hgr⟩ := hrel
      by_cases hlt : t < n
      · obtain ⟨hcl, hfr⟩ : (∀ j, j < n * 2 → wr.cell? ⟨g, j, none⟩ = (marks k (t * 2) ++ xs.drop (t * 2))[j]?) ∧ (∀ j, wr.frozen? ⟨g, j, none⟩ = false) := by
          rcases has_cases how with ⟨h', _⟩ | ⟨g', cap', h', _, _, _, h1, h2⟩
          · simp at h'
          · simp only [Value.slice.injEq, Option.some.injEq, Addr.mk.injEq, and_true, true_and] at h'
            obtain ⟨rfl, rfl⟩ := h'
            exact ⟨h1, h2⟩
        have hsz : (marks k (t * 2) ++ xs.drop (t * 2)).length = xs.length := by simp [length_marks]; omega
        obtain ⟨u0, k0⟩ : ∃ u, wr.cell? ⟨g, t * 2, none⟩ = some u := by
          rw [hcl _ (by omega)]
          exact ⟨_, List.getElem?_eq_getElem (by omega)⟩
        obtain ⟨u1, k1⟩ : ∃ u, wr.cell? ⟨g, t * 2 + 1, none⟩ = some u := by
          rw [hcl _ (by omega)]
          exact ⟨_, List.getElem?_eq_getElem (by omega)⟩
        have f0 := hfr (t * 2)
        have f1 := hfr (t * 2 + 1)
        obtain ⟨s1, g1⟩ := has_stored how (t * 2) (.int .i64 (k + (t * 2 : Nat)))
        rw [marks_set k (t * 2) xs (by omega)] at s1
        obtain ⟨s2, g2⟩ := has_stored s1 (t * 2 + 1) (.int .i64 (k + (t * 2 + 1 : Nat)))
        rw [marks_set k (t * 2 + 1) xs (by omega)] at s2
        have gg := grown_trans' (grown_trans' hgr g1) g2
        rw [show (k + (t * 2 : Nat) : Int) = k + t * 2 from by omega, show (k + (t * 2 + 1 : Nat) : Int) = k + t * 2 + 1 from by omega] at s2 gg
        clear how hgr s1 g1 g2 hw hsz hcl hfr
        go_wp2_with fail
        go_roundw
        case rel => exact ⟨t + 1, by omega, by go_num, by go_num, by rw [show (t + 1) * 2 = t * 2 + 1 + 1 from by omega]; exact s2, gg⟩
        case measure => simp [intOf]; omega
      · obtain rfl : t = n := by omega
        go_wp2_with fail
        go_ret
        exact ⟨rfl, by simpa [List.drop_of_length_le, hlen] using how, hgr⟩

def mvLen (m : Int × Int) : Int := max m.1 (-m.1) + max m.2 (-m.2)
def mvSum (ms : List (Int × Int)) (t : Nat) : Int := ((ms.take t).map mvLen).sum
def movesLen (ms : List (Int × Int)) : Int := if mvsIn ms then mvSum ms ms.length else -1

theorem mvSum_succ (ms : List (Int × Int)) (t : Nat) (h : t < ms.length) (x y : Int) (hm : ms[t] = (x, y)) : mvSum ms (t + 1) = mvSum ms t + (max x (-x) + max y (-y)) := by
  unfold mvSum
  rw [List.take_succ_eq_append_getElem h, hm]
  simp [mvLen]

theorem mvSum_bd (ms : List (Int × Int)) (h : mvsUpto ms ms.length) (t : Nat) (ht : t ≤ ms.length) : 0 ≤ mvSum ms t ∧ mvSum ms t ≤ 20000000 * t := by
  induction t with
  | zero => simp [mvSum]
  | succ t ih =>
    have i := ih (by omega)
    have v := h t (by omega) (by omega)
    rw [mvSum_succ ms t (by omega) (ms[t]).1 (ms[t]).2 rfl]
    obtain ⟨a, b, c, d⟩ := v
    omega

theorem mvsIn_parts {ms : List (Int × Int)} (h : mvsIn ms = true) : ms.length ≤ 100 ∧ mvsUpto ms ms.length := by
  simp only [mvsIn, Bool.and_eq_true, List.all_eq_true, decide_eq_true_eq] at h
  exact ⟨h.1, fun i hi _ => h.2 _ (List.getElem_mem hi)⟩

theorem max_if (x : Int) : (if x < -x then -x else x) = max x (-x) := by split <;> omega

set_option maxHeartbeats 1000000 in
theorem specLen_ok (v : Value) (ms : List (Int × Int)) (w : World) (hr : Reads w 2 v ms.length (mvCells ms)) :
    Calls Try.prog 10 #[v] w fun e w' => e = .returned (.int .i64 (movesLen ms)) ∧ Below w.heap.size w w' := by
  have Hr := hide hr
  obtain ⟨_, hm, A, c, rfl, hc⟩ := hr
  cases hin : mvsIn ms with
  | false =>
    have Hfin : Hid (movesLen ms = -1) := by simp [movesLen, hin, Hid]
    have Hin := hide hin
    clear hin
    go_enter Try.func10, Try.ntmps10
    go_wp2_with fail
    refine (l10Moves_ok _ ms _ Hr.out).mono ?_
    rintro e w' ⟨rfl, rfl⟩
    rw [Hin.out]
    go_wp2_with fail
    go_ret
    exact ⟨by rw [Hfin.out]; rfl, Below.refl _ _⟩
  | true =>
    have Hfin : Hid (movesLen ms = mvSum ms ms.length) := by simp [movesLen, hin, Hid]
    obtain ⟨hl, hup⟩ := mvsIn_parts hin
    have Hup := hide hup
    have Hin := hide hin
    clear hin hup
    go_enter Try.func10, Try.ntmps10
    go_wp2_with fail
    refine (l10Moves_ok _ ms _ Hr.out).mono ?_
    rintro e w' ⟨rfl, rfl⟩
    rw [Hin.out]
    go_wp2_with fail
    go_loopw [3, 4] (fun q i wr => ∃ t m : Nat, t ≤ ms.length ∧ i = .int .i64 t ∧ q = .int .i64 (mvSum ms t) ∧ wr = w.drewN m) (fun _ i _ => ms.length - (intOf i).toNat)
    case atStart => exact ⟨0, 0, by omega, rfl, rfl, rfl⟩
    case round =>
      obtain ⟨t, m, ht, rfl, rfl, rfl⟩ := hrel
      by_cases hlt : t < ms.length
      · obtain ⟨b, o, rfl, hbl, hcell⟩ := hc (by omega) (by omega)
        have h1 := (hcell (t * 2) (by omega)).trans (mvCells_x ms t hlt)
        have h2 : w.cell? ⟨b, o + t * 2 + 1, none⟩ = _ := (hcell (t * 2 + 1) (by omega)).trans (mvCells_y ms t hlt)
        have hs := mvSum_succ ms t hlt (ms[t]).1 (ms[t]).2 rfl
        have hv := Hup.out t hlt hlt
        have hbd := mvSum_bd ms Hup.out t (by omega)
        clear hcell hc
        generalize ms[t] = p at h1 h2 hs hv
        obtain ⟨x, y⟩ := p
        obtain ⟨v1, v2, v3, v4⟩ := hv
        dsimp only at h1 h2 hs v1 v2 v3 v4
        have Hs := hide hs
        clear hs
        generalize mvSum ms t = s at hbd Hs
        obtain ⟨b1, b2⟩ := hbd
        go_wp2_with fail
        go_quiet (fail)
        go_wp2_with fail
        go_roundw
        case rel => exact ⟨t + 1, _, by omega, by go_num, by rw [Hs.out, max_if, max_if, Int.add_assoc], rfl⟩
        case measure => simp [intOf]; omega
      · obtain rfl : t = ms.length := by omega
        go_wp2_with fail
        go_ret
        exact ⟨by rw [Hfin.out]; rfl, kept_drewN _ _⟩

set_option maxHeartbeats 1000000 in
theorem implLen_ok (v : Value) (ms : List (Int × Int)) (w : World) (hr : Reads w 2 v ms.length (mvCells ms)) :
    Calls Try.prog 12 #[v] w fun e w' => e = .returned (.int .i64 (movesLen ms)) ∧ Below w.heap.size w w' := by
  have Hr := hide hr
  obtain ⟨_, hm, A, c, rfl, hc⟩ := hr
  cases hin : mvsIn ms with
  | false =>
    have Hfin : Hid (movesLen ms = -1) := by simp [movesLen, hin, Hid]
    have Hin := hide hin
    clear hin
    go_enter Try.func12, Try.ntmps12
    go_wp2_with fail
    refine (movesValid_ok _ ms _ Hr.out).mono ?_
    rintro e w1 ⟨rfl, hb1⟩
    rw [Hin.out]
    go_wp2_with fail
    go_ret
    exact ⟨by rw [Hfin.out]; rfl, hb1⟩
  | true =>
    have Hfin : Hid (movesLen ms = mvSum ms ms.length) := by simp [movesLen, hin, Hid]
    obtain ⟨hl, hup⟩ := mvsIn_parts hin
    have Hup := hide hup
    have Hin := hide hin
    clear hin hup
    go_enter Try.func12, Try.ntmps12
    go_wp2_with fail
    refine (movesValid_ok _ ms _ Hr.out).mono ?_
    rintro e w1 ⟨rfl, hb1⟩
    rw [Hin.out]
    go_wp2_with fail
    go_loopw [3, 11] (fun q i wr => ∃ t : Nat, t ≤ ms.length ∧ i = .int .i64 t ∧ q = .int .i64 (mvSum ms t) ∧ Below w.heap.size w wr) (fun _ i _ => ms.length - (intOf i).toNat)
    case atStart => exact ⟨0, by omega, rfl, rfl, hb1⟩
    case round =>
      obtain ⟨t, ht, rfl, rfl, hb⟩ := hrel
      by_cases hlt : t < ms.length
      · obtain ⟨b, o, rfl, hbl, hcell⟩ := hc (by omega) (by omega)
        have h1 := (hb.cell (p := ⟨b, o + t * 2, none⟩) hbl).trans ((hcell (t * 2) (by omega)).trans (mvCells_x ms t hlt))
        have h2 : wr.cell? ⟨b, o + t * 2 + 1, none⟩ = _ := (hb.cell (p := ⟨b, o + t * 2 + 1, none⟩) hbl).trans ((hcell (t * 2 + 1) (by omega)).trans (mvCells_y ms t hlt))
        have hs := mvSum_succ ms t hlt (ms[t]).1 (ms[t]).2 rfl
        have hv := Hup.out t hlt hlt
        have hbd := mvSum_bd ms Hup.out t (by omega)
        clear hcell hc
        generalize ms[t] = p at h1 h2 hs hv
        obtain ⟨x, y⟩ := p
        obtain ⟨v1, v2, v3, v4⟩ := hv
        dsimp only at h1 h2 hs v1 v2 v3 v4
        have Hs := hide hs
        clear hs
        generalize mvSum ms t = s at hbd Hs
        obtain ⟨b1, b2⟩ := hbd
        go_wp2_with fail
        go_roundw
        case rel => exact ⟨t + 1, by omega, by go_num, by rw [Hs.out, max_if, max_if], kept_alloc hb _⟩
        case measure => simp [intOf]; omega
      · obtain rfl : t = ms.length := by omega
        go_wp2_with fail
        go_ret
        exact ⟨by rw [Hfin.out]; rfl, hb⟩
end Go.Proofs.Ytbaojldhbemcnaa
