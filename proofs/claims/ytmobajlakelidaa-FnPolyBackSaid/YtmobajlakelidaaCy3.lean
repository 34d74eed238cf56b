/-
  Lists of Cycs: copies, comparisons, marks.
-/
import Derived.Test.YtmobajlakelidaaCy2
namespace Go.Proofs.Ytmobajlakelidaa
open Go.RowKit

set_option maxRecDepth 100000 in
set_option maxHeartbeats 1000000 in
theorem eqCyc_ok (c : C8) (w : World) :
    Calls Try.prog 32 #[c.val, c.val] w fun e w' => e = .returned (.bool true) ∧ Below w.heap.size w w' := by
  rw [val_spell]
  go_enter Try.func32, Try.ntmps32
  go_wp2_with fail
  refine (eqIntA8_ok c _).mono ?_
  rintro e w1 ⟨rfl, hb1⟩
  go_wp2_with fail
  go_ret
  exact ⟨rfl, kept_trans (kept_alloc (kept_new _ _) _) hb1⟩

set_option maxRecDepth 100000 in
set_option maxHeartbeats 1000000 in
theorem eqCycS_ok (v v' : Value) (cs : List C8) (w : World) (hr : Reads w 8 v cs.length (cyCells cs)) (hr' : Reads w 8 v' cs.length (cyCells cs)) :
    Calls Try.prog 13 #[v, v'] w fun e w' => e = .returned (.bool true) ∧ Below w.heap.size w w' := by
  obtain ⟨_, hm, A, c, rfl, hc⟩ := hr
  obtain ⟨_, _, A', c', rfl, hc'⟩ := hr'
  go_enter Try.func13, Try.ntmps13
  go_wp2_with fail
  go_loopw [5] (fun i wr => ∃ t : Nat, t ≤ cs.length ∧ i = .int .i64 t ∧ Below w.heap.size w wr) (fun i _ => cs.length - (intOf i).toNat)
  case atStart => exact ⟨0, by omega, rfl, Below.refl _ _⟩
  case round =>
    obtain ⟨t, ht, rfl, hb⟩ := hrel
    by_cases hlt : t < cs.length
    · obtain ⟨b, o, rfl, hbl, hcell⟩ := hc (by omega) (by omega)
      obtain ⟨b', o', rfl, hbl', hcell'⟩ := hc' (by omega) (by omega)
      have hA := cyc_cells (below_cells hb hbl hcell) t hlt
      have hB := cyc_cells (below_cells hb hbl' hcell') t hlt
      clear hcell hc hcell' hc'
      generalize cs[t] = m at hA hB
      obtain ⟨p0, p1, p2, p3, p4, p5, p6, p7⟩ := hA
      obtain ⟨q0, q1, q2, q3, q4, q5, q6, q7⟩ := hB
      go_wp2_with fail
      go_still_tail 8, (by kernel_rfl)
      go_wp2_with fail
      refine (eqCyc_ok m _).mono ?_
      rintro e w1 ⟨rfl, hb1⟩
      go_wp2_with fail
      go_roundw
      case rel => exact ⟨t + 1, by omega, by go_num, kept_trans hb.drew hb1⟩
      case measure => simp [intOf]; omega
    · go_wp2_with fail
      go_ret
      exact ⟨rfl, hb⟩


theorem set_eight (ys zs : List Value) (u0 u1 u2 u3 u4 u5 u6 u7 : Value) (c : C8) (k : Nat) (hk : k = ys.length) :
    ((((((((ys ++ u0 :: u1 :: u2 :: u3 :: u4 :: u5 :: u6 :: u7 :: zs).set k (.int .i64 c.a0)).set (k + 1) (.int .i64 c.a1)).set (k + 2) (.int .i64 c.a2)).set (k + 3) (.int .i64 c.a3)).set (k + 4) (.int .i64 c.a4)).set (k + 5) (.int .i64 c.a5)).set (k + 6) (.int .i64 c.a6)).set (k + 7) (.int .i64 c.a7)
    = ys ++ c.cells ++ zs := by
  subst hk
  simp [C8.cells]

theorem eight_of_len (zs : List Value) (n : Nat) (h : zs.length = (n + 1) * 8) : ∃ u0 u1 u2 u3 u4 u5 u6 u7 zs', zs = u0 :: u1 :: u2 :: u3 :: u4 :: u5 :: u6 :: u7 :: zs' ∧ zs'.length = n * 8 := by
  match zs, h with
  | u0 :: u1 :: u2 :: u3 :: u4 :: u5 :: u6 :: u7 :: zs', h => exact ⟨u0, u1, u2, u3, u4, u5, u6, u7, zs', rfl, by simp at h; omega⟩
  | [], h => simp at h
  | [_], h => simp at h; omega
  | [_, _], h => simp at h; omega
  | [_, _, _], h => simp at h; omega
  | [_, _, _, _], h => simp at h; omega
  | [_, _, _, _, _], h => simp at h; omega
  | [_, _, _, _, _, _], h => simp at h; omega
  | [_, _, _, _, _, _, _], h => simp at h; omega

set_option maxRecDepth 100000 in
set_option maxHeartbeats 1000000 in
theorem heldCycS_ok (v : Value) (n : Nat) (k : Int) (w : World) (hr : Reads w 8 v n (marks k (n * 8))) (hk : 0 ≤ k) (hk2 : k + n * 8 ≤ 9223372036854775807) :
    Calls Try.prog 19 #[v, .int .i64 k] w fun e w' => e = .returned (.int .i64 (k + n * 8)) ∧ w = w' := by
  obtain ⟨_, hm, A, c, rfl, hc⟩ := hr
  go_enter Try.func19, Try.ntmps19
  go_wp2_with fail
  go_loop [1, 5] (fun q i => ∃ t : Nat, t ≤ n ∧ i = .int .i64 t ∧ q = .int .i64 (k + t * 8)) (fun _ i => n - (intOf i).toNat)
  case atStart => exact ⟨0, by omega, rfl, by simp⟩
  case round =>
    obtain ⟨t, ht, rfl, rfl⟩ := hrel
    by_cases hlt : t < n
    · obtain ⟨b, o, rfl, hbl, hcell⟩ := hc (by omega) (by omega)
      have h1 : ∀ s : Nat, s < 8 → w.cell? ⟨b, o + t * 8 + s, none⟩ = some (.int .i64 (k + t * 8 + s)) := fun s hs => by
        rw [Nat.add_assoc, hcell (t * 8 + s) (by omega), marks_get _ _ _ (by omega)]
        simp; omega
      have H1 := hide h1
      clear hcell hc h1
      go_wp2_with fail
      go_loop [1, 6] (fun q i => ∃ s : Nat, s ≤ 8 ∧ i = .int .i64 s ∧ q = .int .i64 (k + t * 8 + s)) (fun _ i => 8 - (intOf i).toNat)
      case atStart => exact ⟨0, by omega, rfl, by simp⟩
      case round =>
        obtain ⟨s, hs, rfl, rfl⟩ := hrel
        by_cases hlt' : s < 8
        · have h1 := H1.out s hlt'
          go_wp2_with fail
          go_round
          case rel => exact ⟨s + 1, by omega, by go_num, by go_num⟩
          case measure => simp [intOf]; omega
        · obtain rfl : s = 8 := by omega
          go_wp2_with fail
          go_round
          case rel => exact ⟨t + 1, by omega, by go_num, by go_num⟩
          case measure => simp [intOf]; omega
    · obtain rfl : t = n := by omega
      go_wp2_with fail
      go_ret
      exact ⟨rfl, rfl⟩

end Go.Proofs.Ytmobajlakelidaa
