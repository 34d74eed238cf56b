/-
  Lists of Cycs: copies, comparisons, marks.
-/
import Derived.Test.YtnlmiemnblppbaaCy2
namespace Go.Proofs.Ytnlmiemnblppbaa
open Go.RowKit

set_option maxRecDepth 100000 in
set_option maxHeartbeats 1000000 in
theorem eqCyc_ok (c : C8) (w : World) :
    Calls Try.prog 57 #[c.val, c.val] w fun e w' => e = .returned (.bool true) ∧ Below w.heap.size w w' := by
  rw [val_spell]
  go_enter Try.func57, Try.ntmps57
  go_wp2_with fail
  refine (eqIntA8_ok c _).mono ?_
  rintro e w1 ⟨rfl, hb1⟩
  go_wp2_with fail
  go_ret
  exact ⟨rfl, kept_trans (kept_alloc (kept_new _ _) _) hb1⟩

set_option maxRecDepth 100000 in
set_option maxHeartbeats 1000000 in
theorem eqCycS_ok (v v' : Value) (cs : List C8) (w : World) (hr : Reads w 8 v cs.length (cyCells cs)) (hr' : Reads w 8 v' cs.length (cyCells cs)) :
    Calls Try.prog 21 #[v, v'] w fun e w' => e = .returned (.bool true) ∧ Below w.heap.size w w' := by
  obtain ⟨_, hm, A, c, rfl, hc⟩ := hr
  obtain ⟨_, _, A', c', rfl, hc'⟩ := hr'
  go_enter Try.func21, Try.ntmps21
  go_wp2_with fail
  go_loopw [5] (fun i wr => ∃ t : Nat, t ≤ cs.length ∧ i = .int .i64 t ∧ Below w.heap.size w wr) (fun i _ => cs.length - (intOf i).toNat)
  case atStart => exact ⟨0, by omega, rfl, Below.refl _ _⟩
  case round =>
    obtain ⟨t, ht, rfl, hb⟩ := hrel
    by_cases hlt : t < cs.length
    · obtain ⟨b, o, rfl, hbl, hcell⟩ := hc (by omega) (by omega)
      obtain ⟨b', o', rfl, hbl', hcell'⟩ := hc' (by omega) (by omega)
      have hA := cyc_cells (below_cells hb hbl hcell) t hlt
      have hB := cyc_cells (below_cells hb hbl' hcell') t hlt
      clear hcell hc hcell' hc'
      generalize cs[t] = m at hA hB
      obtain ⟨p0, p1, p2, p3, p4, p5, p6, p7⟩ := hA
      obtain ⟨q0, q1, q2, q3, q4, q5, q6, q7⟩ := hB
      go_wp2_with fail
      go_still_tail 8, (by kernel_rfl)
      go_wp2_with fail
      refine (eqCyc_ok m _).mono ?_
      rintro e w1 ⟨rfl, hb1⟩
      go_wp2_with fail
      go_roundw
      case rel => exact ⟨t + 1, by omega, by go_num, kept_trans hb.drew hb1⟩
      case measure => simp [intOf]; omega
    · go_wp2_with fail
      go_ret
      exact ⟨rfl, hb⟩


theorem set_eight (ys zs : List Value) (u0 u1 u2 u3 u4 u5 u6 u7 : Value) (c : C8) (k : Nat) (hk : k = ys.length) :
    ((((((((ys ++ u0 :: u1 :: u2 :: u3 :: u4 :: u5 :: u6 :: u7 :: zs).set k (.int .i64 c.a0)).set (k + 1) (.int .i64 c.a1)).set (k + 2) (.int .i64 c.a2)).set (k + 3) (.int .i64 c.a3)).set (k + 4) (.int .i64 c.a4)).set (k + 5) (.int .i64 c.a5)).set (k + 6) (.int .i64 c.a6)).set (k + 7) (.int .i64 c.a7)
    = ys ++ c.cells ++ zs := by
  subst hk
  simp [C8.cells]

theorem eight_of_len (zs : List Value) (n : Nat) (h : zs.length = (n + 1) * 8) : ∃ u0 u1 u2 u3 u4 u5 u6 u7 zs', zs = u0 :: u1 :: u2 :: u3 :: u4 :: u5 :: u6 :: u7 :: zs' ∧ zs'.length = n * 8 := by
  match zs, h with
  | u0 :: u1 :: u2 :: u3 :: u4 :: u5 :: u6 :: u7 :: zs', h => exact ⟨u0, u1, u2, u3, u4, u5, u6, u7, zs', rfl, by simp at h; omega⟩
  | [], h => simp at h
  | [_], h => simp at h; omega
  | [_, _], h => simp at h; omega
  | [_, _, _], h => simp at h; omega
  | [_, _, _, _], h => simp at h; omega
  | [_, _, _, _, _], h => simp at h; omega
  | [_, _, _, _, _, _], h => simp at h; omega
  | [_, _, _, _, _, _, _], h => simp at h; omega

end Go.Proofs.Ytnlmiemnblppbaa
