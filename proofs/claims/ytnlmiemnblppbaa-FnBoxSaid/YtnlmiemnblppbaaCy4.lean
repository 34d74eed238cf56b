/-
  Lists of Cycs: the copy, the marks.
-/
import Derived.Test.YtnlmiemnblppbaaCy3
namespace Go.Proofs.Ytnlmiemnblppbaa
open Go.RowKit

/-- What a copy of Cycs gives: a slice of its own with these Cycs. -/
def CyNew (cs : List C8) (w : World) (e : Ending) (w' : World) : Prop :=
  ∃ v, e = .returned v ∧ w'.ownsRow w.heap.size 51 8 v cs.length (cyCells cs) ∧ Below w.heap.size w w'

set_option maxRecDepth 100000 in
set_option maxHeartbeats 4000000 in
theorem toCycS_ok (v : Value) (cs : List C8) (w : World) (hr : Reads w 8 v cs.length (cyCells cs)) (hn : cs.length ≤ 1048576) :
    Calls Try.prog 18 #[v] w (CyNew cs w) := by
  obtain ⟨i0, hi, hz0, hz1, hz2⟩ := info_parts Try.infoCy
  obtain ⟨_, hm, A, c, rfl, hc⟩ := hr
  go_enter Try.func18, Try.ntmps18
  go_wp2_with (at_make; refine wpList_make_full _ rfl _ _ 39 rfl w.heap.size 51 i0 _ 8 Try.underlying39 hi hz0 hz1 _ _ _ _ cs.length rfl rfl rfl rfl (by rw [hz2]; omega) (by unfold maxLen; omega) (Nat.le_refl _) ?_)
  intro w1 hown hgrow
  have hb1 := kept_of_grown hgrow
  have hlt0 := (hown.lt _ rfl).2
  clear hgrow
  go_wp2_with fail
  go_loopw [4] (fun i wr => ∃ (t : Nat) (zs : List Value), t ≤ cs.length ∧ i = .int .i64 t ∧ zs.length = (cs.length - t) * 8 ∧ wr.ownsRow w.heap.size 51 8 (.slice (some ⟨w.heap.size, 0, none⟩) cs.length cs.length) cs.length (cyCells (cs.take t) ++ zs) ∧ Below w.heap.size w wr) (fun i _ => cs.length - (intOf i).toNat)
  case atStart =>
    have hl := hown.1
    exact ⟨0, _, by omega, rfl, hl.trans (by simp), by simpa [cyCells] using hown, hb1⟩
  case round =>
    obtain ⟨t, zs, ht, rfl, hzl, how, hb⟩ := hrel
    by_cases hlt : t < cs.length
    · obtain ⟨b, o, rfl, hbl, hcell⟩ := hc (by omega) (by omega)
      have hA := cyc_cells (below_cells hb hbl hcell) t hlt
      clear hcell hc
      obtain ⟨u0, u1, u2, u3, u4, u5, u6, u7, zs', rfl, hzl'⟩ := eight_of_len zs (cs.length - (t + 1)) (by omega)
      have hmt := cyCells_succ cs t hlt
      generalize cs[t] = m at hA hmt
      obtain ⟨p0, p1, p2, p3, p4, p5, p6, p7⟩ := hA
      have Hmt := hide hmt
      have Hzl := hide hzl'
      clear hmt hzl hzl'
      go_wp2_with fail
      refine (toCyc_ok m _).mono ?_
      rintro e w2 ⟨rfl, hb2⟩
      have how2 := owns_kept how hb2
      have hlen : (cyCells (cs.take t)).length = t * 8 := by rw [cyCells_len]; simp; omega
      have hk : ∀ j : Nat, j < 8 → w2.cell? ⟨w.heap.size, t * 8 + j, none⟩ = [u0, u1, u2, u3, u4, u5, u6, u7][j]? := fun j hj => by
        rw [how2.cellAt _ (by omega), List.getElem?_append_right (by omega), hlen]
        rw [show t * 8 + j - t * 8 = j from by omega]
        rcases eight hj with rfl | rfl | rfl | rfl | rfl | rfl | rfl | rfl <;> rfl
      have k0 : w2.cell? ⟨w.heap.size, t * 8, none⟩ = some u0 := hk 0 (by omega)
      have k1 : w2.cell? ⟨w.heap.size, t * 8 + 1, none⟩ = some u1 := hk 1 (by omega)
      have k2 : w2.cell? ⟨w.heap.size, t * 8 + 2, none⟩ = some u2 := hk 2 (by omega)
      have k3 : w2.cell? ⟨w.heap.size, t * 8 + 3, none⟩ = some u3 := hk 3 (by omega)
      have k4 : w2.cell? ⟨w.heap.size, t * 8 + 4, none⟩ = some u4 := hk 4 (by omega)
      have k5 : w2.cell? ⟨w.heap.size, t * 8 + 5, none⟩ = some u5 := hk 5 (by omega)
      have k6 : w2.cell? ⟨w.heap.size, t * 8 + 6, none⟩ = some u6 := hk 6 (by omega)
      have k7 : w2.cell? ⟨w.heap.size, t * 8 + 7, none⟩ = some u7 := hk 7 (by omega)
      have f0 := fun j => how2.frozenAt j
      have s0 := (how2.stored (t * 8) (.int .i64 m.a0)).1
      have s1 := (s0.stored (t * 8 + 1) (.int .i64 m.a1)).1
      have s2 := (s1.stored (t * 8 + 2) (.int .i64 m.a2)).1
      have s3 := (s2.stored (t * 8 + 3) (.int .i64 m.a3)).1
      have s4 := (s3.stored (t * 8 + 4) (.int .i64 m.a4)).1
      have s5 := (s4.stored (t * 8 + 5) (.int .i64 m.a5)).1
      have s6 := (s5.stored (t * 8 + 6) (.int .i64 m.a6)).1
      have s7 := (s6.stored (t * 8 + 7) (.int .i64 m.a7)).1
      rw [set_eight _ _ _ _ _ _ _ _ _ _ _ _ hlen.symm] at s7
      have hle : w.heap.size ≤ w2.heap.size := Nat.le_trans hb.size hb2.size
      clear how how2 s0 s1 s2 s3 s4 s5 s6 hk
      rw [val_spell]
      go_wp2_with fail
      go_roundw
      case rel => exact ⟨t + 1, zs', by omega, by go_num, Hzl.out, by rw [Hmt.out]; exact s7, kept_set (kept_set (kept_set (kept_set (kept_set (kept_set (kept_set (kept_set (kept_trans hb hb2) (Nat.le_refl _) _) (Nat.le_refl _) _) (Nat.le_refl _) _) (Nat.le_refl _) _) (Nat.le_refl _) _) (Nat.le_refl _) _) (Nat.le_refl _) _) (Nat.le_refl _) _⟩
      case measure => simp [intOf]; omega
    · obtain rfl : t = cs.length := by omega
      have hz : zs = [] := List.eq_nil_of_length_eq_zero (by omega)
      subst hz
      have how' : wr.ownsRow w.heap.size 51 8 (.slice (some ⟨w.heap.size, 0, none⟩) cs.length cs.length) cs.length (cyCells cs) := by simpa using how
      clear how
      go_wp2_with fail
      go_ret
      exact ⟨_, rfl, how', hb⟩

set_option maxRecDepth 100000 in
set_option maxHeartbeats 1000000 in
theorem markCycS_ok (B n : Nat) (v : Value) (xs : List Value) (k : Int) (w : World) (hw : Has w B 8 v n xs) (hk : 0 ≤ k) (hk2 : k + n * 8 ≤ 9223372036854775807) :
    Calls Try.prog 22 #[v, .int .i64 k] w fun e w' => e = .returned (.int .i64 (k + n * 8)) ∧ Has w' B 8 v n (marks k (n * 8)) ∧ w.grownBy w' v.ownBlock := by
  rcases has_cases hw with ⟨rfl, rfl⟩ | ⟨g, cap, rfl, hB, hg, hm, _, _⟩
  · go_enter Try.func22, Try.ntmps22
    go_wp2_with fail
    refine wp_loop_rounds 1 ?_; rw [rounds_succ]
    go_wp2
    go_ret
    exact ⟨by simp, ⟨by simp [marks], by omega, .inl ⟨rfl, rfl⟩⟩, World.grownBy.refl _ _⟩
  · have hlen := hw.1
    go_enter Try.func22, Try.ntmps22
    go_wp2_with fail
    go_loopw [1, 5] (fun q i wr => ∃ t : Nat, t ≤ n ∧ i = .int .i64 t ∧ q = .int .i64 (k + t * 8) ∧ Has wr B 8 (.slice (some ⟨g, 0, none⟩) n cap) n (marks k (t * 8) ++ xs.drop (t * 8)) ∧ w.grownBy wr (some g)) (fun _ i _ => n - (intOf i).toNat)
    case atStart => exact ⟨0, by omega, rfl, by simp, by simpa [marks] using hw, World.grownBy.refl _ _⟩
    case round =>
      obtain ⟨t, ht, rfl, rfl, how, hgr⟩ := hrel
      by_cases hlt : t < n
      · go_wp2_with fail
        go_loopw [1, 6] (fun q i ws => ∃ s : Nat, s ≤ 8 ∧ i = .int .i64 s ∧ q = .int .i64 (k + t * 8 + s) ∧ Has ws B 8 (.slice (some ⟨g, 0, none⟩) n cap) n (marks k (t * 8 + s) ++ xs.drop (t * 8 + s)) ∧ w.grownBy ws (some g)) (fun _ i _ => 8 - (intOf i).toNat)
        case atStart => exact ⟨0, by omega, rfl, by simp, by simpa using how, hgr⟩
        case round =>
          clear how hgr
          obtain ⟨s, hs, rfl, rfl, how, hgr⟩ := hrel
          by_cases hlt' : s < 8
          · obtain ⟨hcl, hfr⟩ : (∀ j, j < n * 8 → wr.cell? ⟨g, j, none⟩ = (marks k (t * 8 + s) ++ xs.drop (t * 8 + s))[j]?) ∧ (∀ j, wr.frozen? ⟨g, j, none⟩ = false) := by
              rcases has_cases how with ⟨h', _⟩ | ⟨g', cap', h', _, _, _, h1, h2⟩
              · simp at h'
              · simp only [Value.slice.injEq, Option.some.injEq, Addr.mk.injEq, and_true, true_and] at h'
                obtain ⟨rfl, rfl⟩ := h'
                exact ⟨h1, h2⟩
            have hsz : (marks k (t * 8 + s) ++ xs.drop (t * 8 + s)).length = xs.length := by simp [length_marks]; omega
            obtain ⟨u0, k0⟩ : ∃ u, wr.cell? ⟨g, t * 8 + s, none⟩ = some u := by
              rw [hcl _ (by omega)]
              exact ⟨_, List.getElem?_eq_getElem (by omega)⟩
            have f0 := hfr (t * 8 + s)
            obtain ⟨s1, g1⟩ := has_stored how (t * 8 + s) (.int .i64 (k + (t * 8 + s : Nat)))
            rw [marks_set k (t * 8 + s) xs (by omega)] at s1
            have gg := grown_trans' hgr g1
            rw [show (k + (t * 8 + s : Nat) : Int) = k + t * 8 + s from by omega] at s1 gg
            clear how hgr g1 hw hsz hcl hfr
            go_wp2_with fail
            go_roundw
            case rel => exact ⟨s + 1, by omega, by go_num, by go_num, s1, gg⟩
            case measure => simp [intOf]; omega
          · obtain rfl : s = 8 := by omega
            go_wp2_with fail
            go_roundw
            case rel => exact ⟨t + 1, by omega, by go_num, by go_num, by rw [show (t + 1) * 8 = t * 8 + 8 from by omega]; exact how, hgr⟩
            case measure => simp [intOf]; omega
      · obtain rfl : t = n := by omega
        go_wp2_with fail
        go_ret
        exact ⟨rfl, by simpa [List.drop_of_length_le, hlen] using how, hgr⟩

end Go.Proofs.Ytnlmiemnblppbaa
