/-
  Contracts of the helpers on lists of int: eqIntS, markIntS, heldIntS.
-/
import Derived.Test.YtiiocjkhjogfkaaRows
import Derived.Test.YtiiocjkhjogfkaaBase
import Derived.Deep.QuietTactic
import Derived.BigQuiet
namespace Go.Proofs.Ytiiocjkhjogfkaa
open Go.RowKit

set_option maxHeartbeats 400000 in
theorem heldIntS_ok (B n : Nat) (v : Value) (xs : List Value) (k : Int) (w : World) (hw : w.ownsRow B 3 1 v n xs)
    (hc : ∀ i : Nat, i < n → xs[i]? = some (.int .i64 (k + i))) (hk : 0 ≤ k) (hk2 : k + n ≤ 9223372036854775807) :
    Calls Try.prog 8 #[v, .int .i64 k] w fun e w' => e = .returned (.int .i64 (k + n)) ∧ w = w' := by
  rcases owns_cases hw with ⟨rfl, rfl⟩ | ⟨g, cap, rfl, hB, hg, hm, hcell, _⟩
  · go_enter Try.func8, Try.ntmps8
    go_wp2_with fail
    refine wp_loop_rounds 1 ?_; rw [rounds_succ]
    go_wp2
    go_ret
    exact ⟨by simp, rfl⟩
  · simp only [Nat.mul_one] at hcell
    go_enter Try.func8, Try.ntmps8
    go_wp2_with fail
    go_loop [1, 5] (fun q i => ∃ t : Nat, t ≤ n ∧ i = .int .i64 t ∧ q = .int .i64 (k + t)) (fun _ i => n - (intOf i).toNat)
    case atStart => exact ⟨0, by omega, rfl, by simp⟩
    case round =>
      obtain ⟨t, ht, rfl, rfl⟩ := hrel
      by_cases hlt : t < n
      · have hcell := (hcell t hlt).trans (hc t hlt)
        go_wp2
        go_round
        case rel => exact ⟨t + 1, by omega, by go_num, by go_num⟩
        case measure => simp [intOf]; omega
      · go_wp2
        go_ret
        obtain rfl : t = n := by omega
        exact ⟨rfl, rfl⟩

set_option maxHeartbeats 400000 in
theorem eqIntS_ok (B n : Nat) (v v' : Value) (xs : List Value) (w : World) (hw : w.ownsRow B 3 1 v n xs) (hw' : w.ownsRow B 3 1 v' n xs) (hx : ∀ i : Nat, i < n → ∃ z : Int, xs[i]? = some (.int .i64 z)) :
    Calls Try.prog 6 #[v, v'] w fun e w' => e = .returned (.bool true) ∧ Below w.heap.size w w' := by
  by_cases hn : n = 0
  · subst hn
    rcases owns_cases hw with ⟨rfl, _⟩ | ⟨g, cap, rfl, _⟩ <;> rcases owns_cases hw' with ⟨rfl, _⟩ | ⟨g', cap', rfl, _⟩
    all_goals
      go_enter Try.func6, Try.ntmps6
      go_wp2_with fail
      refine wp_loop_rounds 1 ?_; rw [rounds_succ]
      go_wp2
      go_ret
      exact ⟨rfl, Below.refl _ _⟩
  · rcases owns_cases hw with ⟨rfl, h0⟩ | ⟨g, cap, rfl, hB, hg, hm, hcell, _⟩
    · exact absurd h0 hn
    rcases owns_cases hw' with ⟨rfl, h0⟩ | ⟨g', cap', rfl, hB', hg', hm', hcell', _⟩
    · exact absurd h0 hn
    clear hw hw'
    simp only [Nat.mul_one] at hcell hcell'
    go_enter Try.func6, Try.ntmps6
    go_wp2_with fail
    go_loopw [5] (fun i wr => ∃ t m : Nat, t ≤ n ∧ i = .int .i64 t ∧ wr = w.drewN m) (fun i _ => n - (intOf i).toNat)
    case atStart => exact ⟨0, 0, by omega, rfl, rfl⟩
    case round =>
      obtain ⟨t, m, ht, rfl, rfl⟩ := hrel
      by_cases hlt : t < n
      · obtain ⟨z, hz⟩ := hx t hlt
        have h1 := (hcell t hlt).trans hz
        have h2 := (hcell' t hlt).trans hz
        clear hcell hcell' hz hx
        go_wp2_with fail
        go_quiet (fail)
        go_wp2
        go_roundw
        case rel => exact ⟨t + 1, _, by omega, by go_num, rfl⟩
        case measure => simp [intOf]; omega
      · go_wp2
        go_ret
        exact ⟨rfl, kept_drewN w m⟩

/-- The cells that marking leaves. -/
def marks (k : Int) (n : Nat) : List Value := (List.range n).map fun i => .int .i64 (k + (i : Nat))

theorem length_marks (k : Int) (n : Nat) : (marks k n).length = n := by simp [marks]

theorem marks_get (k : Int) (n i : Nat) (h : i < n) : (marks k n)[i]? = some (.int .i64 (k + i)) := by simp [marks, h]

theorem marks_set (k : Int) (t : Nat) (xs : List Value) (h : t < xs.length) : (marks k t ++ xs.drop t).set t (.int .i64 (k + t)) = marks k (t + 1) ++ xs.drop (t + 1) := by
  rw [List.set_append_right _ _ (by simp [length_marks]), length_marks, Nat.sub_self]
  have : xs.drop t = xs[t] :: xs.drop (t + 1) := List.drop_eq_getElem_cons h
  rw [this, List.set_cons_zero]
  simp [marks, List.range_succ]

set_option maxHeartbeats 400000 in
theorem markIntS_ok (B n : Nat) (v : Value) (xs : List Value) (k : Int) (w : World) (hw : w.ownsRow B 3 1 v n xs) (hx : ∀ i : Nat, i < n → ∃ z : Int, xs[i]? = some (.int .i64 z))
    (hk : 0 ≤ k) (hk2 : k + n ≤ 9223372036854775807) :
    Calls Try.prog 7 #[v, .int .i64 k] w fun e w' => e = .returned (.int .i64 (k + n)) ∧ w'.ownsRow B 3 1 v n (marks k n) ∧ w.grownBy w' v.ownBlock := by
  rcases owns_cases hw with ⟨rfl, rfl⟩ | ⟨g, cap, rfl, hB, hg, hm, hcell, hfr⟩
  · go_enter Try.func7, Try.ntmps7
    go_wp2_with fail
    refine wp_loop_rounds 1 ?_; rw [rounds_succ]
    go_wp2
    go_ret
    exact ⟨by simp, World.ownsRow_nil _ _ _ _, World.grownBy.refl _ _⟩
  · go_enter Try.func7, Try.ntmps7
    go_wp2_with fail
    go_loopw [1, 5] (fun q i wr => ∃ t : Nat, t ≤ n ∧ i = .int .i64 t ∧ q = .int .i64 (k + t) ∧ wr.ownsRow B 3 1 (.slice (some ⟨g, 0, none⟩) n cap) n (marks k t ++ xs.drop t) ∧ w.grownBy wr (some g)) (fun _ i _ => n - (intOf i).toNat)
    case atStart => exact ⟨0, by omega, rfl, by simp, by simpa [marks] using hw, World.grownBy.refl _ _⟩
    case round =>
      obtain ⟨t, ht, rfl, rfl, how, hgr⟩ := hrel
      by_cases hlt : t < n
      · obtain ⟨z, hz⟩ := hx t hlt
        have h1 : wr.cell? ⟨g, t, none⟩ = some (.int .i64 z) := by
          rw [how.cellAt t (by omega), List.getElem?_append_right (by simp [marks])]
          simpa [marks] using hz
        have h2 := how.frozenAt t
        obtain ⟨h3, h4⟩ := how.stored t (.int .i64 (k + t))
        have hlen := hw.1
        have e1 := marks_set k t xs (by omega)
        rw [e1] at h3
        clear hcell hz hx hw hfr e1 how
        go_wp2_with fail
        go_roundw
        case rel => exact ⟨t + 1, by omega, by go_num, by go_num, h3, ⟨h4.os.trans hgr.os, h4.tape.trans hgr.tape, h4.output.trans hgr.output, Nat.le_trans hgr.size h4.size, fun k hk hne => (h4.block k (Nat.lt_of_lt_of_le hk hgr.size) hne).trans (hgr.block k hk hne)⟩⟩
        case measure => simp [intOf]; omega
      · go_wp2
        go_ret
        obtain rfl : t = n := by omega
        have hlen := hw.1
        exact ⟨rfl, by simpa [List.drop_of_length_le, hlen] using how, hgr⟩
end Go.Proofs.Ytiiocjkhjogfkaa
