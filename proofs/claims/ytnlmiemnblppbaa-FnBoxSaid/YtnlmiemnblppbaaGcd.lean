/-
  The greatest common divisor, as the program and the reference reckon it.
-/
import Derived.Test.YtnlmiemnblppbaaRows
import Derived.Test.YtnlmiemnblppbaaBase
import Derived.Deep.QuietTactic
import Derived.BigQuiet
namespace Go.Proofs.Ytnlmiemnblppbaa
open Go.RowKit

theorem gcd_step (a b : Int) : Int.gcd b (a.tmod b) = Int.gcd a b := by
  unfold Int.gcd
  rw [Int.natAbs_tmod, Nat.gcd_comm b.natAbs, ← Nat.gcd_rec, Nat.gcd_comm]

theorem tmod_bd (a b : Int) (M : Int) (h : -M ≤ b ∧ b ≤ M) (hb : b ≠ 0) : -M ≤ a.tmod b ∧ a.tmod b ≤ M := by
  have h1 : (a.tmod b).natAbs < b.natAbs := by
    rw [Int.natAbs_tmod]
    exact Nat.mod_lt _ (Int.natAbs_pos.2 hb)
  omega

theorem tmod_less (a b : Int) (hb : b ≠ 0) : (a.tmod b).natAbs < b.natAbs := by
  rw [Int.natAbs_tmod]
  exact Nat.mod_lt _ (Int.natAbs_pos.2 hb)

theorem gcd_end (a : Int) : max a (-a) = (Int.gcd a 0 : Int) := by
  rw [Int.gcd_zero_right]
  omega

set_option maxHeartbeats 400000 in
theorem l1Gcd_ok (a b : Int) (w : World) (ha : -1000000000000 ≤ a ∧ a ≤ 1000000000000) (hb : -1000000000000 ≤ b ∧ b ≤ 1000000000000) :
    Calls Try.prog 113 #[.int .i64 a, .int .i64 b] w fun e w' => e = .returned (.int .i64 (Int.gcd a b)) ∧ w = w' := by
  go_enter Try.func113, Try.ntmps113
  go_wp2_with fail
  go_loop [0, 1] (fun p q => ∃ x y : Int, p = .int .i64 x ∧ q = .int .i64 y ∧ (-1000000000000 ≤ x ∧ x ≤ 1000000000000) ∧ (-1000000000000 ≤ y ∧ y ≤ 1000000000000) ∧ Int.gcd x y = Int.gcd a b) (fun _ q => (intOf q).natAbs)
  case atStart => exact ⟨a, b, rfl, rfl, ha, hb, rfl⟩
  case round =>
    obtain ⟨x, y, rfl, rfl, ⟨x1, x2⟩, ⟨y1, y2⟩, hg⟩ := hrel
    have Hg := hide hg
    clear hg
    by_cases hy : y = 0
    · subst hy
      have hge := gcd_end x
      rw [Hg.out] at hge
      have Hge := hide hge
      clear hge
      go_wp2_with fail
      all_goals
        go_ret
        refine ⟨?_, rfl⟩
        rw [← Hge.out]
        refine congrArg (fun z => Ending.returned (.int .i64 z)) ?_
        omega
    · obtain ⟨t1, t2⟩ := tmod_bd x y 1000000000000 ⟨y1, y2⟩ hy
      have t3 := hide (tmod_less x y hy)
      have t4 := hide (gcd_step x y)
      go_wp2_with fail
      go_round
      case rel => exact ⟨y, x.tmod y, rfl, rfl, ⟨y1, y2⟩, ⟨t1, t2⟩, by rw [t4.out, Hg.out]⟩
      case measure => exact t3.out

end Go.Proofs.Ytnlmiemnblppbaa
