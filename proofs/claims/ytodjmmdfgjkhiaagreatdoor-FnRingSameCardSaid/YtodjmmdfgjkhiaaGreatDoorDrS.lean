/-
  A ring, a wheel and two pens that a reader draws.
-/
import Derived.Test.YtodjmmdfgjkhiaaGreatDoorOpenB
namespace Go.Proofs.YtodjmmdfgjkhiaaGreatDoor
open Go.RowKit

theorem results_tmp4 {fn : Func} {t u v x : Tmp} (h : fn.results = #[.tmp t, .tmp u, .tmp v, .tmp x]) (tmps : Array Value) (P : Program) (w : World) :
    (results fn tmps).run P w = .ok (.tuple #[tmps.getD t undef, tmps.getD u undef, tmps.getD v undef, tmps.getD x undef]) w := by
  simp [results, h]

def DrSame (w : World) (e : Ending) (w' : World) : Prop := ∃ r q p o : Int, e = .returned (.tuple #[.int .i64 r, .int .i64 q, .int .i64 p, .int .i64 o]) ∧ (6 ≤ q ∧ 6 ≤ r - q ∧ r ≤ 240) ∧ (-300 ≤ p ∧ p ≤ 300) ∧ (-300 ≤ o ∧ o ≤ 300) ∧ Below w.heap.size w w'

set_option maxHeartbeats 1000000 in
theorem drawSame_ok (A : Option Addr) (c : Nat) (bs : List Int) (w : World) (hc : CodeIn w A c bs) : Calls Tryz.prog 4 #[.slice A bs.length c] w (DrSame w) := by
  have H := hide hc
  clear hc
  go_enter Tryz.func4, Tryz.ntmps4
  go_wp2_with fail
  refine (l6Open_ok A c bs _ H.out.1 H.out.2.1 H.out.2.2.1 H.out.2.2.2).mono ?_
  rintro e w1 ⟨R, rfl, hR, hR1, hb1⟩
  clear H
  go_wp2_with fail
  refine (pick_ok R 0 60 _ hR1 (by decide) (by decide)).mono ?_
  rintro e w2 ⟨k, rfl, hk, hR2, hg2⟩
  have hb2 := kept_of_new hb1 hg2 hR
  clear hb1 hR1 hg2
  have hk : k < 60 := by omega
  go_wp2_with fail
  all_goals
    refine (pick_ok R _ _ _ hR2 (by omega) (by omega)).mono ?_
    rintro e w3 ⟨j, rfl, hj, hR3, hg3⟩
    have hb3 := kept_of_new hb2 hg3 hR
    clear hb2 hR2 hg3
    have hj : j ≤ k := by omega
    go_wp2_with fail
    refine (pick_ok R _ 3 _ hR3 (by omega) (by decide)).mono ?_
    rintro e w4 ⟨m, rfl, hm, hR4, hg4⟩
    have hb4 := kept_of_new hb3 hg4 hR
    clear hb3 hR3 hg4
    by_cases hm0 : (m : Int) > 0
    · go_wp2_with fail
      (try simp only [Exit.inBlock, Exit.then])
      refine bodyPost_ret (results_tmp4 rfl _ _ _) rfl ?_
      exact ⟨_, _, _, _, rfl, ⟨by omega, by omega, by omega⟩, ⟨by omega, by omega⟩, ⟨by omega, by omega⟩, hb4⟩
    · go_wp2_with fail
      refine (pick_ok R _ 21 _ hR4 (by omega) (by decide)).mono ?_
      rintro e w5 ⟨x, rfl, hx, hR5, hg5⟩
      have hb5 := kept_of_new hb4 hg5 hR
      clear hb4 hR4 hg5
      have hx : x < 21 := by omega
      go_wp2_with fail
      refine (pick_ok R _ 21 _ hR5 (by omega) (by decide)).mono ?_
      rintro e w6 ⟨y, rfl, hy, hR6, hg6⟩
      have hb6 := kept_of_new hb5 hg6 hR
      clear hb5 hR5 hg6
      have hy : y < 21 := by omega
      go_wp2_with fail
      (try simp only [Exit.inBlock, Exit.then])
      refine bodyPost_ret (results_tmp4 rfl _ _ _) rfl ?_
      exact ⟨_, _, _, _, rfl, ⟨by omega, by omega, by omega⟩, ⟨by omega, by omega⟩, ⟨by omega, by omega⟩, hb6⟩

end Go.Proofs.YtodjmmdfgjkhiaaGreatDoor
