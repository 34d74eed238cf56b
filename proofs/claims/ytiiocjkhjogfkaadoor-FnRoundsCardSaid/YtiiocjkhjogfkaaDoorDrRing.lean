/-
  Rings that a reader draws.
-/
import Derived.Test.YtiiocjkhjogfkaaDoorOpenB
import Derived.Test.YtiiocjkhjogfkaaDoorCusps
namespace Go.Proofs.YtiiocjkhjogfkaaDoor
open Go.RowKit

def DrRing (w : World) (e : Ending) (w' : World) : Prop := ∃ (a b : Int) (i : Bool), e = .returned (.tuple #[.int .i64 a, .int .i64 b, .bool i]) ∧ Below w.heap.size w w'

def DrRingR (R N : Nat) (w : World) (e : Ending) (w' : World) : Prop := ∃ (a b : Int) (i : Bool), e = .returned (.tuple #[.int .i64 a, .int .i64 b, .bool i]) ∧ Rd w' R (N + 5) ∧ w.grownBy w' (some R)

set_option maxHeartbeats 1000000 in
theorem l92Ring_ok (R N : Nat) (w : World) (hR : Rd w R N) (hN : N ≤ 900000) :
    Calls Tryd.prog 34 #[.pointer (some ⟨R, 0, none⟩)] w (DrRingR R N w) := by
  go_enter Tryd.func34, Tryd.ntmps34
  go_wp2_with fail
  refine (pick_ok R N 100 _ hR (by omega) (by decide)).mono ?_
  rintro e w1 ⟨a, rfl, ha, hR1, hg1⟩
  go_wp2_with fail
  refine (pick_ok R _ 20 _ hR1 (by omega) (by decide)).mono ?_
  rintro e w2 ⟨b, rfl, hb, hR2, hg2⟩
  have hg02 := grown_trans' hg1 hg2
  have ha' : a < 100 := by omega
  have hb' : b < 20 := by omega
  clear ha hb hR1 hg1 hg2
  go_wp2_with fail
  refine (pick_ok R _ 60 _ hR2 (by omega) (by decide)).mono ?_
  rintro e w3 ⟨c, rfl, hc, hR3, hg3⟩
  have hg03 := grown_trans' hg02 hg3
  have hc' : c < 60 := by omega
  clear hc hR2 hg3 hg02
  go_wp2_with fail
  refine (pick_ok R _ 20 _ hR3 (by omega) (by decide)).mono ?_
  rintro e w4 ⟨d, rfl, hd, hR4, hg4⟩
  have hg04 := grown_trans' hg03 hg4
  have hd' : d < 20 := by omega
  clear hd hR3 hg4 hg03
  go_wp2_with fail
  refine (pick_ok R _ 2 _ hR4 (by omega) (by decide)).mono ?_
  rintro e w5 ⟨f, rfl, hf, hR5, hg5⟩
  have hg05 := grown_trans' hg04 hg5
  clear hf hR4 hg5 hg04
  go_wp2_with fail
  go_ret3
  exact ⟨_, _, _, rfl, rd_more hR5 (by omega), hg05⟩

theorem drawCusps_ok (A : Option Addr) (c : Nat) (bs : List Int) (w : World) (hc : CodeIn w A c bs) : Calls Tryd.prog 16 #[.slice A bs.length c] w (DrRing w) := by
  have H := hide hc
  clear hc
  go_enter Tryd.func16, Tryd.ntmps16
  go_wp2_with fail
  refine (l6Open_ok A c bs _ H.out.1 H.out.2.1 H.out.2.2.1 H.out.2.2.2).mono ?_
  rintro e w1 ⟨R, rfl, hR, hR1, hb1⟩
  go_wp2_with fail
  refine (l92Ring_ok R 0 _ hR1 (by decide)).mono ?_
  rintro e w2 ⟨a, b, i, rfl, hR2, hg2⟩
  have hb2 := kept_of_new hb1 hg2 hR
  go_wp2_with fail
  go_ret3
  exact ⟨a, b, i, rfl, hb2⟩

theorem drawRounds_ok (A : Option Addr) (c : Nat) (bs : List Int) (w : World) (hc : CodeIn w A c bs) : Calls Tryd.prog 17 #[.slice A bs.length c] w (DrRing w) := by
  have H := hide hc
  clear hc
  go_enter Tryd.func17, Tryd.ntmps17
  go_wp2_with fail
  refine (l6Open_ok A c bs _ H.out.1 H.out.2.1 H.out.2.2.1 H.out.2.2.2).mono ?_
  rintro e w1 ⟨R, rfl, hR, hR1, hb1⟩
  go_wp2_with fail
  refine (l92Ring_ok R 0 _ hR1 (by decide)).mono ?_
  rintro e w2 ⟨a, b, i, rfl, hR2, hg2⟩
  have hb2 := kept_of_new hb1 hg2 hR
  go_wp2_with fail
  go_ret3
  exact ⟨a, b, i, rfl, hb2⟩


/-- A ring and a wheel that fit are so many times their greatest common divisor. -/
theorem ring_parts {r q : Int} {i : Bool} (h : ringP r q i) : ∃ g x y : Int, (Int.gcd r q : Int) = g ∧ r / g = x ∧ q / g = y ∧ 1 ≤ g ∧ g ≤ 240 ∧ 1 ≤ x ∧ x ≤ 240 ∧ 1 ≤ y ∧ y ≤ 240 ∧ 6 ≤ r ∧ r ≤ 240 ∧ 6 ≤ q ∧ q ≤ 240 ∧ r = g * x ∧ q = g * y := by
  obtain ⟨g1, g2⟩ := gear_gcd h.1 (q := q)
  have h1 : 6 ≤ r ∧ r ≤ 240 := h.1
  have h2 : 6 ≤ q ∧ q ≤ 240 := h.2.1
  have d1 : (Int.gcd r q : Int) ∣ r := Int.gcd_dvd_left ..
  have d2 : (Int.gcd r q : Int) ∣ q := Int.gcd_dvd_right ..
  have e1 := Int.mul_ediv_cancel' d1
  have e2 := Int.mul_ediv_cancel' d2
  generalize (Int.gcd r q : Int) = g at *
  have b : ∀ n : Int, 6 ≤ n → n ≤ 240 → g * (n / g) = n → 1 ≤ n / g ∧ n / g ≤ 240 := fun n hn hn2 he => by
    have p1 : 0 ≤ n / g := Int.ediv_nonneg (by omega) (by omega)
    have p2 : n / g ≤ n := Int.ediv_le_self _ (by omega)
    have p3 : n / g ≠ 0 := fun h0 => by rw [h0] at he; omega
    omega
  have b1 := b r h1.1 h1.2 e1
  have b2 := b q h2.1 h2.2 e2
  exact ⟨g, r / g, q / g, rfl, rfl, rfl, g1, g2, b1.1, b1.2, b2.1, b2.2, h1.1, h1.2, h2.1, h2.2, e1.symm, e2.symm⟩

theorem prod_bd {x y M N : Int} (h1 : 1 ≤ x) (h2 : x ≤ M) (h3 : 1 ≤ y) (h4 : y ≤ N) : 0 ≤ x * y ∧ x * y ≤ M * N :=
  ⟨Int.mul_nonneg (by omega) (by omega), Int.mul_le_mul h2 h4 (by omega) (by omega)⟩

end Go.Proofs.YtiiocjkhjogfkaaDoor
