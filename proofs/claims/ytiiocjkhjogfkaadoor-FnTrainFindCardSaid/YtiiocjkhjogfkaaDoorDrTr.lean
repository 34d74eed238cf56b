/-
  Fractions and trains that a reader draws; comparing lists of ints.
-/
import Derived.Test.YtiiocjkhjogfkaaDoorOpenB
import Derived.Test.YtiiocjkhjogfkaaDoorIntS
namespace Go.Proofs.YtiiocjkhjogfkaaDoor
open Go.RowKit

def DrII (w : World) (e : Ending) (w' : World) : Prop := ∃ a b : Int, e = .returned (.tuple #[.int .i64 a, .int .i64 b]) ∧ Below w.heap.size w w'

set_option maxHeartbeats 1000000 in
theorem drawFind_ok (A : Option Addr) (c : Nat) (bs : List Int) (w : World) (hc : CodeIn w A c bs) : Calls Tryd.prog 24 #[.slice A bs.length c] w (DrII w) := by
  have H := hide hc
  clear hc
  go_enter Tryd.func24, Tryd.ntmps24
  go_wp2_with fail
  refine (l6Open_ok A c bs _ H.out.1 H.out.2.1 H.out.2.2.1 H.out.2.2.2).mono ?_
  rintro e w0 ⟨R, rfl, hR, hR0, hb0⟩
  go_wp2_with fail
  refine (pick_ok R 0 40 _ hR0 (by omega) (by decide)).mono ?_
  rintro e w1 ⟨a, rfl, ha, hR1, hg1⟩
  have hb1 := kept_of_new hb0 hg1 hR
  go_wp2_with fail
  refine (pick_ok R _ 20 _ hR1 (by omega) (by decide)).mono ?_
  rintro e w2 ⟨b, rfl, hb, hR2, hg2⟩
  have hb2 := kept_of_new hb1 hg2 hR
  have ha' : a < 40 := by omega
  have hb' : b < 20 := by omega
  clear ha hb hR0 hR1 hg1 hg2 hb0 hb1
  go_wp2_with fail
  refine (pick_ok R _ 40 _ hR2 (by omega) (by decide)).mono ?_
  rintro e w3 ⟨d, rfl, hd, hR3, hg3⟩
  have hb3 := kept_of_new hb2 hg3 hR
  have hd' : d < 40 := by omega
  clear hd hR2 hg3 hb2
  go_wp2_with fail
  refine (pick_ok R _ 20 _ hR3 (by omega) (by decide)).mono ?_
  rintro e w4 ⟨f, rfl, hf, hR4, hg4⟩
  have hb4 := kept_of_new hb3 hg4 hR
  have hf' : f < 20 := by omega
  clear hf hR3 hg4 hb3
  go_wp2_with fail
  go_ret2
  exact ⟨_, _, rfl, hb4⟩

set_option maxHeartbeats 400000 in
theorem sameInts_ok (v v' : Value) (zs : List Int) (w : World) (hr : Reads w 1 v zs.length (zs.map (.int .i64))) (hr' : Reads w 1 v' zs.length (zs.map (.int .i64))) :
    Calls Tryd.prog 27 #[v, v'] w fun e w' => e = .returned (.bool true) ∧ Below w.heap.size w w' := by
  obtain ⟨_, hm, A, c, rfl, hc⟩ := hr
  obtain ⟨_, _, A', c', rfl, hc'⟩ := hr'
  go_enter Tryd.func27, Tryd.ntmps27
  go_wp2_with fail
  go_loopw [5] (fun i wr => ∃ t m : Nat, t ≤ zs.length ∧ i = .int .i64 t ∧ wr = w.drewN m) (fun i _ => zs.length - (intOf i).toNat)
  case atStart => exact ⟨0, 0, by omega, rfl, rfl⟩
  case round =>
    obtain ⟨t, m, ht, rfl, rfl⟩ := hrel
    by_cases hlt : t < zs.length
    · obtain ⟨b, o, rfl, hbl, hcell⟩ := hc (by omega) (by omega)
      obtain ⟨b', o', rfl, hbl', hcell'⟩ := hc' (by omega) (by omega)
      have h1 := (hcell t (by omega)).trans (show (zs.map (Value.int .i64))[t]? = some (.int .i64 zs[t]) by simp [hlt])
      have h2 := (hcell' t (by omega)).trans (show (zs.map (Value.int .i64))[t]? = some (.int .i64 zs[t]) by simp [hlt])
      clear hcell hc hcell' hc'
      generalize zs[t] = x at h1 h2
      have i3 : (0 : Int) ≤ (t : Int) := by omega
      have i4 : (t : Int) < (zs.length : Int) := by omega
      go_wp2_with fail
      go_quiet (fail)
      go_wp2_with fail
      go_roundw
      case rel => exact ⟨t + 1, _, by omega, by go_num, rfl⟩
      case measure => simp [intOf]; omega
    · go_wp2_with fail
      go_ret
      exact ⟨rfl, kept_drewN _ _⟩
end Go.Proofs.YtiiocjkhjogfkaaDoor
