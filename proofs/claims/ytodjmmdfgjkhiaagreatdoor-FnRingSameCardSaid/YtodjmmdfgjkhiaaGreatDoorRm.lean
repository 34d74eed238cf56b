/-
  Rings and wheels: the program's check.
-/
import Derived.Test.YtodjmmdfgjkhiaaGreatDoorMesh2
import Derived.Test.YtodjmmdfgjkhiaaGreatDoorRs
namespace Go.Proofs.YtodjmmdfgjkhiaaGreatDoor
open Go.RowKit

def MeshPost (r q : Int) (i : Bool) (w : World) (e : Ending) (w' : World) : Prop :=
  ∃ (g : Int) (v : Value), e = .returned (.tuple #[.int .i64 g, v]) ∧ (ringP r q i → g = (Int.gcd r q : Int) ∧ v = .nilIface) ∧ (¬ ringP r q i → BadErr w' v) ∧ Below w.heap.size w w'

theorem badErr_m (w : World) (p : Addr) : BadErr w (.iface 58 (.pointer (some p))) := .inl ⟨p, rfl⟩

set_option maxHeartbeats 2000000 in
theorem meshes_ok (r q : Int) (i : Bool) (w : World) : Calls Tryz.prog 15 #[.int .i64 r, .int .i64 q, .bool i] w (MeshPost r q i w) := by
  by_cases h1 : gearP r
  · by_cases h2 : gearP q
    · have H1 : Hid (gearP r) := h1
      have H2 : Hid (gearP q) := h2
      have hg := gear_gcd h1 (q := q)
      unfold gearP at h1 h2
      go_enter Tryz.func15, Tryz.ntmps15
      go_wp2_with fail
      refine (gear_t r _ h1.1 h1.2).mono ?_
      rintro e w1 ⟨rfl, rfl⟩
      go_wp2_with fail
      refine (gear_t q _ h2.1 h2.2).mono ?_
      rintro e w1 ⟨rfl, rfl⟩
      go_wp2_with fail
      refine (join_nn w.heap.size 2 _ (by simp) (by simp)).mono ?_
      rintro e w1 ⟨rfl, hb1⟩
      have hb := kept_trans (kept_new w (.cells #[.nilIface, .nilIface] 41)) hb1
      by_cases h3 : i = true ∧ r ≤ q
      · obtain ⟨rfl, h4⟩ := h3
        have hP : Hid (¬ ringP r q true) := fun h => h.2.2 ⟨rfl, h4⟩
        clear hb1
        go_wp2_with fail
        go_ret2
        exact ⟨_, _, rfl, fun h => absurd h hP.out, fun _ => badErr_m _ _, kept_alloc hb _⟩
      · have hP : Hid (ringP r q i) := ⟨H1.out, H2.out, h3⟩
        clear hb1
        cases i with
        | false =>
          clear h3
          go_wp2_with fail
          refine (divisor_b r q _ (by omega) (by omega)).mono ?_
          rintro e w2 ⟨rfl, hb2⟩
          go_wp2_with fail
          go_ret2
          exact ⟨_, _, rfl, fun _ => ⟨rfl, rfl⟩, fun h => absurd hP.out h, kept_trans hb hb2⟩
        | true =>
          have h4 : ¬ r ≤ q := fun h => h3 ⟨rfl, h⟩
          clear h3
          go_wp2_with fail
          refine (divisor_b r q _ (by omega) (by omega)).mono ?_
          rintro e w2 ⟨rfl, hb2⟩
          go_wp2_with fail
          go_ret2
          exact ⟨_, _, rfl, fun _ => ⟨rfl, rfl⟩, fun h => absurd hP.out h, kept_trans hb hb2⟩
    · have hP : Hid (¬ ringP r q i) := fun h => h2 h.2.1
      have H2 : Hid (¬ gearP q) := h2
      unfold gearP at h1
      clear h2
      go_enter Tryz.func15, Tryz.ntmps15
      go_wp2_with fail
      refine (gear_t r _ h1.1 h1.2).mono ?_
      rintro e w1 ⟨rfl, rfl⟩
      go_wp2_with fail
      refine (gear_f q _ H2.out).mono ?_
      rintro e w1 ⟨rfl, hb1⟩
      go_wp2_with fail
      refine (join_nb w1.heap.size 2 _ _ (by simp) (by simp; rfl)).mono ?_
      rintro e w2 ⟨v, rfl, _, hv, hb2⟩
      have hb := kept_trans (kept_trans hb1 (kept_new w1 _)) hb2
      rcases hv rfl with ⟨p, rfl⟩ | ⟨j, n, c, A, p, rfl, k1, k2, k3, k4⟩
      · clear hb2 hb1
        go_wp2_with fail
        go_ret2
        exact ⟨_, _, rfl, fun h => absurd h hP.out, fun _ => badErr_m _ _, hb⟩
      · have hB : Hid (BadErr w2 (.iface 77 (.pointer (some ⟨j, 0, none⟩)))) := .inr ⟨j, n, c, A, p, rfl, k1, k2, k3, k4⟩
        clear hb2 hb1 k1 k2 k3 k4 hv
        go_wp2_with fail
        go_ret2
        exact ⟨_, _, rfl, fun h => absurd h hP.out, fun _ => hB.out, hb⟩
  · have hP : Hid (¬ ringP r q i) := fun h => h1 h.1
    have H1 : Hid (¬ gearP r) := h1
    clear h1
    by_cases h2 : gearP q
    · unfold gearP at h2
      go_enter Tryz.func15, Tryz.ntmps15
      go_wp2_with fail
      refine (gear_f r _ H1.out).mono ?_
      rintro e w1 ⟨rfl, hb1⟩
      go_wp2_with fail
      refine (gear_t q _ h2.1 h2.2).mono ?_
      rintro e w0 ⟨rfl, rfl⟩
      go_wp2_with fail
      refine (join_bn w1.heap.size 2 _ _ (by simp; rfl) (by simp)).mono ?_
      rintro e w2 ⟨v, rfl, _, hv, hb2⟩
      have hb := kept_trans (kept_trans hb1 (kept_new w1 _)) hb2
      rcases hv rfl with ⟨p, rfl⟩ | ⟨j, n, c, A, p, rfl, k1, k2, k3, k4⟩
      · clear hb2 hb1
        go_wp2_with fail
        go_ret2
        exact ⟨_, _, rfl, fun h => absurd h hP.out, fun _ => badErr_m _ _, hb⟩
      · have hB : Hid (BadErr w2 (.iface 77 (.pointer (some ⟨j, 0, none⟩)))) := .inr ⟨j, n, c, A, p, rfl, k1, k2, k3, k4⟩
        clear hb2 hb1 k1 k2 k3 k4 hv
        go_wp2_with fail
        go_ret2
        exact ⟨_, _, rfl, fun h => absurd h hP.out, fun _ => hB.out, hb⟩
    · have H2 : Hid (¬ gearP q) := h2
      clear h2
      go_enter Tryz.func15, Tryz.ntmps15
      go_wp2_with fail
      refine (gear_f r _ H1.out).mono ?_
      rintro e w0 ⟨rfl, hb0⟩
      go_wp2_with fail
      refine (gear_f q _ H2.out).mono ?_
      rintro e w1 ⟨rfl, hb1⟩
      have hb01 := kept_trans hb0 hb1
      clear hb0 hb1
      go_wp2_with fail
      refine (join_bb w1.heap.size 2 _ _ _ (by simp; rfl) (by simp; rfl)).mono ?_
      rintro e w2 ⟨v, rfl, _, hv, hb2⟩
      have hb := kept_trans (kept_trans hb01 (kept_new w1 _)) hb2
      rcases hv rfl with ⟨p, rfl⟩ | ⟨j, n, c, A, p, rfl, k1, k2, k3, k4⟩
      · clear hb2 hb01
        go_wp2_with fail
        go_ret2
        exact ⟨_, _, rfl, fun h => absurd h hP.out, fun _ => badErr_m _ _, hb⟩
      · have hB : Hid (BadErr w2 (.iface 77 (.pointer (some ⟨j, 0, none⟩)))) := .inr ⟨j, n, c, A, p, rfl, k1, k2, k3, k4⟩
        clear hb2 hb01 k1 k2 k3 k4 hv
        go_wp2_with fail
        go_ret2
        exact ⟨_, _, rfl, fun h => absurd h hP.out, fun _ => hB.out, hb⟩

end Go.Proofs.YtodjmmdfgjkhiaaGreatDoor
