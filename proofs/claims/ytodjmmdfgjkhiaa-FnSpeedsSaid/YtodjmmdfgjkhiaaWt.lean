/-
  The program's tidy design, its parts: the closures, slices.IndexFunc, slices.DeleteFunc.
-/
import Derived.Test.YtodjmmdfgjkhiaaWv
import Derived.Test.YtodjmmdfgjkhiaaWcl
import Derived.Sort.WalkB12
namespace Go.Proofs.Ytodjmmdfgjkhiaa
open Go.RowKit

/-- The closure that looks for a speed. -/
theorem speedIs_ok (x y : W9) (B : Nat) (w : World) (hB : Blk9 w B 49 y) :
    Calls Try.prog 69 #[x.val, .pointer (some ⟨B, 0, none⟩)] w fun e w' => e = .returned (.bool (x.s == y.s)) ∧ Below w.heap.size w w' := by
  have e0 : w.cell? ⟨B, 0, none⟩ = some (.int .i64 y.s) := blk9_cell hB 0 (by omega)
  have hl := blk9_lt hB
  clear hB
  rw [val9_spell]
  go_enter Try.func69, Try.ntmps69
  go_wp2_with fail
  go_ret
  exact ⟨rfl, kept_new _ _⟩

/-- The closure that finds a radius 0. -/
theorem radIs_ok (x : W9) (w : World) :
    Calls Try.prog 72 #[x.val] w fun e w' => e = .returned (.bool (x.c.eqB zero8)) ∧ Below w.heap.size w w' := by
  have heq := fun W => eqlCy x.c zero8 W
  simp only [val_spell, zero8] at heq
  rw [show x.c.eqB zero8 = x.c.eqB ⟨0, 0, 0, 0, 0, 0, 0, 0⟩ from rfl]
  generalize x.c.eqB ⟨0, 0, 0, 0, 0, 0, 0, 0⟩ = r at heq ⊢
  rw [val9_spell]
  go_enter Try.func72, Try.ntmps72
  go_wp2_with fail
  go_ret
  exact ⟨rfl, kept_new _ _⟩

/-- What an index function tells. -/
def IdxIs (p : W9 → Bool) (ws : List W9) (k : Int) : Prop :=
  (k = -1 ∧ ∀ i (h : i < ws.length), p (ws[i]) = false) ∨ ∃ i : Nat, k = i ∧ ∃ h : i < ws.length, p (ws[i]) = true ∧ ∀ j (h : j < ws.length), j < i → p (ws[j]) = false

def IdxPost (p : W9 → Bool) (ws : List W9) (w : World) (e : Ending) (w' : World) : Prop := ∃ k : Int, e = .returned (.int .i64 k) ∧ IdxIs p ws k ∧ Below w.heap.size w w'

/-- A function value that answers p x, whatever is made meanwhile. -/
def PredW (g : Nat) (cb : Array Value) (p : W9 → Bool) (w : World) : Prop :=
  ∀ (x : W9) (W : World), Below w.heap.size w W → Calls Try.prog g (#[x.val] ++ cb) W fun e w' => e = .returned (.bool (p x)) ∧ Below W.heap.size W w'

set_option maxRecDepth 100000 in
set_option maxHeartbeats 800000 in
theorem idxW_ok (g : Nat) (cb : Array Value) (p : W9 → Bool) (eg : ∀ args w, (callFunc g args).run Try.prog w = .ok (.enter g args) w) (v : Value) (ws : List W9) (w : World) (hr : Reads w 9 v ws.length (wlCells ws)) (hp : PredW g cb p w) :
    Calls Try.prog 68 #[v, .func (.func g) #[] cb] w (IdxPost p ws w) := by
  obtain ⟨_, hm, A, c, rfl, hc⟩ := hr
  have Hp := hide hp
  clear hp
  go_enter Try.func68, Try.ntmps68
  go_wp2_with fail
  go_loopw [8] (fun i wr => ∃ t : Nat, t ≤ ws.length ∧ i = .int .i64 t ∧ (∀ j (h : j < ws.length), j < t → p (ws[j]) = false) ∧ Below w.heap.size w wr) (fun i _ => ws.length - (intOf i).toNat)
  case atStart => exact ⟨0, by omega, rfl, fun _ _ h => absurd h (by omega), Below.refl _ _⟩
  case round =>
    obtain ⟨t, ht, rfl, hup, hb⟩ := hrel
    have Hup := hide hup
    clear hup
    by_cases hlt : t < ws.length
    · obtain ⟨b, o, rfl, hbl, hcell⟩ := hc (by omega) (by omega)
      have hA := wl_cells (below_cells hb hbl hcell) t hlt
      clear hcell hc
      generalize hmt : ws[t] = m at hA
      have Hmt := hide hmt
      clear hmt
      obtain ⟨p0, p1, p2, p3, p4, p5, p6, p7, p8⟩ := hA
      have hcall := Hp.out m wr hb
      rw [val9_spell] at hcall
      cases hv : p m
      · have Hv := hide hv
        rw [hv] at hcall
        clear hv
        go_wp2_with (go_at_fn g; refine hcall.mono ?_; rintro e w1 ⟨rfl, hb1⟩)
        go_roundw
        case rel => exact ⟨t + 1, by omega, by go_num, fun j h hj => if hjt : j < t then Hup.out j h hjt else by
          obtain rfl : j = t := by omega
          rw [Hmt.out]; exact Hv.out, kept_trans hb hb1⟩
        case measure => simp [intOf]; omega
      · have Hv := hide hv
        rw [hv] at hcall
        clear hv
        go_wp2_with (go_at_fn g; refine hcall.mono ?_; rintro e w1 ⟨rfl, hb1⟩)
        go_ret
        exact ⟨t, rfl, .inr ⟨t, rfl, hlt, by rw [Hmt.out]; exact Hv.out, Hup.out⟩, kept_trans hb hb1⟩
    · obtain rfl : t = ws.length := by omega
      go_wp2_with fail
      go_ret
      exact ⟨-1, rfl, .inl ⟨rfl, fun i h => Hup.out i h h⟩, hb⟩

end Go.Proofs.Ytodjmmdfgjkhiaa
