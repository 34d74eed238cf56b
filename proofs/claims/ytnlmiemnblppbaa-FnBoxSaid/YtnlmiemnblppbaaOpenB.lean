/-
  The code that comes in: a slice of bytes, as the walks want it ('Reads').
-/
import Derived.Test.YtnlmiemnblppbaaRd
import Derived.ProofKit
import Derived.Deep.Slices
namespace Go.Proofs.Ytnlmiemnblppbaa
open Go.ChangeShapes Go.WideShapes Go.ChangeAt Go.RowKit

theorem plain_addr_b {w : World} {a : Addr} {v : Value} (h : w.cell? a = some v) : a = ⟨a.block, a.off, none⟩ := by
  obtain ⟨b, o, s⟩ := a
  have : s = none := World.cell?_spot h
  subst this
  rfl

section
variable {H : Type} {enc : TypeId × Value → H} {P : Program} {w : World} {spare : Nat → Bool} {held : Bool}

/-- A slice of bytes that came in. -/
theorem open_bytes {t e : TypeId} {fuel : Nat} {v : Value} {x : DataW H × List MemPlace} (ht : P.underlying t = some (.slice e)) (he : P.underlying e = some (.int .u8)) (hc : P.cellsOf e = 1)
    (h : DataW.trod enc P w 0 spare held fuel t [v] = some x) :
    ∃ (A : Option Addr) (c : Nat) (bs : List Int), v = .slice A bs.length c ∧ Reads w 1 (.slice A bs.length c) bs.length (bs.map (Value.int .u8)) ∧ (0 < bs.length → ∀ a, A = some a → a.block < w.heap.size) ∧ bs.length ≤ c ∧ ∀ b ∈ bs, 0 ≤ b ∧ b < 256 := by
  rcases open_ints ht he hc h with ⟨hcs, _⟩ | ⟨a, len, cap, zs, hcs, _, hl, hm, hz, _, hcell, hwz⟩
  · obtain rfl : v = .slice none 0 0 := by simpa using hcs
    exact ⟨none, 0, [], rfl, ⟨by simp, by simp, none, 0, rfl, fun h => absurd h (by simp)⟩, by simp, by simp, by simp⟩
  · obtain rfl : v = .slice (some a) len cap := by simpa using hcs
    have hlz : len ≤ zs.length := by rw [hz]; split <;> omega
    have e1 : (zs.take len).length = len := by simp; omega
    refine ⟨some a, cap, zs.take len, by rw [e1], ⟨by simp, by unfold maxLen at hm; omega, some a, cap, by rw [e1], fun h0 _ => ?_⟩, fun h0 a' ha' => ?_, by omega, fun b hb => ?_⟩
    · rw [e1] at h0
      have h00 := hcell 0 (by omega)
      rw [Addr.add_zero'] at h00
      have hp := plain_addr_b h00
      refine ⟨a.block, a.off, by rw [← hp], World.block_lt_of_cell? _ _ h00, fun j hj => ?_⟩
      rw [e1] at hj
      have hj' := hcell j (by omega)
      rw [hp, Addr.add_lit] at hj'
      rw [hj']
      simp [show j < len from by omega, show j < zs.length from by omega]
    · rw [e1] at h0
      obtain rfl : a = a' := by simpa using ha'
      have h00 := hcell 0 (by omega)
      rw [Addr.add_zero'] at h00
      exact World.block_lt_of_cell? _ _ h00
    · have := hwz b (List.mem_of_mem_take hb)
      simp [Lit.wf, IntKind.min, IntKind.max, IntKind.signed, IntKind.bits] at this
      omega

end

def CodeIn (w : World) (A : Option Addr) (c : Nat) (bs : List Int) : Prop :=
  Reads w 1 (.slice A bs.length c) bs.length (bs.map (Value.int .u8)) ∧ (0 < bs.length → ∀ a, A = some a → a.block < w.heap.size) ∧ bs.length ≤ c ∧ ∀ b ∈ bs, 0 ≤ b ∧ b < 256

end Go.Proofs.Ytnlmiemnblppbaa
