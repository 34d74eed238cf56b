/-
  Arguments that come in: a slice of bytes and a slice of moves, as the walks want them ('Reads').
-/
import Derived.Test.YtbaojldhbemcnaaMv1
import Derived.ProofKit
import Derived.Deep.Slices
namespace Go.Proofs.Ytbaojldhbemcnaa
open Go.ChangeShapes Go.WideShapes Go.ChangeAt Go.RowKit

theorem plain_addr {w : World} {a : Addr} {v : Value} (h : w.cell? a = some v) : a = ⟨a.block, a.off, none⟩ := by
  obtain ⟨b, o, s⟩ := a
  have : s = none := World.cell?_spot h
  subst this
  rfl

section
variable {H : Type} {enc : TypeId × Value → H} {P : Program} {w : World} {spare : Nat → Bool} {held : Bool}

/-- A slice of bytes that came in. -/
theorem open_bytes {t e : TypeId} {fuel : Nat} {v : Value} {x : DataW H × List MemPlace} (ht : P.underlying t = some (.slice e)) (he : P.underlying e = some (.int .u8)) (hc : P.cellsOf e = 1)
    (h : DataW.trod enc P w 0 spare held fuel t [v] = some x) :
    ∃ (A : Option Addr) (c : Nat) (bs : List Int), v = .slice A bs.length c ∧ Reads w 1 (.slice A bs.length c) bs.length (bs.map (Value.int .u8)) ∧ (0 < bs.length → ∀ a, A = some a → a.block < w.heap.size) ∧ bs.length ≤ c ∧ ∀ b ∈ bs, 0 ≤ b ∧ b < 256 := by
  rcases open_ints ht he hc h with ⟨hcs, _⟩ | ⟨a, len, cap, zs, hcs, _, hl, hm, hz, _, hcell, hwz⟩
  · obtain rfl : v = .slice none 0 0 := by simpa using hcs
    exact ⟨none, 0, [], rfl, ⟨by simp, by simp, none, 0, rfl, fun h => absurd h (by simp)⟩, by simp, by simp, by simp⟩
  · obtain rfl : v = .slice (some a) len cap := by simpa using hcs
    have hlz : len ≤ zs.length := by rw [hz]; split <;> omega
    have e1 : (zs.take len).length = len := by simp; omega
    refine ⟨some a, cap, zs.take len, by rw [e1], ⟨by simp, by unfold maxLen at hm; omega, some a, cap, by rw [e1], fun h0 _ => ?_⟩, fun h0 a' ha' => ?_, by omega, fun b hb => ?_⟩
    · rw [e1] at h0
      have h00 := hcell 0 (by omega)
      rw [Addr.add_zero'] at h00
      have hp := plain_addr h00
      refine ⟨a.block, a.off, by rw [← hp], World.block_lt_of_cell? _ _ h00, fun j hj => ?_⟩
      rw [e1] at hj
      have hj' := hcell j (by omega)
      rw [hp, Addr.add_lit] at hj'
      rw [hj']
      simp [show j < len from by omega, show j < zs.length from by omega]
    · rw [e1] at h0
      obtain rfl : a = a' := by simpa using ha'
      have h00 := hcell 0 (by omega)
      rw [Addr.add_zero'] at h00
      exact World.block_lt_of_cell? _ _ h00
    · have := hwz b (List.mem_of_mem_take hb)
      simp [Lit.wf, IntKind.min, IntKind.max, IntKind.signed, IntKind.bits] at this
      omega

/-- A slice of moves that came in. -/
theorem open_moves {t e : TypeId} {f0 f1 : Field} {fuel : Nat} {v : Value} {x : DataW H × List MemPlace} (ht : P.underlying t = some (.slice e)) (he : P.underlying e = some (.struct #[f0, f1])) (hc : P.cellsOf e = 2)
    (h0 : f0.offset = 0 ∧ P.cellsOf f0.type = 1 ∧ P.underlying f0.type = some (.int .i64)) (h1 : f1.offset = 1 ∧ P.cellsOf f1.type = 1 ∧ P.underlying f1.type = some (.int .i64))
    (h : DataW.trod enc P w 0 spare held fuel t [v] = some x) :
    ∃ ms : List (Int × Int), Reads w 2 v ms.length (mvCells ms) := by
  rcases Go.Deep.open_slice ht h with ⟨hcs, _⟩ | ⟨a, len, cap, m, n, D, Pl, hcs, _, hl, hm, hmm, _, hi⟩
  · obtain rfl : v = .slice none 0 0 := by simpa using hcs
    exact ⟨[], ⟨by simp [mvCells], by simp, none, 0, rfl, fun h => absurd h (by simp)⟩⟩
  · obtain rfl : v = .slice (some a) len cap := by simpa using hcs
    have hlm : len ≤ m := by rw [hmm]; split <;> omega
    have each : ∀ i, ∃ p : Int × Int, i < len → w.cell? (a.add (i * 2)) = some (.int .i64 p.1) ∧ w.cell? ((a.add (i * 2)).add 1) = some (.int .i64 p.2) := by
      intro i
      by_cases hlt : i < len
      · obtain ⟨cs', hcc, htr⟩ := hi i (by omega)
        rw [hc] at hcc
        obtain ⟨_, hcl, hat⟩ := World.cells?_some hcc
        obtain ⟨ys, n', _, _, _, hyl, hf⟩ := DataW.trod_struct he htr
        match cs', hcl with
        | [c0, c1], _ =>
          have g0 := hf 0 f0 rfl
          have g1 := hf 1 f1 rfl
          rw [h0.1, h0.2.1] at g0
          rw [h1.1, h1.2.1] at g1
          rw [List.getElem?_eq_getElem (by rw [hyl]; simp)] at g0 g1
          obtain ⟨x0, e0, _⟩ := DataW.trod_int h0.2.2 g0
          obtain ⟨x1, e1, _⟩ := DataW.trod_int h1.2.2 g1
          have d0 : c0 = .int .i64 x0 := by simpa using e0
          have d1 : c1 = .int .i64 x1 := by simpa using e1
          refine ⟨(x0, x1), fun _ => ⟨?_, ?_⟩⟩
          · have := hat 0 (by omega)
            rw [Addr.add_zero'] at this
            simpa [d0] using this
          · simpa [d1] using hat 1 (by omega)
      · exact ⟨(0, 0), fun h => absurd h hlt⟩
    obtain ⟨f, hf⟩ := Classical.axiomOfChoice each
    have el : ((List.range len).map f).length = len := by simp
    refine ⟨(List.range len).map f, by rw [mvCells_len], by rw [el]; unfold maxLen at hm; omega, some a, cap, by rw [el], fun hp _ => ?_⟩
    rw [el] at hp
    have h00 := (hf 0 hp).1
    rw [Nat.zero_mul, Addr.add_zero'] at h00
    have hpa := plain_addr h00
    refine ⟨a.block, a.off, by rw [← hpa], World.block_lt_of_cell? _ _ h00, fun j hj => ?_⟩
    rw [el] at hj
    have hj2 : j / 2 < len := by omega
    have hh := hf (j / 2) hj2
    rw [hpa, Addr.add_lit, Addr.add_lit] at hh
    rcases Nat.mod_two_eq_zero_or_one j with hz | ho
    · have ej : j = j / 2 * 2 := by omega
      have := mvCells_x ((List.range len).map f) (j / 2) (by rw [el]; exact hj2)
      rw [← ej] at this hh
      rw [this, hh.1]
      simp
    · have ej : j = j / 2 * 2 + 1 := by omega
      have := mvCells_y ((List.range len).map f) (j / 2) (by rw [el]; exact hj2)
      rw [Nat.add_assoc, ← ej] at hh
      rw [← ej] at this
      rw [this, hh.2]
      simp
end
end Go.Proofs.Ytbaojldhbemcnaa
