/-
  Arguments that come in: a slice of bytes and a slice of Cycs, as the walks want them ('Reads').
-/
import Derived.Test.YtnlmiemnblppbaaCy1
import Derived.ProofKit
import Derived.Deep.Slices
import Derived.OpenShut
namespace Go.Proofs.Ytnlmiemnblppbaa
open Go.ChangeShapes Go.WideShapes Go.ChangeAt Go.RowKit

theorem plain_addr {w : World} {a : Addr} {v : Value} (h : w.cell? a = some v) : a = ⟨a.block, a.off, none⟩ := by
  obtain ⟨b, o, s⟩ := a
  have : s = none := World.cell?_spot h
  subst this
  rfl

section
variable {H : Type} {enc : TypeId × Value → H} {P : Program} {w : World} {spare : Nat → Bool} {held : Bool}

/-- A slice of bytes that came in. -/
theorem open_bytes {t e : TypeId} {fuel : Nat} {v : Value} {x : DataW H × List MemPlace} (ht : P.underlying t = some (.slice e)) (he : P.underlying e = some (.int .u8)) (hc : P.cellsOf e = 1)
    (h : DataW.trod enc P w 0 spare held fuel t [v] = some x) :
    ∃ (A : Option Addr) (c : Nat) (bs : List Int), v = .slice A bs.length c ∧ Reads w 1 (.slice A bs.length c) bs.length (bs.map (Value.int .u8)) ∧ (0 < bs.length → ∀ a, A = some a → a.block < w.heap.size) ∧ bs.length ≤ c ∧ ∀ b ∈ bs, 0 ≤ b ∧ b < 256 := by
  rcases open_ints ht he hc h with ⟨hcs, _⟩ | ⟨a, len, cap, zs, hcs, _, hl, hm, hz, _, hcell, hwz⟩
  · obtain rfl : v = .slice none 0 0 := by simpa using hcs
    exact ⟨none, 0, [], rfl, ⟨by simp, by simp, none, 0, rfl, fun h => absurd h (by simp)⟩, by simp, by simp, by simp⟩
  · obtain rfl : v = .slice (some a) len cap := by simpa using hcs
    have hlz : len ≤ zs.length := by rw [hz]; split <;> omega
    have e1 : (zs.take len).length = len := by simp; omega
    refine ⟨some a, cap, zs.take len, by rw [e1], ⟨by simp, by unfold maxLen at hm; omega, some a, cap, by rw [e1], fun h0 _ => ?_⟩, fun h0 a' ha' => ?_, by omega, fun b hb => ?_⟩
    · rw [e1] at h0
      have h00 := hcell 0 (by omega)
      rw [Addr.add_zero'] at h00
      have hp := plain_addr h00
      refine ⟨a.block, a.off, by rw [← hp], World.block_lt_of_cell? _ _ h00, fun j hj => ?_⟩
      rw [e1] at hj
      have hj' := hcell j (by omega)
      rw [hp, Addr.add_lit] at hj'
      rw [hj']
      simp [show j < len from by omega, show j < zs.length from by omega]
    · rw [e1] at h0
      obtain rfl : a = a' := by simpa using ha'
      have h00 := hcell 0 (by omega)
      rw [Addr.add_zero'] at h00
      exact World.block_lt_of_cell? _ _ h00
    · have := hwz b (List.mem_of_mem_take hb)
      simp [Lit.wf, IntKind.min, IntKind.max, IntKind.signed, IntKind.bits] at this
      omega

/-- A slice of Cycs that came in. -/
theorem open_cycs {t e i64 : TypeId} {f0 : Field} {fuel : Nat} {v : Value} {x : DataW H × List MemPlace} (ht : P.underlying t = some (.slice e)) (he : P.underlying e = some (.struct #[f0])) (hc : P.cellsOf e = 8)
    (h0 : f0.offset = 0 ∧ P.cellsOf f0.type = 8 ∧ P.underlying f0.type = some (.array 8 i64)) (h1 : P.cellsOf i64 = 1 ∧ P.underlying i64 = some (.int .i64))
    (h : DataW.trod enc P w 0 spare held fuel t [v] = some x) :
    ∃ cs : List C8, Reads w 8 v cs.length (cyCells cs) := by
  rcases Go.Deep.open_slice ht h with ⟨hcs, _⟩ | ⟨a, len, cap, m, n, D, Pl, hcs, _, hl, hm, hmm, _, hi⟩
  · obtain rfl : v = .slice none 0 0 := by simpa using hcs
    exact ⟨[], ⟨by simp [cyCells], by simp, none, 0, rfl, fun h => absurd h (by simp)⟩⟩
  · obtain rfl : v = .slice (some a) len cap := by simpa using hcs
    have hlm : len ≤ m := by rw [hmm]; split <;> omega
    have each : ∀ i, ∃ p : C8, i < len → ∀ j, j < 8 → w.cell? ((a.add (i * 8)).add j) = some (.int .i64 (p.get j)) := by
      intro i
      by_cases hlt : i < len
      · obtain ⟨cs', hcc, htr⟩ := hi i (by omega)
        rw [hc] at hcc
        obtain ⟨_, hcl, hat⟩ := World.cells?_some hcc
        obtain ⟨ys, n', _, _, _, hyl, hf⟩ := DataW.trod_struct he htr
        have g0 := hf 0 f0 rfl
        rw [h0.1, h0.2.1] at g0
        rw [List.getElem?_eq_getElem (by rw [hyl]; simp)] at g0
        obtain ⟨xs, m', _, _, _, hxl, ha⟩ := DataW.trod_array h0.2.2 g0
        have hcell : ∀ j, j < 8 → ∃ z : Int, cs'[j]? = some (.int .i64 z) := fun j hj => by
          have g := ha j hj
          rw [h1.1] at g
          rw [List.getElem?_eq_getElem (by omega)] at g
          obtain ⟨z, ez, _⟩ := DataW.trod_int h1.2 g
          refine ⟨z, ?_⟩
          have := congrArg (fun l : List Value => l[0]?) ez
          simpa [List.getElem?_take, hj] using this
        obtain ⟨z0, e0⟩ := hcell 0 (by omega)
        obtain ⟨z1, e1⟩ := hcell 1 (by omega)
        obtain ⟨z2, e2⟩ := hcell 2 (by omega)
        obtain ⟨z3, e3⟩ := hcell 3 (by omega)
        obtain ⟨z4, e4⟩ := hcell 4 (by omega)
        obtain ⟨z5, e5⟩ := hcell 5 (by omega)
        obtain ⟨z6, e6⟩ := hcell 6 (by omega)
        obtain ⟨z7, e7⟩ := hcell 7 (by omega)
        refine ⟨⟨z0, z1, z2, z3, z4, z5, z6, z7⟩, fun _ j hj => ?_⟩
        rw [hat j hj]
        rcases eight hj with rfl | rfl | rfl | rfl | rfl | rfl | rfl | rfl <;> assumption
      · exact ⟨⟨0, 0, 0, 0, 0, 0, 0, 0⟩, fun h => absurd h hlt⟩
    obtain ⟨f, hf⟩ := Classical.axiomOfChoice each
    have el : ((List.range len).map f).length = len := by simp
    refine ⟨(List.range len).map f, by rw [cyCells_len], by rw [el]; unfold maxLen at hm; omega, some a, cap, by rw [el], fun hp _ => ?_⟩
    rw [el] at hp
    have h00 := hf 0 hp 0 (by omega)
    rw [Nat.zero_mul, Addr.add_zero', Addr.add_zero'] at h00
    have hpa := plain_addr h00
    refine ⟨a.block, a.off, by rw [← hpa], World.block_lt_of_cell? _ _ h00, fun j hj => ?_⟩
    rw [el] at hj
    have hj2 : j / 8 < len := by omega
    have hh := hf (j / 8) hj2 (j % 8) (by omega)
    have ej : j = j / 8 * 8 + j % 8 := by omega
    rw [hpa, Addr.add_lit, Addr.add_lit, Nat.add_assoc, ← ej] at hh
    have hg := cyCells_at ((List.range len).map f) (j / 8) (j % 8) (by rw [el]; exact hj2) (by omega)
    rw [← ej] at hg
    rw [hg, hh]
    simp
end
end Go.Proofs.Ytnlmiemnblppbaa
