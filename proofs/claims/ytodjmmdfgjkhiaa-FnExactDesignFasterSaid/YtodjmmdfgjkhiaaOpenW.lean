/-
  Arguments that come in: a slice of wheels, as the walks want them ('Reads').
-/
import Derived.Test.YtodjmmdfgjkhiaaW9
import Derived.ProofKit
import Derived.Deep.Slices
import Derived.OpenShut
namespace Go.Proofs.Ytodjmmdfgjkhiaa
open Go.ChangeShapes Go.WideShapes Go.ChangeAt Go.RowKit

theorem plain_addr {w : World} {a : Addr} {v : Value} (h : w.cell? a = some v) : a = ⟨a.block, a.off, none⟩ := by
  obtain ⟨b, o, s⟩ := a
  have : s = none := World.cell?_spot h
  subst this
  rfl

section
variable {H : Type} {enc : TypeId × Value → H} {P : Program} {w : World} {spare : Nat → Bool} {held : Bool}

/-- A slice of wheels that came in. -/
theorem open_wheels {t e i64 : TypeId} {f0 f1 c0 : Field} {fuel : Nat} {v : Value} {x : DataW H × List MemPlace} (ht : P.underlying t = some (.slice e)) (he : P.underlying e = some (.struct #[f0, f1])) (hc : P.cellsOf e = 9)
    (hf0 : f0.offset = 0 ∧ P.cellsOf f0.type = 1 ∧ P.underlying f0.type = some (.int .i64)) (hf1 : f1.offset = 1 ∧ P.cellsOf f1.type = 8 ∧ P.underlying f1.type = some (.struct #[c0])) (h0 : c0.offset = 0 ∧ P.cellsOf c0.type = 8 ∧ P.underlying c0.type = some (.array 8 i64)) (h1 : P.cellsOf i64 = 1 ∧ P.underlying i64 = some (.int .i64))
    (h : DataW.trod enc P w 0 spare held fuel t [v] = some x) :
    ∃ cs : List W9, Reads w 9 v cs.length (wlCells cs) := by
  rcases Go.Deep.open_slice ht h with ⟨hcs, _⟩ | ⟨a, len, cap, m, n, D, Pl, hcs, _, hl, hm, hmm, _, hi⟩
  · obtain rfl : v = .slice none 0 0 := by simpa using hcs
    exact ⟨[], ⟨by simp [wlCells], by simp, none, 0, rfl, fun h => absurd h (by simp)⟩⟩
  · obtain rfl : v = .slice (some a) len cap := by simpa using hcs
    have hlm : len ≤ m := by rw [hmm]; split <;> omega
    have each : ∀ i, ∃ p : W9, i < len → ∀ j, j < 9 → w.cell? ((a.add (i * 9)).add j) = some (.int .i64 (p.get j)) := by
      intro i
      by_cases hlt : i < len
      · obtain ⟨cs', hcc, htr⟩ := hi i (by omega)
        rw [hc] at hcc
        obtain ⟨_, hcl, hat⟩ := World.cells?_some hcc
        obtain ⟨ys, n', _, _, _, hyl, hf⟩ := DataW.trod_struct he htr
        have hyl2 : ys.length = 2 := by rw [hyl]; simp
        have k0 := hf 0 f0 rfl
        rw [hf0.1, hf0.2.1] at k0
        rw [List.getElem?_eq_getElem (by omega)] at k0
        obtain ⟨z, ez, _⟩ := DataW.trod_int hf0.2.2 k0
        have e0 : cs'[0]? = some (.int .i64 z) := by
          have := congrArg (fun l : List Value => l[0]?) ez
          simpa [List.getElem?_take] using this
        have k1 := hf 1 f1 rfl
        rw [hf1.1, hf1.2.1] at k1
        rw [List.getElem?_eq_getElem (by omega)] at k1
        obtain ⟨xs, m', _, _, _, hxl, hg⟩ := DataW.trod_struct hf1.2.2 k1
        have g0 := hg 0 c0 rfl
        rw [h0.1, h0.2.1] at g0
        rw [List.getElem?_eq_getElem (by rw [hxl]; simp)] at g0
        obtain ⟨us, q', _, _, _, hul, ha⟩ := DataW.trod_array h0.2.2 g0
        have hcell : ∀ j, j < 8 → ∃ z : Int, cs'[1 + j]? = some (.int .i64 z) := fun j hj => by
          have g := ha j hj
          rw [h1.1] at g
          rw [List.getElem?_eq_getElem (by omega)] at g
          obtain ⟨z, ez, _⟩ := DataW.trod_int h1.2 g
          refine ⟨z, ?_⟩
          have := congrArg (fun l : List Value => l[0]?) ez
          simpa [List.getElem?_take, List.getElem?_drop, hj, Nat.add_comm] using this
        obtain ⟨z0, e1⟩ := hcell 0 (by omega)
        obtain ⟨z1, e2⟩ := hcell 1 (by omega)
        obtain ⟨z2, e3⟩ := hcell 2 (by omega)
        obtain ⟨z3, e4⟩ := hcell 3 (by omega)
        obtain ⟨z4, e5⟩ := hcell 4 (by omega)
        obtain ⟨z5, e6⟩ := hcell 5 (by omega)
        obtain ⟨z6, e7⟩ := hcell 6 (by omega)
        obtain ⟨z7, e8⟩ := hcell 7 (by omega)
        refine ⟨⟨z, ⟨z0, z1, z2, z3, z4, z5, z6, z7⟩⟩, fun _ j hj => ?_⟩
        rw [hat j hj]
        rcases nine hj with rfl | rfl | rfl | rfl | rfl | rfl | rfl | rfl | rfl <;> assumption
      · exact ⟨zero9, fun h => absurd h hlt⟩
    obtain ⟨f, hf⟩ := Classical.axiomOfChoice each
    have el : ((List.range len).map f).length = len := by simp
    refine ⟨(List.range len).map f, by rw [wlCells_len], by rw [el]; unfold maxLen at hm; omega, some a, cap, by rw [el], fun hp _ => ?_⟩
    rw [el] at hp
    have h00 := hf 0 hp 0 (by omega)
    rw [Nat.zero_mul, Addr.add_zero', Addr.add_zero'] at h00
    have hpa := plain_addr h00
    refine ⟨a.block, a.off, by rw [← hpa], World.block_lt_of_cell? _ _ h00, fun j hj => ?_⟩
    rw [el] at hj
    have hj2 : j / 9 < len := by omega
    have hh := hf (j / 9) hj2 (j % 9) (by omega)
    have ej : j = j / 9 * 9 + j % 9 := by omega
    rw [hpa, Addr.add_lit, Addr.add_lit, Nat.add_assoc, ← ej] at hh
    have hg := wlCells_at ((List.range len).map f) (j / 9) (j % 9) (by rw [el]; exact hj2) (by omega)
    rw [← ej] at hg
    rw [hg, hh]
    simp
end
end Go.Proofs.Ytodjmmdfgjkhiaa
