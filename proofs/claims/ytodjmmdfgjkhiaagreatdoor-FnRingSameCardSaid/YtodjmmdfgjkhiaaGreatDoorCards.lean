/-
  DERIVED. GIVEN WITH THE SEED: THE CARDS: each row of YtodjmmdfgjkhiaaGreatDoorRows.lean that lists a variable, with what it lists TIED to the program's text (the seventh form; the later family's looks); each row that meets fmt, with fmt's text TOLD by the authors' own Lean function (tested against real Go, not proved from fmt's source: count such statements apart). THE CARD IS WHAT COUNTS. Prove the row's statement (the work); the ties are given (YtodjmmdfgjkhiaaGreatDoorTie.lean); close each card by the builder's one call (the guide's Derived/Test/ToyasCard.lean, 'card_holds'). Laid BY PROGRAM, IN A SANDBOX (cutbox-door.mjs). By AI agents, Wed Nov 11 2026. No macro, syntax, notation, axiom, sorry.
-/
import Derived.Test.YtodjmmdfgjkhiaaGreatDoorRows
import GoSem.ClaimSeven
namespace Go.Proofs.YtodjmmdfgjkhiaaGreatDoor
namespace Rows

/-- THE TIED CARD OF 'laws.FnRingSame'. -/
def fnRingSameCard : Claim7 := { stood := { row := fnRingSameRow, standIns := [], harness := (true, "62d6807fc65f5230c93af5d28e165b40ff5d2c2168b4fd52b6eeda8a3dbe41cc"), looks := true }, kinds := [], alts := [], laidByText := true, laidKinds := [.handle], laidTests := true, laidLooks := .later }
def FnRingSameCardSaid : Prop := Claim7.holds Tryz.pinned (.plain (OpenSpec.ofChange fnRingSameSpec)) fnRingSameCard

/-- THE SECOND FORM's CARD OF 'laws.FnRingSame'. -/
def fnRingSameUptoCard : Claim7 := { stood := { row := fnRingSameUptoRow, standIns := [], harness := (true, "62d6807fc65f5230c93af5d28e165b40ff5d2c2168b4fd52b6eeda8a3dbe41cc"), looks := true }, kinds := [], alts := [], laidByText := true, laidKinds := [.handle], laidTests := true, laidLooks := .later }
def FnRingSameUptoCardSaid : Prop := Claim7.holds Tryz.pinned (.plain (OpenSpec.upto fnRingSameSpec)) fnRingSameUptoCard
end Rows
end Go.Proofs.YtodjmmdfgjkhiaaGreatDoor
