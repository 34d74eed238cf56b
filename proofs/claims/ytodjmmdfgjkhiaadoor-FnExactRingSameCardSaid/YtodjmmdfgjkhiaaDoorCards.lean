/-
  DERIVED. GIVEN WITH THE SEED: THE CARDS: each row of YtodjmmdfgjkhiaaDoorRows.lean that lists a variable, with what it lists TIED to the program's text (the seventh form; the later family's looks); each row that meets fmt, with fmt's text TOLD by the authors' own Lean function (tested against real Go, not proved from fmt's source: count such statements apart). THE CARD IS WHAT COUNTS. Prove the row's statement (the work); the ties are given (YtodjmmdfgjkhiaaDoorTie.lean); close each card by the builder's one call (the guide's Derived/Test/ToyasCard.lean, 'card_holds'). Laid BY PROGRAM, IN A SANDBOX (cutbox-door.mjs). By AI agents, Wed Nov 11 2026. No macro, syntax, notation, axiom, sorry.
-/
import Derived.Test.YtodjmmdfgjkhiaaDoorRows
import GoSem.ClaimSeven
namespace Go.Proofs.YtodjmmdfgjkhiaaDoor
namespace Rows

/-- THE TIED CARD OF 'laws.FnExactRingDesign'. -/
def fnExactRingDesignCard : Claim7 := { stood := { row := fnExactRingDesignRow, standIns := [], harness := (true, "866b9be77658736eb5ee7d367484f788c174bcfff45dd8d7e25691279d46cf27"), looks := true }, kinds := [], alts := [], laidByText := true, laidKinds := [.handle], laidTests := true, laidLooks := .later }
def FnExactRingDesignCardSaid : Prop := Claim7.holds Tryd.pinned (.plain (OpenSpec.ofChange fnExactRingDesignSpec)) fnExactRingDesignCard

/-- THE TIED CARD OF 'laws.FnExactRingSame'. -/
def fnExactRingSameCard : Claim7 := { stood := { row := fnExactRingSameRow, standIns := [], harness := (true, "866b9be77658736eb5ee7d367484f788c174bcfff45dd8d7e25691279d46cf27"), looks := true }, kinds := [], alts := [], laidByText := true, laidKinds := [.handle], laidTests := true, laidLooks := .later }
def FnExactRingSameCardSaid : Prop := Claim7.holds Tryd.pinned (.plain (OpenSpec.ofChange fnExactRingSameSpec)) fnExactRingSameCard

/-- THE SECOND FORM's CARD OF 'laws.FnExactRingDesign'. -/
def fnExactRingDesignUptoCard : Claim7 := { stood := { row := fnExactRingDesignUptoRow, standIns := [], harness := (true, "866b9be77658736eb5ee7d367484f788c174bcfff45dd8d7e25691279d46cf27"), looks := true }, kinds := [], alts := [], laidByText := true, laidKinds := [.handle], laidTests := true, laidLooks := .later }
def FnExactRingDesignUptoCardSaid : Prop := Claim7.holds Tryd.pinned (.plain (OpenSpec.upto fnExactRingDesignSpec)) fnExactRingDesignUptoCard

/-- THE SECOND FORM's CARD OF 'laws.FnExactRingSame'. -/
def fnExactRingSameUptoCard : Claim7 := { stood := { row := fnExactRingSameUptoRow, standIns := [], harness := (true, "866b9be77658736eb5ee7d367484f788c174bcfff45dd8d7e25691279d46cf27"), looks := true }, kinds := [], alts := [], laidByText := true, laidKinds := [.handle], laidTests := true, laidLooks := .later }
def FnExactRingSameUptoCardSaid : Prop := Claim7.holds Tryd.pinned (.plain (OpenSpec.upto fnExactRingSameSpec)) fnExactRingSameUptoCard
end Rows
end Go.Proofs.YtodjmmdfgjkhiaaDoor
