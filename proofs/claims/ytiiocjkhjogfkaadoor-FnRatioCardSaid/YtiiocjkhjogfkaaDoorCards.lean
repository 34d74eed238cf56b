/-
  DERIVED. GIVEN WITH THE SEED: THE CARDS: each row of YtiiocjkhjogfkaaDoorRows.lean that lists a variable, with what it lists TIED to the program's text (the seventh form; the later family's looks); each row that meets fmt, with fmt's text TOLD by the authors' own Lean function (tested against real Go, not proved from fmt's source: count such statements apart). THE CARD IS WHAT COUNTS. Prove the row's statement (the work); the ties are given (YtiiocjkhjogfkaaDoorTie.lean); close each card by the builder's one call (the guide's Derived/Test/ToyasCard.lean, 'card_holds'). Laid BY PROGRAM, IN A SANDBOX (cutbox-door.mjs). By AI agents, Wed Nov 11 2026. No macro, syntax, notation, axiom, sorry.
-/
import Derived.Test.YtiiocjkhjogfkaaDoorRows
import GoSem.ClaimSeven
namespace Go.Proofs.YtiiocjkhjogfkaaDoor
namespace Rows

/-- THE TIED CARD OF 'laws.FnExactRingCusps'. -/
def fnExactRingCuspsCard : Claim7 := { stood := { row := fnExactRingCuspsRow, standIns := [], harness := (true, "85218d0d5ad8b28a4c3c6d827174e40ec4c47f608e78e1b43088282c33ffb9c5"), looks := true }, kinds := [], alts := [], laidByText := true, laidKinds := [.handle], laidTests := true, laidLooks := .later }
def FnExactRingCuspsCardSaid : Prop := Claim7.holds Tryd.pinned (.plain (OpenSpec.ofChange fnExactRingCuspsSpec)) fnExactRingCuspsCard

/-- THE TIED CARD OF 'laws.FnExactRingRounds'. -/
def fnExactRingRoundsCard : Claim7 := { stood := { row := fnExactRingRoundsRow, standIns := [], harness := (true, "85218d0d5ad8b28a4c3c6d827174e40ec4c47f608e78e1b43088282c33ffb9c5"), looks := true }, kinds := [], alts := [], laidByText := true, laidKinds := [.handle], laidTests := true, laidLooks := .later }
def FnExactRingRoundsCardSaid : Prop := Claim7.holds Tryd.pinned (.plain (OpenSpec.ofChange fnExactRingRoundsSpec)) fnExactRingRoundsCard

/-- THE TIED CARD OF 'laws.FnCusps'. -/
def fnCuspsCard : Claim7 := { stood := { row := fnCuspsRow, standIns := [], harness := (true, "85218d0d5ad8b28a4c3c6d827174e40ec4c47f608e78e1b43088282c33ffb9c5"), looks := true }, kinds := [], alts := [], laidByText := true, laidKinds := [.handle], laidTests := true, laidLooks := .later }
def FnCuspsCardSaid : Prop := Claim7.holds Tryd.pinned (.plain (OpenSpec.ofChange fnCuspsSpec)) fnCuspsCard

/-- THE TIED CARD OF 'laws.FnRounds'. -/
def fnRoundsCard : Claim7 := { stood := { row := fnRoundsRow, standIns := [], harness := (true, "85218d0d5ad8b28a4c3c6d827174e40ec4c47f608e78e1b43088282c33ffb9c5"), looks := true }, kinds := [], alts := [], laidByText := true, laidKinds := [.handle], laidTests := true, laidLooks := .later }
def FnRoundsCardSaid : Prop := Claim7.holds Tryd.pinned (.plain (OpenSpec.ofChange fnRoundsSpec)) fnRoundsCard

/-- THE TIED CARD OF 'laws.FnExactTrainRatio'. -/
def fnExactTrainRatioCard : Claim7 := { stood := { row := fnExactTrainRatioRow, standIns := [], harness := (true, "85218d0d5ad8b28a4c3c6d827174e40ec4c47f608e78e1b43088282c33ffb9c5"), looks := true }, kinds := [], alts := [], laidByText := true, laidKinds := [.handle], laidTests := true, laidLooks := .later }
def FnExactTrainRatioCardSaid : Prop := Claim7.holds Tryd.pinned (.plain (OpenSpec.ofChange fnExactTrainRatioSpec)) fnExactTrainRatioCard

/-- THE TIED CARD OF 'laws.FnExactTrainTurns'. -/
def fnExactTrainTurnsCard : Claim7 := { stood := { row := fnExactTrainTurnsRow, standIns := [], harness := (true, "85218d0d5ad8b28a4c3c6d827174e40ec4c47f608e78e1b43088282c33ffb9c5"), looks := true }, kinds := [], alts := [], laidByText := true, laidKinds := [.handle], laidTests := true, laidLooks := .later }
def FnExactTrainTurnsCardSaid : Prop := Claim7.holds Tryd.pinned (.plain (OpenSpec.ofChange fnExactTrainTurnsSpec)) fnExactTrainTurnsCard

/-- THE TIED CARD OF 'laws.FnTrainFind'. -/
def fnTrainFindCard : Claim7 := { stood := { row := fnTrainFindRow, standIns := [], harness := (true, "85218d0d5ad8b28a4c3c6d827174e40ec4c47f608e78e1b43088282c33ffb9c5"), looks := true }, kinds := [], alts := [], laidByText := true, laidKinds := [.handle], laidTests := true, laidLooks := .later }
def FnTrainFindCardSaid : Prop := Claim7.holds Tryd.pinned (.plain (OpenSpec.ofChange fnTrainFindSpec)) fnTrainFindCard

/-- THE TIED CARD OF 'laws.FnRatio'. -/
def fnRatioCard : Claim7 := { stood := { row := fnRatioRow, standIns := [], harness := (true, "85218d0d5ad8b28a4c3c6d827174e40ec4c47f608e78e1b43088282c33ffb9c5"), looks := true }, kinds := [], alts := [], laidByText := true, laidKinds := [.handle], laidTests := true, laidLooks := .later }
def FnRatioCardSaid : Prop := Claim7.holds Tryd.pinned (.plain (OpenSpec.ofChange fnRatioSpec)) fnRatioCard

/-- THE TIED CARD OF 'laws.FnTrainTurns'. -/
def fnTrainTurnsCard : Claim7 := { stood := { row := fnTrainTurnsRow, standIns := [], harness := (true, "85218d0d5ad8b28a4c3c6d827174e40ec4c47f608e78e1b43088282c33ffb9c5"), looks := true }, kinds := [], alts := [], laidByText := true, laidKinds := [.handle], laidTests := true, laidLooks := .later }
def FnTrainTurnsCardSaid : Prop := Claim7.holds Tryd.pinned (.plain (OpenSpec.ofChange fnTrainTurnsSpec)) fnTrainTurnsCard

/-- THE SECOND FORM's CARD OF 'laws.FnExactRingCusps'. -/
def fnExactRingCuspsUptoCard : Claim7 := { stood := { row := fnExactRingCuspsUptoRow, standIns := [], harness := (true, "85218d0d5ad8b28a4c3c6d827174e40ec4c47f608e78e1b43088282c33ffb9c5"), looks := true }, kinds := [], alts := [], laidByText := true, laidKinds := [.handle], laidTests := true, laidLooks := .later }
def FnExactRingCuspsUptoCardSaid : Prop := Claim7.holds Tryd.pinned (.plain (OpenSpec.upto fnExactRingCuspsSpec)) fnExactRingCuspsUptoCard

/-- THE SECOND FORM's CARD OF 'laws.FnExactRingRounds'. -/
def fnExactRingRoundsUptoCard : Claim7 := { stood := { row := fnExactRingRoundsUptoRow, standIns := [], harness := (true, "85218d0d5ad8b28a4c3c6d827174e40ec4c47f608e78e1b43088282c33ffb9c5"), looks := true }, kinds := [], alts := [], laidByText := true, laidKinds := [.handle], laidTests := true, laidLooks := .later }
def FnExactRingRoundsUptoCardSaid : Prop := Claim7.holds Tryd.pinned (.plain (OpenSpec.upto fnExactRingRoundsSpec)) fnExactRingRoundsUptoCard

/-- THE SECOND FORM's CARD OF 'laws.FnCusps'. -/
def fnCuspsUptoCard : Claim7 := { stood := { row := fnCuspsUptoRow, standIns := [], harness := (true, "85218d0d5ad8b28a4c3c6d827174e40ec4c47f608e78e1b43088282c33ffb9c5"), looks := true }, kinds := [], alts := [], laidByText := true, laidKinds := [.handle], laidTests := true, laidLooks := .later }
def FnCuspsUptoCardSaid : Prop := Claim7.holds Tryd.pinned (.plain (OpenSpec.upto fnCuspsSpec)) fnCuspsUptoCard

/-- THE SECOND FORM's CARD OF 'laws.FnRounds'. -/
def fnRoundsUptoCard : Claim7 := { stood := { row := fnRoundsUptoRow, standIns := [], harness := (true, "85218d0d5ad8b28a4c3c6d827174e40ec4c47f608e78e1b43088282c33ffb9c5"), looks := true }, kinds := [], alts := [], laidByText := true, laidKinds := [.handle], laidTests := true, laidLooks := .later }
def FnRoundsUptoCardSaid : Prop := Claim7.holds Tryd.pinned (.plain (OpenSpec.upto fnRoundsSpec)) fnRoundsUptoCard

/-- THE SECOND FORM's CARD OF 'laws.FnExactTrainRatio'. -/
def fnExactTrainRatioUptoCard : Claim7 := { stood := { row := fnExactTrainRatioUptoRow, standIns := [], harness := (true, "85218d0d5ad8b28a4c3c6d827174e40ec4c47f608e78e1b43088282c33ffb9c5"), looks := true }, kinds := [], alts := [], laidByText := true, laidKinds := [.handle], laidTests := true, laidLooks := .later }
def FnExactTrainRatioUptoCardSaid : Prop := Claim7.holds Tryd.pinned (.plain (OpenSpec.upto fnExactTrainRatioSpec)) fnExactTrainRatioUptoCard

/-- THE SECOND FORM's CARD OF 'laws.FnExactTrainTurns'. -/
def fnExactTrainTurnsUptoCard : Claim7 := { stood := { row := fnExactTrainTurnsUptoRow, standIns := [], harness := (true, "85218d0d5ad8b28a4c3c6d827174e40ec4c47f608e78e1b43088282c33ffb9c5"), looks := true }, kinds := [], alts := [], laidByText := true, laidKinds := [.handle], laidTests := true, laidLooks := .later }
def FnExactTrainTurnsUptoCardSaid : Prop := Claim7.holds Tryd.pinned (.plain (OpenSpec.upto fnExactTrainTurnsSpec)) fnExactTrainTurnsUptoCard

/-- THE SECOND FORM's CARD OF 'laws.FnTrainFind'. -/
def fnTrainFindUptoCard : Claim7 := { stood := { row := fnTrainFindUptoRow, standIns := [], harness := (true, "85218d0d5ad8b28a4c3c6d827174e40ec4c47f608e78e1b43088282c33ffb9c5"), looks := true }, kinds := [], alts := [], laidByText := true, laidKinds := [.handle], laidTests := true, laidLooks := .later }
def FnTrainFindUptoCardSaid : Prop := Claim7.holds Tryd.pinned (.plain (OpenSpec.upto fnTrainFindSpec)) fnTrainFindUptoCard

/-- THE SECOND FORM's CARD OF 'laws.FnRatio'. -/
def fnRatioUptoCard : Claim7 := { stood := { row := fnRatioUptoRow, standIns := [], harness := (true, "85218d0d5ad8b28a4c3c6d827174e40ec4c47f608e78e1b43088282c33ffb9c5"), looks := true }, kinds := [], alts := [], laidByText := true, laidKinds := [.handle], laidTests := true, laidLooks := .later }
def FnRatioUptoCardSaid : Prop := Claim7.holds Tryd.pinned (.plain (OpenSpec.upto fnRatioSpec)) fnRatioUptoCard

/-- THE SECOND FORM's CARD OF 'laws.FnTrainTurns'. -/
def fnTrainTurnsUptoCard : Claim7 := { stood := { row := fnTrainTurnsUptoRow, standIns := [], harness := (true, "85218d0d5ad8b28a4c3c6d827174e40ec4c47f608e78e1b43088282c33ffb9c5"), looks := true }, kinds := [], alts := [], laidByText := true, laidKinds := [.handle], laidTests := true, laidLooks := .later }
def FnTrainTurnsUptoCardSaid : Prop := Claim7.holds Tryd.pinned (.plain (OpenSpec.upto fnTrainTurnsSpec)) fnTrainTurnsUptoCard
end Rows
end Go.Proofs.YtiiocjkhjogfkaaDoor
