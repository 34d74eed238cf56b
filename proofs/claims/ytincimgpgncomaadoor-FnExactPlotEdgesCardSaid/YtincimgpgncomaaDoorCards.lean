/-
  DERIVED. GIVEN WITH THE SEED: THE CARDS: each row of YtincimgpgncomaaDoorRows.lean that lists a variable, with what it lists TIED to the program's text (the seventh form; the later family's looks); each row that meets fmt, with fmt's text TOLD by the authors' own Lean function (tested against real Go, not proved from fmt's source: count such statements apart). THE CARD IS WHAT COUNTS. Prove the row's statement (the work); the ties are given (YtincimgpgncomaaDoorTie.lean); close each card by the builder's one call (the guide's Derived/Test/ToyasCard.lean, 'card_holds'). Laid BY PROGRAM, IN A SANDBOX (cutbox-door.mjs). By AI agents, Wed Nov 11 2026. No macro, syntax, notation, axiom, sorry.
-/
import Derived.Test.YtincimgpgncomaaDoorRows
import GoSem.ClaimSeven
namespace Go.Proofs.YtincimgpgncomaaDoor
namespace Rows

/-- THE TIED CARD OF 'laws.FnExactPlotValid'. -/
def fnExactPlotValidCard : Claim7 := { stood := { row := fnExactPlotValidRow, standIns := [], harness := (true, "2711de16ae8a941eab259656f75031f98e41807913f0020eaf4cca2541e08e90"), looks := true }, kinds := [], alts := [], laidByText := true, laidKinds := [.data, .pinned], laidTests := true, laidLooks := .later }
def FnExactPlotValidCardSaid : Prop := Claim7.holds Tryd.pinned (.plain (OpenSpec.ofChange fnExactPlotValidSpec)) fnExactPlotValidCard

/-- THE TIED CARD OF 'laws.FnExactPlotSteps'. -/
def fnExactPlotStepsCard : Claim7 := { stood := { row := fnExactPlotStepsRow, standIns := [], harness := (true, "2711de16ae8a941eab259656f75031f98e41807913f0020eaf4cca2541e08e90"), looks := true }, kinds := [], alts := [], laidByText := true, laidKinds := [.data, .pinned], laidTests := true, laidLooks := .later }
def FnExactPlotStepsCardSaid : Prop := Claim7.holds Tryd.pinned (.plain (OpenSpec.ofChange fnExactPlotStepsSpec)) fnExactPlotStepsCard

/-- THE TIED CARD OF 'laws.FnExactPlotFlat'. -/
def fnExactPlotFlatCard : Claim7 := { stood := { row := fnExactPlotFlatRow, standIns := [], harness := (true, "2711de16ae8a941eab259656f75031f98e41807913f0020eaf4cca2541e08e90"), looks := true }, kinds := [], alts := [], laidByText := true, laidKinds := [.data, .pinned], laidTests := true, laidLooks := .later }
def FnExactPlotFlatCardSaid : Prop := Claim7.holds Tryd.pinned (.plain (OpenSpec.ofChange fnExactPlotFlatSpec)) fnExactPlotFlatCard

/-- THE TIED CARD OF 'laws.FnPlotSteps'. -/
def fnPlotStepsCard : Claim7 := { stood := { row := fnPlotStepsRow, standIns := [], harness := (true, "2711de16ae8a941eab259656f75031f98e41807913f0020eaf4cca2541e08e90"), looks := true }, kinds := [], alts := [], laidByText := true, laidKinds := [.data, .pinned], laidTests := true, laidLooks := .later }
def FnPlotStepsCardSaid : Prop := Claim7.holds Tryd.pinned (.plain (OpenSpec.ofChange fnPlotStepsSpec)) fnPlotStepsCard

/-- THE TIED CARD OF 'laws.FnExactPlotEnd'. -/
def fnExactPlotEndCard : Claim7 := { stood := { row := fnExactPlotEndRow, standIns := [], harness := (true, "2711de16ae8a941eab259656f75031f98e41807913f0020eaf4cca2541e08e90"), looks := true }, kinds := [], alts := [], laidByText := true, laidKinds := [.data, .pinned], laidTests := true, laidLooks := .later }
def FnExactPlotEndCardSaid : Prop := Claim7.holds Tryd.pinned (.plain (OpenSpec.ofChange fnExactPlotEndSpec)) fnExactPlotEndCard

/-- THE TIED CARD OF 'laws.FnExactPlotEdges'. -/
def fnExactPlotEdgesCard : Claim7 := { stood := { row := fnExactPlotEdgesRow, standIns := [], harness := (true, "2711de16ae8a941eab259656f75031f98e41807913f0020eaf4cca2541e08e90"), looks := true }, kinds := [], alts := [], laidByText := true, laidKinds := [.data, .pinned], laidTests := true, laidLooks := .later }
def FnExactPlotEdgesCardSaid : Prop := Claim7.holds Tryd.pinned (.plain (OpenSpec.ofChange fnExactPlotEdgesSpec)) fnExactPlotEdgesCard

/-- THE TIED CARD OF 'laws.FnPlot'. -/
def fnPlotCard : Claim7 := { stood := { row := fnPlotRow, standIns := [], harness := (true, "2711de16ae8a941eab259656f75031f98e41807913f0020eaf4cca2541e08e90"), looks := true }, kinds := [], alts := [], laidByText := true, laidKinds := [.data, .pinned], laidTests := true, laidLooks := .later }
def FnPlotCardSaid : Prop := Claim7.holds Tryd.pinned (.plain (OpenSpec.ofChange fnPlotSpec)) fnPlotCard

/-- THE TIED CARD OF 'laws.FnExactPlotMoves'. -/
def fnExactPlotMovesCard : Claim7 := { stood := { row := fnExactPlotMovesRow, standIns := [], harness := (true, "2711de16ae8a941eab259656f75031f98e41807913f0020eaf4cca2541e08e90"), looks := true }, kinds := [], alts := [], laidByText := true, laidKinds := [.data, .pinned], laidTests := true, laidLooks := .later }
def FnExactPlotMovesCardSaid : Prop := Claim7.holds Tryd.pinned (.plain (OpenSpec.ofChange fnExactPlotMovesSpec)) fnExactPlotMovesCard

/-- THE TIED CARD OF 'laws.FnFlat'. -/
def fnFlatCard : Claim7 := { stood := { row := fnFlatRow, standIns := [], harness := (true, "2711de16ae8a941eab259656f75031f98e41807913f0020eaf4cca2541e08e90"), looks := true }, kinds := [], alts := [], laidByText := true, laidKinds := [.data, .pinned], laidTests := true, laidLooks := .later }
def FnFlatCardSaid : Prop := Claim7.holds Tryd.pinned (.plain (OpenSpec.ofChange fnFlatSpec)) fnFlatCard

/-- THE TIED CARD OF 'laws.FnEdges'. -/
def fnEdgesCard : Claim7 := { stood := { row := fnEdgesRow, standIns := [], harness := (true, "2711de16ae8a941eab259656f75031f98e41807913f0020eaf4cca2541e08e90"), looks := true }, kinds := [], alts := [], laidByText := true, laidKinds := [.data, .pinned], laidTests := true, laidLooks := .later }
def FnEdgesCardSaid : Prop := Claim7.holds Tryd.pinned (.plain (OpenSpec.ofChange fnEdgesSpec)) fnEdgesCard

/-- THE TIED CARD OF 'laws.FnPlotEnd'. -/
def fnPlotEndCard : Claim7 := { stood := { row := fnPlotEndRow, standIns := [], harness := (true, "2711de16ae8a941eab259656f75031f98e41807913f0020eaf4cca2541e08e90"), looks := true }, kinds := [], alts := [], laidByText := true, laidKinds := [.data, .pinned], laidTests := true, laidLooks := .later }
def FnPlotEndCardSaid : Prop := Claim7.holds Tryd.pinned (.plain (OpenSpec.ofChange fnPlotEndSpec)) fnPlotEndCard

/-- THE TIED CARD OF 'laws.FnPlotMoves'. -/
def fnPlotMovesCard : Claim7 := { stood := { row := fnPlotMovesRow, standIns := [], harness := (true, "2711de16ae8a941eab259656f75031f98e41807913f0020eaf4cca2541e08e90"), looks := true }, kinds := [], alts := [], laidByText := true, laidKinds := [.data, .pinned], laidTests := true, laidLooks := .later }
def FnPlotMovesCardSaid : Prop := Claim7.holds Tryd.pinned (.plain (OpenSpec.ofChange fnPlotMovesSpec)) fnPlotMovesCard

/-- THE SECOND FORM's CARD OF 'laws.FnExactPlotValid'. -/
def fnExactPlotValidUptoCard : Claim7 := { stood := { row := fnExactPlotValidUptoRow, standIns := [], harness := (true, "2711de16ae8a941eab259656f75031f98e41807913f0020eaf4cca2541e08e90"), looks := true }, kinds := [], alts := [], laidByText := true, laidKinds := [.data, .pinned], laidTests := true, laidLooks := .later }
def FnExactPlotValidUptoCardSaid : Prop := Claim7.holds Tryd.pinned (.plain (OpenSpec.upto fnExactPlotValidSpec)) fnExactPlotValidUptoCard

/-- THE SECOND FORM's CARD OF 'laws.FnExactPlotSteps'. -/
def fnExactPlotStepsUptoCard : Claim7 := { stood := { row := fnExactPlotStepsUptoRow, standIns := [], harness := (true, "2711de16ae8a941eab259656f75031f98e41807913f0020eaf4cca2541e08e90"), looks := true }, kinds := [], alts := [], laidByText := true, laidKinds := [.data, .pinned], laidTests := true, laidLooks := .later }
def FnExactPlotStepsUptoCardSaid : Prop := Claim7.holds Tryd.pinned (.plain (OpenSpec.upto fnExactPlotStepsSpec)) fnExactPlotStepsUptoCard

/-- THE SECOND FORM's CARD OF 'laws.FnExactPlotFlat'. -/
def fnExactPlotFlatUptoCard : Claim7 := { stood := { row := fnExactPlotFlatUptoRow, standIns := [], harness := (true, "2711de16ae8a941eab259656f75031f98e41807913f0020eaf4cca2541e08e90"), looks := true }, kinds := [], alts := [], laidByText := true, laidKinds := [.data, .pinned], laidTests := true, laidLooks := .later }
def FnExactPlotFlatUptoCardSaid : Prop := Claim7.holds Tryd.pinned (.plain (OpenSpec.upto fnExactPlotFlatSpec)) fnExactPlotFlatUptoCard

/-- THE SECOND FORM's CARD OF 'laws.FnPlotSteps'. -/
def fnPlotStepsUptoCard : Claim7 := { stood := { row := fnPlotStepsUptoRow, standIns := [], harness := (true, "2711de16ae8a941eab259656f75031f98e41807913f0020eaf4cca2541e08e90"), looks := true }, kinds := [], alts := [], laidByText := true, laidKinds := [.data, .pinned], laidTests := true, laidLooks := .later }
def FnPlotStepsUptoCardSaid : Prop := Claim7.holds Tryd.pinned (.plain (OpenSpec.upto fnPlotStepsSpec)) fnPlotStepsUptoCard

/-- THE SECOND FORM's CARD OF 'laws.FnExactPlotEnd'. -/
def fnExactPlotEndUptoCard : Claim7 := { stood := { row := fnExactPlotEndUptoRow, standIns := [], harness := (true, "2711de16ae8a941eab259656f75031f98e41807913f0020eaf4cca2541e08e90"), looks := true }, kinds := [], alts := [], laidByText := true, laidKinds := [.data, .pinned], laidTests := true, laidLooks := .later }
def FnExactPlotEndUptoCardSaid : Prop := Claim7.holds Tryd.pinned (.plain (OpenSpec.upto fnExactPlotEndSpec)) fnExactPlotEndUptoCard

/-- THE SECOND FORM's CARD OF 'laws.FnExactPlotEdges'. -/
def fnExactPlotEdgesUptoCard : Claim7 := { stood := { row := fnExactPlotEdgesUptoRow, standIns := [], harness := (true, "2711de16ae8a941eab259656f75031f98e41807913f0020eaf4cca2541e08e90"), looks := true }, kinds := [], alts := [], laidByText := true, laidKinds := [.data, .pinned], laidTests := true, laidLooks := .later }
def FnExactPlotEdgesUptoCardSaid : Prop := Claim7.holds Tryd.pinned (.plain (OpenSpec.upto fnExactPlotEdgesSpec)) fnExactPlotEdgesUptoCard

/-- THE SECOND FORM's CARD OF 'laws.FnPlot'. -/
def fnPlotUptoCard : Claim7 := { stood := { row := fnPlotUptoRow, standIns := [], harness := (true, "2711de16ae8a941eab259656f75031f98e41807913f0020eaf4cca2541e08e90"), looks := true }, kinds := [], alts := [], laidByText := true, laidKinds := [.data, .pinned], laidTests := true, laidLooks := .later }
def FnPlotUptoCardSaid : Prop := Claim7.holds Tryd.pinned (.plain (OpenSpec.upto fnPlotSpec)) fnPlotUptoCard

/-- THE SECOND FORM's CARD OF 'laws.FnExactPlotMoves'. -/
def fnExactPlotMovesUptoCard : Claim7 := { stood := { row := fnExactPlotMovesUptoRow, standIns := [], harness := (true, "2711de16ae8a941eab259656f75031f98e41807913f0020eaf4cca2541e08e90"), looks := true }, kinds := [], alts := [], laidByText := true, laidKinds := [.data, .pinned], laidTests := true, laidLooks := .later }
def FnExactPlotMovesUptoCardSaid : Prop := Claim7.holds Tryd.pinned (.plain (OpenSpec.upto fnExactPlotMovesSpec)) fnExactPlotMovesUptoCard

/-- THE SECOND FORM's CARD OF 'laws.FnFlat'. -/
def fnFlatUptoCard : Claim7 := { stood := { row := fnFlatUptoRow, standIns := [], harness := (true, "2711de16ae8a941eab259656f75031f98e41807913f0020eaf4cca2541e08e90"), looks := true }, kinds := [], alts := [], laidByText := true, laidKinds := [.data, .pinned], laidTests := true, laidLooks := .later }
def FnFlatUptoCardSaid : Prop := Claim7.holds Tryd.pinned (.plain (OpenSpec.upto fnFlatSpec)) fnFlatUptoCard

/-- THE SECOND FORM's CARD OF 'laws.FnEdges'. -/
def fnEdgesUptoCard : Claim7 := { stood := { row := fnEdgesUptoRow, standIns := [], harness := (true, "2711de16ae8a941eab259656f75031f98e41807913f0020eaf4cca2541e08e90"), looks := true }, kinds := [], alts := [], laidByText := true, laidKinds := [.data, .pinned], laidTests := true, laidLooks := .later }
def FnEdgesUptoCardSaid : Prop := Claim7.holds Tryd.pinned (.plain (OpenSpec.upto fnEdgesSpec)) fnEdgesUptoCard

/-- THE SECOND FORM's CARD OF 'laws.FnPlotEnd'. -/
def fnPlotEndUptoCard : Claim7 := { stood := { row := fnPlotEndUptoRow, standIns := [], harness := (true, "2711de16ae8a941eab259656f75031f98e41807913f0020eaf4cca2541e08e90"), looks := true }, kinds := [], alts := [], laidByText := true, laidKinds := [.data, .pinned], laidTests := true, laidLooks := .later }
def FnPlotEndUptoCardSaid : Prop := Claim7.holds Tryd.pinned (.plain (OpenSpec.upto fnPlotEndSpec)) fnPlotEndUptoCard

/-- THE SECOND FORM's CARD OF 'laws.FnPlotMoves'. -/
def fnPlotMovesUptoCard : Claim7 := { stood := { row := fnPlotMovesUptoRow, standIns := [], harness := (true, "2711de16ae8a941eab259656f75031f98e41807913f0020eaf4cca2541e08e90"), looks := true }, kinds := [], alts := [], laidByText := true, laidKinds := [.data, .pinned], laidTests := true, laidLooks := .later }
def FnPlotMovesUptoCardSaid : Prop := Claim7.holds Tryd.pinned (.plain (OpenSpec.upto fnPlotMovesSpec)) fnPlotMovesUptoCard
end Rows
end Go.Proofs.YtincimgpgncomaaDoor
