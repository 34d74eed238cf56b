/-
  NARROWER THAN 'FOR EVERY INPUT', by the rows' own cells (each row's printed sentence says how): FnExactPlotValid: laid · FnExactPlotSteps: laid · FnExactPlotFlat: laid · FnPlotSteps: laid · FnExactPlotEnd: laid · FnExactPlotEdges: laid · FnPlot: laid · FnExactPlotMoves: laid · FnFlat: laid · FnEdges: laid · FnPlotEnd: laid · FnPlotMoves: laid.
  DERIVED. THE GIVEN ROWS OF THIS SEAT. 12 by the template 'for every input the law returns true; each argument reads behind the call as it read before'; 0 by the template 'total and deterministic' (their statements: YtincimgpgncomaaDoorTotals.lean).
  GIVEN WITH THE SEED: the statements are not yours to turn. If you find one false, say at which input.
  Laid BY PROGRAM, IN A SANDBOX (cutbox-rows.mjs): the forced cells as the released guide's own fill.sh prints them over the translation a6d8c1e24c2d5d48… (all of the seat's roots in one cut). By AI agents, Wed Nov 11 2026. No macro, syntax, notation, axiom, sorry.
-/
import Derived.Test.YtincimgpgncomaaDoorChecked
import GoSem.PinnedTables
import GoSem.Claim
import GoSem.ClaimJoined
import GoSem.ClaimMapViews
import Derived.JoinedTies
import Derived.KernelRfl
namespace Go.Proofs.YtincimgpgncomaaDoor
/- THE CELL 'sum', in the pinned program and in every row, IS THE sha256 OF THE DUMP (.gsa) THAT YtincimgpgncomaaDoorProg.lean LOADS. Nothing in Lean hashes anything: it is a label: what it is worth is what the hold of that sum in a sandbox is worth. -/
noncomputable def Tryd.pinned : Pinned := { name := "ytincimgpgncomaadoor", sum := "a6d8c1e24c2d5d481b8543c9cabfb0fa12b8b9664071fdefedbf543bb7ed9cf4", checked := Tryd.checked }
namespace Rows
def none {H : Type} : Left H := { results := [], args := [] }

/- WHAT THE LISTED PACKAGE-LEVEL VARIABLES READ AS WHEN THE CALL BEGINS. Each datum BY PROGRAM (the guide's laid-datum.mjs) off the statement by which the dump's own 'gosem.cut.vars' lays the variable. In a bare row this is a premise. The card (YtincimgpgncomaaDoorCards.lean) ties it to the program's text. -/
def laid_unicode_utf8_acceptRanges {H : Type} : DataW H := .agg [.agg [.lit (.int .u8 128), .lit (.int .u8 191)], .agg [.lit (.int .u8 160), .lit (.int .u8 191)], .agg [.lit (.int .u8 128), .lit (.int .u8 159)], .agg [.lit (.int .u8 144), .lit (.int .u8 191)], .agg [.lit (.int .u8 128), .lit (.int .u8 143)], .agg [.lit (.int .u8 0), .lit (.int .u8 0)], .agg [.lit (.int .u8 0), .lit (.int .u8 0)], .agg [.lit (.int .u8 0), .lit (.int .u8 0)], .agg [.lit (.int .u8 0), .lit (.int .u8 0)], .agg [.lit (.int .u8 0), .lit (.int .u8 0)], .agg [.lit (.int .u8 0), .lit (.int .u8 0)], .agg [.lit (.int .u8 0), .lit (.int .u8 0)], .agg [.lit (.int .u8 0), .lit (.int .u8 0)], .agg [.lit (.int .u8 0), .lit (.int .u8 0)], .agg [.lit (.int .u8 0), .lit (.int .u8 0)], .agg [.lit (.int .u8 0), .lit (.int .u8 0)]]
/-- One of Go's own tables, pinned by name: the form's constant. -/
def laid_unicode_utf8_first : DataW Unit := Go.Pinned.utf8First

/-- 'laws.FnExactPlotValid': WHATEVER THE INPUT: true; the input reads as it did. -/
def fnExactPlotValidSpec : ChangeSpec := { name := "fnExactPlotValid", fn := fun _ => fun
  | [d] => { results := [.lit (.bool true)], args := [d] }
  | _ => none }
def fnExactPlotValidRow : OpenClaim := { program := "ytincimgpgncomaadoor", sum := "a6d8c1e24c2d5d481b8543c9cabfb0fa12b8b9664071fdefedbf543bb7ed9cf4", func := "loop.example/turningwheels/laws.FnExactPlotValid", spec := "fnExactPlotValid", inPlace := ["internal/bytealg.CountString", "internal/bytealg.IndexByteString", "internal/bytealg.IndexString", "internal/abi.NoEscape", "internal/bytealg.MakeNoZero"], unfollowed := true, recurses := true, named := ["unicode/utf8.first", "unicode/utf8.acceptRanges", "internal/bytealg.MaxLen"], plainKeys := false, apart := false, laid := [("unicode/utf8.acceptRanges", laid_unicode_utf8_acceptRanges), ("unicode/utf8.first", laid_unicode_utf8_first)] }
def FnExactPlotValidSaid : Prop := fnExactPlotValidRow.holds Tryd.pinned (OpenSpec.ofChange fnExactPlotValidSpec)

/-- ITS FALSE NEIGHBOUR: 'it returns false'. Refute it at one input. -/
def fnExactPlotValidWrong : ChangeSpec := { name := "fnExactPlotValid", fn := fun _ => fun
  | [d] => { results := [.lit (.bool false)], args := [d] }
  | _ => none }
def FnExactPlotValidWrongFalsely : Prop := fnExactPlotValidRow.holds Tryd.pinned (OpenSpec.ofChange fnExactPlotValidWrong)

/-- 'laws.FnExactPlotSteps': WHATEVER THE INPUT: true; the input reads as it did. -/
def fnExactPlotStepsSpec : ChangeSpec := { name := "fnExactPlotSteps", fn := fun _ => fun
  | [d] => { results := [.lit (.bool true)], args := [d] }
  | _ => none }
def fnExactPlotStepsRow : OpenClaim := { program := "ytincimgpgncomaadoor", sum := "a6d8c1e24c2d5d481b8543c9cabfb0fa12b8b9664071fdefedbf543bb7ed9cf4", func := "loop.example/turningwheels/laws.FnExactPlotSteps", spec := "fnExactPlotSteps", inPlace := ["internal/bytealg.CountString", "internal/bytealg.IndexByteString", "internal/bytealg.IndexString", "internal/abi.NoEscape", "internal/bytealg.MakeNoZero"], unfollowed := true, recurses := true, named := ["unicode/utf8.first", "unicode/utf8.acceptRanges", "internal/bytealg.MaxLen"], plainKeys := false, apart := false, laid := [("unicode/utf8.acceptRanges", laid_unicode_utf8_acceptRanges), ("unicode/utf8.first", laid_unicode_utf8_first)] }
def FnExactPlotStepsSaid : Prop := fnExactPlotStepsRow.holds Tryd.pinned (OpenSpec.ofChange fnExactPlotStepsSpec)

/-- ITS FALSE NEIGHBOUR: 'it returns false'. Refute it at one input. -/
def fnExactPlotStepsWrong : ChangeSpec := { name := "fnExactPlotSteps", fn := fun _ => fun
  | [d] => { results := [.lit (.bool false)], args := [d] }
  | _ => none }
def FnExactPlotStepsWrongFalsely : Prop := fnExactPlotStepsRow.holds Tryd.pinned (OpenSpec.ofChange fnExactPlotStepsWrong)

/-- 'laws.FnExactPlotFlat': WHATEVER THE INPUT: true; the input reads as it did. -/
def fnExactPlotFlatSpec : ChangeSpec := { name := "fnExactPlotFlat", fn := fun _ => fun
  | [d] => { results := [.lit (.bool true)], args := [d] }
  | _ => none }
def fnExactPlotFlatRow : OpenClaim := { program := "ytincimgpgncomaadoor", sum := "a6d8c1e24c2d5d481b8543c9cabfb0fa12b8b9664071fdefedbf543bb7ed9cf4", func := "loop.example/turningwheels/laws.FnExactPlotFlat", spec := "fnExactPlotFlat", inPlace := ["internal/bytealg.CountString", "internal/bytealg.IndexByteString", "internal/bytealg.IndexString", "internal/abi.NoEscape", "internal/bytealg.MakeNoZero"], unfollowed := true, recurses := true, named := ["unicode/utf8.first", "unicode/utf8.acceptRanges", "internal/bytealg.MaxLen"], plainKeys := false, apart := false, laid := [("unicode/utf8.acceptRanges", laid_unicode_utf8_acceptRanges), ("unicode/utf8.first", laid_unicode_utf8_first)] }
def FnExactPlotFlatSaid : Prop := fnExactPlotFlatRow.holds Tryd.pinned (OpenSpec.ofChange fnExactPlotFlatSpec)

/-- ITS FALSE NEIGHBOUR: 'it returns false'. Refute it at one input. -/
def fnExactPlotFlatWrong : ChangeSpec := { name := "fnExactPlotFlat", fn := fun _ => fun
  | [d] => { results := [.lit (.bool false)], args := [d] }
  | _ => none }
def FnExactPlotFlatWrongFalsely : Prop := fnExactPlotFlatRow.holds Tryd.pinned (OpenSpec.ofChange fnExactPlotFlatWrong)

/-- 'laws.FnPlotSteps': WHATEVER THE INPUT: true; the input reads as it did. -/
def fnPlotStepsSpec : ChangeSpec := { name := "fnPlotSteps", fn := fun _ => fun
  | [d] => { results := [.lit (.bool true)], args := [d] }
  | _ => none }
def fnPlotStepsRow : OpenClaim := { program := "ytincimgpgncomaadoor", sum := "a6d8c1e24c2d5d481b8543c9cabfb0fa12b8b9664071fdefedbf543bb7ed9cf4", func := "loop.example/turningwheels/laws.FnPlotSteps", spec := "fnPlotSteps", inPlace := ["internal/bytealg.CountString", "internal/bytealg.IndexByteString", "internal/bytealg.IndexString", "internal/abi.NoEscape", "internal/bytealg.MakeNoZero"], unfollowed := true, recurses := true, named := ["unicode/utf8.first", "unicode/utf8.acceptRanges", "internal/bytealg.MaxLen"], plainKeys := false, apart := false, laid := [("unicode/utf8.acceptRanges", laid_unicode_utf8_acceptRanges), ("unicode/utf8.first", laid_unicode_utf8_first)] }
def FnPlotStepsSaid : Prop := fnPlotStepsRow.holds Tryd.pinned (OpenSpec.ofChange fnPlotStepsSpec)

/-- ITS FALSE NEIGHBOUR: 'it returns false'. Refute it at one input. -/
def fnPlotStepsWrong : ChangeSpec := { name := "fnPlotSteps", fn := fun _ => fun
  | [d] => { results := [.lit (.bool false)], args := [d] }
  | _ => none }
def FnPlotStepsWrongFalsely : Prop := fnPlotStepsRow.holds Tryd.pinned (OpenSpec.ofChange fnPlotStepsWrong)

/-- 'laws.FnExactPlotEnd': WHATEVER THE INPUT: true; the input reads as it did. -/
def fnExactPlotEndSpec : ChangeSpec := { name := "fnExactPlotEnd", fn := fun _ => fun
  | [d] => { results := [.lit (.bool true)], args := [d] }
  | _ => none }
def fnExactPlotEndRow : OpenClaim := { program := "ytincimgpgncomaadoor", sum := "a6d8c1e24c2d5d481b8543c9cabfb0fa12b8b9664071fdefedbf543bb7ed9cf4", func := "loop.example/turningwheels/laws.FnExactPlotEnd", spec := "fnExactPlotEnd", inPlace := ["internal/bytealg.CountString", "internal/bytealg.IndexByteString", "internal/bytealg.IndexString", "internal/abi.NoEscape", "internal/bytealg.MakeNoZero"], unfollowed := true, recurses := true, named := ["unicode/utf8.first", "unicode/utf8.acceptRanges", "internal/bytealg.MaxLen"], plainKeys := false, apart := false, laid := [("unicode/utf8.acceptRanges", laid_unicode_utf8_acceptRanges), ("unicode/utf8.first", laid_unicode_utf8_first)] }
def FnExactPlotEndSaid : Prop := fnExactPlotEndRow.holds Tryd.pinned (OpenSpec.ofChange fnExactPlotEndSpec)

/-- ITS FALSE NEIGHBOUR: 'it returns false'. Refute it at one input. -/
def fnExactPlotEndWrong : ChangeSpec := { name := "fnExactPlotEnd", fn := fun _ => fun
  | [d] => { results := [.lit (.bool false)], args := [d] }
  | _ => none }
def FnExactPlotEndWrongFalsely : Prop := fnExactPlotEndRow.holds Tryd.pinned (OpenSpec.ofChange fnExactPlotEndWrong)

/-- 'laws.FnExactPlotEdges': WHATEVER THE INPUT: true; the input reads as it did. -/
def fnExactPlotEdgesSpec : ChangeSpec := { name := "fnExactPlotEdges", fn := fun _ => fun
  | [d] => { results := [.lit (.bool true)], args := [d] }
  | _ => none }
def fnExactPlotEdgesRow : OpenClaim := { program := "ytincimgpgncomaadoor", sum := "a6d8c1e24c2d5d481b8543c9cabfb0fa12b8b9664071fdefedbf543bb7ed9cf4", func := "loop.example/turningwheels/laws.FnExactPlotEdges", spec := "fnExactPlotEdges", inPlace := ["internal/bytealg.CountString", "internal/bytealg.IndexByteString", "internal/bytealg.IndexString", "internal/abi.NoEscape", "internal/bytealg.MakeNoZero"], unfollowed := true, recurses := true, named := ["unicode/utf8.first", "unicode/utf8.acceptRanges", "internal/bytealg.MaxLen"], plainKeys := false, apart := false, laid := [("unicode/utf8.acceptRanges", laid_unicode_utf8_acceptRanges), ("unicode/utf8.first", laid_unicode_utf8_first)] }
def FnExactPlotEdgesSaid : Prop := fnExactPlotEdgesRow.holds Tryd.pinned (OpenSpec.ofChange fnExactPlotEdgesSpec)

/-- ITS FALSE NEIGHBOUR: 'it returns false'. Refute it at one input. -/
def fnExactPlotEdgesWrong : ChangeSpec := { name := "fnExactPlotEdges", fn := fun _ => fun
  | [d] => { results := [.lit (.bool false)], args := [d] }
  | _ => none }
def FnExactPlotEdgesWrongFalsely : Prop := fnExactPlotEdgesRow.holds Tryd.pinned (OpenSpec.ofChange fnExactPlotEdgesWrong)

/-- 'laws.FnPlot': WHATEVER THE INPUT: true; the input reads as it did. -/
def fnPlotSpec : ChangeSpec := { name := "fnPlot", fn := fun _ => fun
  | [d] => { results := [.lit (.bool true)], args := [d] }
  | _ => none }
def fnPlotRow : OpenClaim := { program := "ytincimgpgncomaadoor", sum := "a6d8c1e24c2d5d481b8543c9cabfb0fa12b8b9664071fdefedbf543bb7ed9cf4", func := "loop.example/turningwheels/laws.FnPlot", spec := "fnPlot", inPlace := ["internal/bytealg.CountString", "internal/bytealg.IndexByteString", "internal/bytealg.IndexString", "internal/abi.NoEscape", "internal/bytealg.MakeNoZero"], unfollowed := true, recurses := true, named := ["unicode/utf8.first", "unicode/utf8.acceptRanges", "internal/bytealg.MaxLen"], plainKeys := false, apart := false, laid := [("unicode/utf8.acceptRanges", laid_unicode_utf8_acceptRanges), ("unicode/utf8.first", laid_unicode_utf8_first)] }
def FnPlotSaid : Prop := fnPlotRow.holds Tryd.pinned (OpenSpec.ofChange fnPlotSpec)

/-- ITS FALSE NEIGHBOUR: 'it returns false'. Refute it at one input. -/
def fnPlotWrong : ChangeSpec := { name := "fnPlot", fn := fun _ => fun
  | [d] => { results := [.lit (.bool false)], args := [d] }
  | _ => none }
def FnPlotWrongFalsely : Prop := fnPlotRow.holds Tryd.pinned (OpenSpec.ofChange fnPlotWrong)

/-- 'laws.FnExactPlotMoves': WHATEVER THE INPUT: true; the input reads as it did. -/
def fnExactPlotMovesSpec : ChangeSpec := { name := "fnExactPlotMoves", fn := fun _ => fun
  | [d] => { results := [.lit (.bool true)], args := [d] }
  | _ => none }
def fnExactPlotMovesRow : OpenClaim := { program := "ytincimgpgncomaadoor", sum := "a6d8c1e24c2d5d481b8543c9cabfb0fa12b8b9664071fdefedbf543bb7ed9cf4", func := "loop.example/turningwheels/laws.FnExactPlotMoves", spec := "fnExactPlotMoves", inPlace := ["internal/bytealg.CountString", "internal/bytealg.IndexByteString", "internal/bytealg.IndexString", "internal/abi.NoEscape", "internal/bytealg.MakeNoZero"], unfollowed := true, recurses := true, named := ["unicode/utf8.first", "unicode/utf8.acceptRanges", "internal/bytealg.MaxLen"], plainKeys := false, apart := false, laid := [("unicode/utf8.acceptRanges", laid_unicode_utf8_acceptRanges), ("unicode/utf8.first", laid_unicode_utf8_first)] }
def FnExactPlotMovesSaid : Prop := fnExactPlotMovesRow.holds Tryd.pinned (OpenSpec.ofChange fnExactPlotMovesSpec)

/-- ITS FALSE NEIGHBOUR: 'it returns false'. Refute it at one input. -/
def fnExactPlotMovesWrong : ChangeSpec := { name := "fnExactPlotMoves", fn := fun _ => fun
  | [d] => { results := [.lit (.bool false)], args := [d] }
  | _ => none }
def FnExactPlotMovesWrongFalsely : Prop := fnExactPlotMovesRow.holds Tryd.pinned (OpenSpec.ofChange fnExactPlotMovesWrong)

/-- 'laws.FnFlat': WHATEVER THE INPUT: true; the input reads as it did. -/
def fnFlatSpec : ChangeSpec := { name := "fnFlat", fn := fun _ => fun
  | [d] => { results := [.lit (.bool true)], args := [d] }
  | _ => none }
def fnFlatRow : OpenClaim := { program := "ytincimgpgncomaadoor", sum := "a6d8c1e24c2d5d481b8543c9cabfb0fa12b8b9664071fdefedbf543bb7ed9cf4", func := "loop.example/turningwheels/laws.FnFlat", spec := "fnFlat", inPlace := ["internal/bytealg.CountString", "internal/bytealg.IndexByteString", "internal/bytealg.IndexString", "internal/abi.NoEscape", "internal/bytealg.MakeNoZero"], unfollowed := true, recurses := true, named := ["unicode/utf8.first", "unicode/utf8.acceptRanges", "internal/bytealg.MaxLen"], plainKeys := false, apart := false, laid := [("unicode/utf8.acceptRanges", laid_unicode_utf8_acceptRanges), ("unicode/utf8.first", laid_unicode_utf8_first)] }
def FnFlatSaid : Prop := fnFlatRow.holds Tryd.pinned (OpenSpec.ofChange fnFlatSpec)

/-- ITS FALSE NEIGHBOUR: 'it returns false'. Refute it at one input. -/
def fnFlatWrong : ChangeSpec := { name := "fnFlat", fn := fun _ => fun
  | [d] => { results := [.lit (.bool false)], args := [d] }
  | _ => none }
def FnFlatWrongFalsely : Prop := fnFlatRow.holds Tryd.pinned (OpenSpec.ofChange fnFlatWrong)

/-- 'laws.FnEdges': WHATEVER THE INPUT: true; the input reads as it did. -/
def fnEdgesSpec : ChangeSpec := { name := "fnEdges", fn := fun _ => fun
  | [d] => { results := [.lit (.bool true)], args := [d] }
  | _ => none }
def fnEdgesRow : OpenClaim := { program := "ytincimgpgncomaadoor", sum := "a6d8c1e24c2d5d481b8543c9cabfb0fa12b8b9664071fdefedbf543bb7ed9cf4", func := "loop.example/turningwheels/laws.FnEdges", spec := "fnEdges", inPlace := ["internal/bytealg.CountString", "internal/bytealg.IndexByteString", "internal/bytealg.IndexString", "internal/abi.NoEscape", "internal/bytealg.MakeNoZero"], unfollowed := true, recurses := true, named := ["unicode/utf8.first", "unicode/utf8.acceptRanges", "internal/bytealg.MaxLen"], plainKeys := false, apart := false, laid := [("unicode/utf8.acceptRanges", laid_unicode_utf8_acceptRanges), ("unicode/utf8.first", laid_unicode_utf8_first)] }
def FnEdgesSaid : Prop := fnEdgesRow.holds Tryd.pinned (OpenSpec.ofChange fnEdgesSpec)

/-- ITS FALSE NEIGHBOUR: 'it returns false'. Refute it at one input. -/
def fnEdgesWrong : ChangeSpec := { name := "fnEdges", fn := fun _ => fun
  | [d] => { results := [.lit (.bool false)], args := [d] }
  | _ => none }
def FnEdgesWrongFalsely : Prop := fnEdgesRow.holds Tryd.pinned (OpenSpec.ofChange fnEdgesWrong)

/-- 'laws.FnPlotEnd': WHATEVER THE INPUT: true; the input reads as it did. -/
def fnPlotEndSpec : ChangeSpec := { name := "fnPlotEnd", fn := fun _ => fun
  | [d] => { results := [.lit (.bool true)], args := [d] }
  | _ => none }
def fnPlotEndRow : OpenClaim := { program := "ytincimgpgncomaadoor", sum := "a6d8c1e24c2d5d481b8543c9cabfb0fa12b8b9664071fdefedbf543bb7ed9cf4", func := "loop.example/turningwheels/laws.FnPlotEnd", spec := "fnPlotEnd", inPlace := ["internal/bytealg.CountString", "internal/bytealg.IndexByteString", "internal/bytealg.IndexString", "internal/abi.NoEscape", "internal/bytealg.MakeNoZero"], unfollowed := true, recurses := true, named := ["unicode/utf8.first", "unicode/utf8.acceptRanges", "internal/bytealg.MaxLen"], plainKeys := false, apart := false, laid := [("unicode/utf8.acceptRanges", laid_unicode_utf8_acceptRanges), ("unicode/utf8.first", laid_unicode_utf8_first)] }
def FnPlotEndSaid : Prop := fnPlotEndRow.holds Tryd.pinned (OpenSpec.ofChange fnPlotEndSpec)

/-- ITS FALSE NEIGHBOUR: 'it returns false'. Refute it at one input. -/
def fnPlotEndWrong : ChangeSpec := { name := "fnPlotEnd", fn := fun _ => fun
  | [d] => { results := [.lit (.bool false)], args := [d] }
  | _ => none }
def FnPlotEndWrongFalsely : Prop := fnPlotEndRow.holds Tryd.pinned (OpenSpec.ofChange fnPlotEndWrong)

/-- 'laws.FnPlotMoves': WHATEVER THE INPUT: true; the input reads as it did. -/
def fnPlotMovesSpec : ChangeSpec := { name := "fnPlotMoves", fn := fun _ => fun
  | [d] => { results := [.lit (.bool true)], args := [d] }
  | _ => none }
def fnPlotMovesRow : OpenClaim := { program := "ytincimgpgncomaadoor", sum := "a6d8c1e24c2d5d481b8543c9cabfb0fa12b8b9664071fdefedbf543bb7ed9cf4", func := "loop.example/turningwheels/laws.FnPlotMoves", spec := "fnPlotMoves", inPlace := ["internal/bytealg.CountString", "internal/bytealg.IndexByteString", "internal/bytealg.IndexString", "internal/abi.NoEscape", "internal/bytealg.MakeNoZero"], unfollowed := true, recurses := true, named := ["unicode/utf8.first", "unicode/utf8.acceptRanges", "internal/bytealg.MaxLen"], plainKeys := false, apart := false, laid := [("unicode/utf8.acceptRanges", laid_unicode_utf8_acceptRanges), ("unicode/utf8.first", laid_unicode_utf8_first)] }
def FnPlotMovesSaid : Prop := fnPlotMovesRow.holds Tryd.pinned (OpenSpec.ofChange fnPlotMovesSpec)

/-- ITS FALSE NEIGHBOUR: 'it returns false'. Refute it at one input. -/
def fnPlotMovesWrong : ChangeSpec := { name := "fnPlotMoves", fn := fun _ => fun
  | [d] => { results := [.lit (.bool false)], args := [d] }
  | _ => none }
def FnPlotMovesWrongFalsely : Prop := fnPlotMovesRow.holds Tryd.pinned (OpenSpec.ofChange fnPlotMovesWrong)

/- THE SECOND FORM. 'bulk': how many values and letters a reading holds, each counted each time it is reached (what is shared counts as often as it is met; a slice's spare places count too). A statement '..UptoSaid' is the law's where the arguments, and the package variables that the reading takes, are together of bulk at most 1048576: NARROWER than '..Said'. Prove '..Said' where nothing that the law and all that it calls make is longer than what came in: it says more and counts as full. Else prove '..UptoSaid'. A law counts once. -/
mutual
def uptoBulk {H : Type} : DataW H → Nat
  | .lit (.string bytes) => bytes.length + 1
  | .lit _ => 1
  | .nil => 1
  | .ptr d => uptoBulk d + 1
  | .slice elems spare => uptoBulkAll elems + uptoBulkAll spare + 1
  | .agg parts => uptoBulkAll parts + 1
  | .iface _ d => uptoBulk d + 1
  | .map entries => uptoBulkEntries entries + 1
  | .held _ => 1
def uptoBulkAll {H : Type} : List (DataW H) → Nat
  | [] => 0
  | d :: r => uptoBulk d + uptoBulkAll r
def uptoBulkEntries {H : Type} : List (Lit × DataW H) → Nat
  | [] => 0
  | x :: r => uptoBulkEntry x + uptoBulkEntries r
def uptoBulkEntry {H : Type} : Lit × DataW H → Nat
  | (.string bytes, d) => bytes.length + uptoBulk d + 1
  | (_, d) => uptoBulk d + 1
 end
def uptoSmall : (H : Type) → List (DataW H) → Bool := fun _ ds => decide (uptoBulkAll ds ≤ 1048576)
def OpenSpec.upto (s : _root_.Go.ChangeSpec) : _root_.Go.OpenSpec := { _root_.Go.OpenSpec.ofChange s with cond := some uptoSmall }

/-- 'laws.FnExactPlotValid', WHERE WHAT IT READS IS OF BULK AT MOST 1048576: true; the input reads as it did. -/
def fnExactPlotValidUptoRow : OpenClaim := { program := "ytincimgpgncomaadoor", sum := "a6d8c1e24c2d5d481b8543c9cabfb0fa12b8b9664071fdefedbf543bb7ed9cf4", func := "loop.example/turningwheels/laws.FnExactPlotValid", spec := "fnExactPlotValid", inPlace := ["internal/bytealg.CountString", "internal/bytealg.IndexByteString", "internal/bytealg.IndexString", "internal/abi.NoEscape", "internal/bytealg.MakeNoZero"], unfollowed := true, recurses := true, named := ["unicode/utf8.first", "unicode/utf8.acceptRanges", "internal/bytealg.MaxLen"], plainKeys := false, apart := false, laid := [("unicode/utf8.acceptRanges", laid_unicode_utf8_acceptRanges), ("unicode/utf8.first", laid_unicode_utf8_first)], narrowed := true }
def FnExactPlotValidUptoSaid : Prop := fnExactPlotValidUptoRow.holds Tryd.pinned (OpenSpec.upto fnExactPlotValidSpec)

/-- 'laws.FnExactPlotSteps', WHERE WHAT IT READS IS OF BULK AT MOST 1048576: true; the input reads as it did. -/
def fnExactPlotStepsUptoRow : OpenClaim := { program := "ytincimgpgncomaadoor", sum := "a6d8c1e24c2d5d481b8543c9cabfb0fa12b8b9664071fdefedbf543bb7ed9cf4", func := "loop.example/turningwheels/laws.FnExactPlotSteps", spec := "fnExactPlotSteps", inPlace := ["internal/bytealg.CountString", "internal/bytealg.IndexByteString", "internal/bytealg.IndexString", "internal/abi.NoEscape", "internal/bytealg.MakeNoZero"], unfollowed := true, recurses := true, named := ["unicode/utf8.first", "unicode/utf8.acceptRanges", "internal/bytealg.MaxLen"], plainKeys := false, apart := false, laid := [("unicode/utf8.acceptRanges", laid_unicode_utf8_acceptRanges), ("unicode/utf8.first", laid_unicode_utf8_first)], narrowed := true }
def FnExactPlotStepsUptoSaid : Prop := fnExactPlotStepsUptoRow.holds Tryd.pinned (OpenSpec.upto fnExactPlotStepsSpec)

/-- 'laws.FnExactPlotFlat', WHERE WHAT IT READS IS OF BULK AT MOST 1048576: true; the input reads as it did. -/
def fnExactPlotFlatUptoRow : OpenClaim := { program := "ytincimgpgncomaadoor", sum := "a6d8c1e24c2d5d481b8543c9cabfb0fa12b8b9664071fdefedbf543bb7ed9cf4", func := "loop.example/turningwheels/laws.FnExactPlotFlat", spec := "fnExactPlotFlat", inPlace := ["internal/bytealg.CountString", "internal/bytealg.IndexByteString", "internal/bytealg.IndexString", "internal/abi.NoEscape", "internal/bytealg.MakeNoZero"], unfollowed := true, recurses := true, named := ["unicode/utf8.first", "unicode/utf8.acceptRanges", "internal/bytealg.MaxLen"], plainKeys := false, apart := false, laid := [("unicode/utf8.acceptRanges", laid_unicode_utf8_acceptRanges), ("unicode/utf8.first", laid_unicode_utf8_first)], narrowed := true }
def FnExactPlotFlatUptoSaid : Prop := fnExactPlotFlatUptoRow.holds Tryd.pinned (OpenSpec.upto fnExactPlotFlatSpec)

/-- 'laws.FnPlotSteps', WHERE WHAT IT READS IS OF BULK AT MOST 1048576: true; the input reads as it did. -/
def fnPlotStepsUptoRow : OpenClaim := { program := "ytincimgpgncomaadoor", sum := "a6d8c1e24c2d5d481b8543c9cabfb0fa12b8b9664071fdefedbf543bb7ed9cf4", func := "loop.example/turningwheels/laws.FnPlotSteps", spec := "fnPlotSteps", inPlace := ["internal/bytealg.CountString", "internal/bytealg.IndexByteString", "internal/bytealg.IndexString", "internal/abi.NoEscape", "internal/bytealg.MakeNoZero"], unfollowed := true, recurses := true, named := ["unicode/utf8.first", "unicode/utf8.acceptRanges", "internal/bytealg.MaxLen"], plainKeys := false, apart := false, laid := [("unicode/utf8.acceptRanges", laid_unicode_utf8_acceptRanges), ("unicode/utf8.first", laid_unicode_utf8_first)], narrowed := true }
def FnPlotStepsUptoSaid : Prop := fnPlotStepsUptoRow.holds Tryd.pinned (OpenSpec.upto fnPlotStepsSpec)

/-- 'laws.FnExactPlotEnd', WHERE WHAT IT READS IS OF BULK AT MOST 1048576: true; the input reads as it did. -/
def fnExactPlotEndUptoRow : OpenClaim := { program := "ytincimgpgncomaadoor", sum := "a6d8c1e24c2d5d481b8543c9cabfb0fa12b8b9664071fdefedbf543bb7ed9cf4", func := "loop.example/turningwheels/laws.FnExactPlotEnd", spec := "fnExactPlotEnd", inPlace := ["internal/bytealg.CountString", "internal/bytealg.IndexByteString", "internal/bytealg.IndexString", "internal/abi.NoEscape", "internal/bytealg.MakeNoZero"], unfollowed := true, recurses := true, named := ["unicode/utf8.first", "unicode/utf8.acceptRanges", "internal/bytealg.MaxLen"], plainKeys := false, apart := false, laid := [("unicode/utf8.acceptRanges", laid_unicode_utf8_acceptRanges), ("unicode/utf8.first", laid_unicode_utf8_first)], narrowed := true }
def FnExactPlotEndUptoSaid : Prop := fnExactPlotEndUptoRow.holds Tryd.pinned (OpenSpec.upto fnExactPlotEndSpec)

/-- 'laws.FnExactPlotEdges', WHERE WHAT IT READS IS OF BULK AT MOST 1048576: true; the input reads as it did. -/
def fnExactPlotEdgesUptoRow : OpenClaim := { program := "ytincimgpgncomaadoor", sum := "a6d8c1e24c2d5d481b8543c9cabfb0fa12b8b9664071fdefedbf543bb7ed9cf4", func := "loop.example/turningwheels/laws.FnExactPlotEdges", spec := "fnExactPlotEdges", inPlace := ["internal/bytealg.CountString", "internal/bytealg.IndexByteString", "internal/bytealg.IndexString", "internal/abi.NoEscape", "internal/bytealg.MakeNoZero"], unfollowed := true, recurses := true, named := ["unicode/utf8.first", "unicode/utf8.acceptRanges", "internal/bytealg.MaxLen"], plainKeys := false, apart := false, laid := [("unicode/utf8.acceptRanges", laid_unicode_utf8_acceptRanges), ("unicode/utf8.first", laid_unicode_utf8_first)], narrowed := true }
def FnExactPlotEdgesUptoSaid : Prop := fnExactPlotEdgesUptoRow.holds Tryd.pinned (OpenSpec.upto fnExactPlotEdgesSpec)

/-- 'laws.FnPlot', WHERE WHAT IT READS IS OF BULK AT MOST 1048576: true; the input reads as it did. -/
def fnPlotUptoRow : OpenClaim := { program := "ytincimgpgncomaadoor", sum := "a6d8c1e24c2d5d481b8543c9cabfb0fa12b8b9664071fdefedbf543bb7ed9cf4", func := "loop.example/turningwheels/laws.FnPlot", spec := "fnPlot", inPlace := ["internal/bytealg.CountString", "internal/bytealg.IndexByteString", "internal/bytealg.IndexString", "internal/abi.NoEscape", "internal/bytealg.MakeNoZero"], unfollowed := true, recurses := true, named := ["unicode/utf8.first", "unicode/utf8.acceptRanges", "internal/bytealg.MaxLen"], plainKeys := false, apart := false, laid := [("unicode/utf8.acceptRanges", laid_unicode_utf8_acceptRanges), ("unicode/utf8.first", laid_unicode_utf8_first)], narrowed := true }
def FnPlotUptoSaid : Prop := fnPlotUptoRow.holds Tryd.pinned (OpenSpec.upto fnPlotSpec)

/-- 'laws.FnExactPlotMoves', WHERE WHAT IT READS IS OF BULK AT MOST 1048576: true; the input reads as it did. -/
def fnExactPlotMovesUptoRow : OpenClaim := { program := "ytincimgpgncomaadoor", sum := "a6d8c1e24c2d5d481b8543c9cabfb0fa12b8b9664071fdefedbf543bb7ed9cf4", func := "loop.example/turningwheels/laws.FnExactPlotMoves", spec := "fnExactPlotMoves", inPlace := ["internal/bytealg.CountString", "internal/bytealg.IndexByteString", "internal/bytealg.IndexString", "internal/abi.NoEscape", "internal/bytealg.MakeNoZero"], unfollowed := true, recurses := true, named := ["unicode/utf8.first", "unicode/utf8.acceptRanges", "internal/bytealg.MaxLen"], plainKeys := false, apart := false, laid := [("unicode/utf8.acceptRanges", laid_unicode_utf8_acceptRanges), ("unicode/utf8.first", laid_unicode_utf8_first)], narrowed := true }
def FnExactPlotMovesUptoSaid : Prop := fnExactPlotMovesUptoRow.holds Tryd.pinned (OpenSpec.upto fnExactPlotMovesSpec)

/-- 'laws.FnFlat', WHERE WHAT IT READS IS OF BULK AT MOST 1048576: true; the input reads as it did. -/
def fnFlatUptoRow : OpenClaim := { program := "ytincimgpgncomaadoor", sum := "a6d8c1e24c2d5d481b8543c9cabfb0fa12b8b9664071fdefedbf543bb7ed9cf4", func := "loop.example/turningwheels/laws.FnFlat", spec := "fnFlat", inPlace := ["internal/bytealg.CountString", "internal/bytealg.IndexByteString", "internal/bytealg.IndexString", "internal/abi.NoEscape", "internal/bytealg.MakeNoZero"], unfollowed := true, recurses := true, named := ["unicode/utf8.first", "unicode/utf8.acceptRanges", "internal/bytealg.MaxLen"], plainKeys := false, apart := false, laid := [("unicode/utf8.acceptRanges", laid_unicode_utf8_acceptRanges), ("unicode/utf8.first", laid_unicode_utf8_first)], narrowed := true }
def FnFlatUptoSaid : Prop := fnFlatUptoRow.holds Tryd.pinned (OpenSpec.upto fnFlatSpec)

/-- 'laws.FnEdges', WHERE WHAT IT READS IS OF BULK AT MOST 1048576: true; the input reads as it did. -/
def fnEdgesUptoRow : OpenClaim := { program := "ytincimgpgncomaadoor", sum := "a6d8c1e24c2d5d481b8543c9cabfb0fa12b8b9664071fdefedbf543bb7ed9cf4", func := "loop.example/turningwheels/laws.FnEdges", spec := "fnEdges", inPlace := ["internal/bytealg.CountString", "internal/bytealg.IndexByteString", "internal/bytealg.IndexString", "internal/abi.NoEscape", "internal/bytealg.MakeNoZero"], unfollowed := true, recurses := true, named := ["unicode/utf8.first", "unicode/utf8.acceptRanges", "internal/bytealg.MaxLen"], plainKeys := false, apart := false, laid := [("unicode/utf8.acceptRanges", laid_unicode_utf8_acceptRanges), ("unicode/utf8.first", laid_unicode_utf8_first)], narrowed := true }
def FnEdgesUptoSaid : Prop := fnEdgesUptoRow.holds Tryd.pinned (OpenSpec.upto fnEdgesSpec)

/-- 'laws.FnPlotEnd', WHERE WHAT IT READS IS OF BULK AT MOST 1048576: true; the input reads as it did. -/
def fnPlotEndUptoRow : OpenClaim := { program := "ytincimgpgncomaadoor", sum := "a6d8c1e24c2d5d481b8543c9cabfb0fa12b8b9664071fdefedbf543bb7ed9cf4", func := "loop.example/turningwheels/laws.FnPlotEnd", spec := "fnPlotEnd", inPlace := ["internal/bytealg.CountString", "internal/bytealg.IndexByteString", "internal/bytealg.IndexString", "internal/abi.NoEscape", "internal/bytealg.MakeNoZero"], unfollowed := true, recurses := true, named := ["unicode/utf8.first", "unicode/utf8.acceptRanges", "internal/bytealg.MaxLen"], plainKeys := false, apart := false, laid := [("unicode/utf8.acceptRanges", laid_unicode_utf8_acceptRanges), ("unicode/utf8.first", laid_unicode_utf8_first)], narrowed := true }
def FnPlotEndUptoSaid : Prop := fnPlotEndUptoRow.holds Tryd.pinned (OpenSpec.upto fnPlotEndSpec)

/-- 'laws.FnPlotMoves', WHERE WHAT IT READS IS OF BULK AT MOST 1048576: true; the input reads as it did. -/
def fnPlotMovesUptoRow : OpenClaim := { program := "ytincimgpgncomaadoor", sum := "a6d8c1e24c2d5d481b8543c9cabfb0fa12b8b9664071fdefedbf543bb7ed9cf4", func := "loop.example/turningwheels/laws.FnPlotMoves", spec := "fnPlotMoves", inPlace := ["internal/bytealg.CountString", "internal/bytealg.IndexByteString", "internal/bytealg.IndexString", "internal/abi.NoEscape", "internal/bytealg.MakeNoZero"], unfollowed := true, recurses := true, named := ["unicode/utf8.first", "unicode/utf8.acceptRanges", "internal/bytealg.MaxLen"], plainKeys := false, apart := false, laid := [("unicode/utf8.acceptRanges", laid_unicode_utf8_acceptRanges), ("unicode/utf8.first", laid_unicode_utf8_first)], narrowed := true }
def FnPlotMovesUptoSaid : Prop := fnPlotMovesUptoRow.holds Tryd.pinned (OpenSpec.upto fnPlotMovesSpec)

end Rows
end Go.Proofs.YtincimgpgncomaaDoor
