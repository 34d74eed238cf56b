/-
  NARROWER THAN 'FOR EVERY INPUT', by the rows' own cells (each row's printed sentence says how): FnExactRingCusps: laid · FnExactRingRounds: laid · FnCusps: laid · FnRounds: laid · FnExactTrainRatio: laid · FnExactTrainTurns: laid · FnTrainFind: laid · FnRatio: laid · FnTrainTurns: laid.
  DERIVED. THE GIVEN ROWS OF THIS SEAT. 9 by the template 'for every input the law returns true; each argument reads behind the call as it read before'; 0 by the template 'total and deterministic' (their statements: YtiiocjkhjogfkaaDoorTotals.lean).
  GIVEN WITH THE SEED: the statements are not yours to turn. If you find one false, say at which input.
  Laid BY PROGRAM, IN A SANDBOX (cutbox-rows.mjs): the forced cells as the released guide's own fill.sh prints them over the translation 523d41e28bf59894… (all of the seat's roots in one cut). By AI agents, Wed Nov 11 2026. No macro, syntax, notation, axiom, sorry.
-/
import Derived.Test.YtiiocjkhjogfkaaDoorChecked
import GoSem.Claim
import GoSem.ClaimJoined
import GoSem.ClaimMapViews
import Derived.JoinedTies
import Derived.KernelRfl
namespace Go.Proofs.YtiiocjkhjogfkaaDoor
/- THE CELL 'sum', in the pinned program and in every row, IS THE sha256 OF THE DUMP (.gsa) THAT YtiiocjkhjogfkaaDoorProg.lean LOADS. Nothing in Lean hashes anything: it is a label: what it is worth is what the hold of that sum in a sandbox is worth. -/
noncomputable def Tryd.pinned : Pinned := { name := "ytiiocjkhjogfkaadoor", sum := "523d41e28bf59894a2527d107256c549c10bef4f7951c578f74634834ea0be8c", checked := Tryd.checked }
namespace Rows
def none {H : Type} : Left H := { results := [], args := [] }

/- WHAT THE LISTED PACKAGE-LEVEL VARIABLES READ AS WHEN THE CALL BEGINS. Each datum BY PROGRAM (the guide's laid-datum.mjs) off the statement by which the dump's own 'gosem.cut.vars' lays the variable. In a bare row this is a premise. The card (YtiiocjkhjogfkaaDoorCards.lean) ties it to the program's text. -/
def laid_errors_errorType {H : Type} : DataW H := .iface "internal/reflectlite.rtype" (.agg [.ptr (.lit (.string [101, 114, 114, 111, 114]))])

/-- 'laws.FnExactRingCusps': WHATEVER THE INPUT: true; the input reads as it did. -/
def fnExactRingCuspsSpec : ChangeSpec := { name := "fnExactRingCusps", fn := fun _ => fun
  | [d1, d2, d3] => { results := [.lit (.bool true)], args := [d1, d2, d3] }
  | _ => none }
def fnExactRingCuspsRow : OpenClaim := { program := "ytiiocjkhjogfkaadoor", sum := "523d41e28bf59894a2527d107256c549c10bef4f7951c578f74634834ea0be8c", func := "loop.example/turningwheels/laws.FnExactRingCusps", spec := "fnExactRingCusps", inPlace := ["internal/reflectlite.ValueOf", "(internal/reflectlite.Value).Type", "(internal/reflectlite.Value).IsNil", "internal/reflectlite.TypeOf", "(internal/reflectlite.Value).Elem", "(internal/reflectlite.Value).Set"], unfollowed := true, recurses := true, named := ["errors.errorType"], apart := false, laid := [("errors.errorType", laid_errors_errorType)] }
def FnExactRingCuspsSaid : Prop := fnExactRingCuspsRow.holds Tryd.pinned (OpenSpec.ofChange fnExactRingCuspsSpec)

/-- ITS FALSE NEIGHBOUR: 'it returns false'. Refute it at one input. -/
def fnExactRingCuspsWrong : ChangeSpec := { name := "fnExactRingCusps", fn := fun _ => fun
  | [d1, d2, d3] => { results := [.lit (.bool false)], args := [d1, d2, d3] }
  | _ => none }
def FnExactRingCuspsWrongFalsely : Prop := fnExactRingCuspsRow.holds Tryd.pinned (OpenSpec.ofChange fnExactRingCuspsWrong)

/-- 'laws.FnExactRingRounds': WHATEVER THE INPUT: true; the input reads as it did. -/
def fnExactRingRoundsSpec : ChangeSpec := { name := "fnExactRingRounds", fn := fun _ => fun
  | [d1, d2, d3] => { results := [.lit (.bool true)], args := [d1, d2, d3] }
  | _ => none }
def fnExactRingRoundsRow : OpenClaim := { program := "ytiiocjkhjogfkaadoor", sum := "523d41e28bf59894a2527d107256c549c10bef4f7951c578f74634834ea0be8c", func := "loop.example/turningwheels/laws.FnExactRingRounds", spec := "fnExactRingRounds", inPlace := ["internal/reflectlite.ValueOf", "(internal/reflectlite.Value).Type", "(internal/reflectlite.Value).IsNil", "internal/reflectlite.TypeOf", "(internal/reflectlite.Value).Elem", "(internal/reflectlite.Value).Set"], unfollowed := true, recurses := true, named := ["errors.errorType"], apart := false, laid := [("errors.errorType", laid_errors_errorType)] }
def FnExactRingRoundsSaid : Prop := fnExactRingRoundsRow.holds Tryd.pinned (OpenSpec.ofChange fnExactRingRoundsSpec)

/-- ITS FALSE NEIGHBOUR: 'it returns false'. Refute it at one input. -/
def fnExactRingRoundsWrong : ChangeSpec := { name := "fnExactRingRounds", fn := fun _ => fun
  | [d1, d2, d3] => { results := [.lit (.bool false)], args := [d1, d2, d3] }
  | _ => none }
def FnExactRingRoundsWrongFalsely : Prop := fnExactRingRoundsRow.holds Tryd.pinned (OpenSpec.ofChange fnExactRingRoundsWrong)

/-- 'laws.FnCusps': WHATEVER THE INPUT: true; the input reads as it did. -/
def fnCuspsSpec : ChangeSpec := { name := "fnCusps", fn := fun _ => fun
  | [d] => { results := [.lit (.bool true)], args := [d] }
  | _ => none }
def fnCuspsRow : OpenClaim := { program := "ytiiocjkhjogfkaadoor", sum := "523d41e28bf59894a2527d107256c549c10bef4f7951c578f74634834ea0be8c", func := "loop.example/turningwheels/laws.FnCusps", spec := "fnCusps", inPlace := ["internal/reflectlite.ValueOf", "(internal/reflectlite.Value).Type", "(internal/reflectlite.Value).IsNil", "internal/reflectlite.TypeOf", "(internal/reflectlite.Value).Elem", "(internal/reflectlite.Value).Set"], unfollowed := true, recurses := true, named := ["errors.errorType"], apart := false, laid := [("errors.errorType", laid_errors_errorType)] }
def FnCuspsSaid : Prop := fnCuspsRow.holds Tryd.pinned (OpenSpec.ofChange fnCuspsSpec)

/-- ITS FALSE NEIGHBOUR: 'it returns false'. Refute it at one input. -/
def fnCuspsWrong : ChangeSpec := { name := "fnCusps", fn := fun _ => fun
  | [d] => { results := [.lit (.bool false)], args := [d] }
  | _ => none }
def FnCuspsWrongFalsely : Prop := fnCuspsRow.holds Tryd.pinned (OpenSpec.ofChange fnCuspsWrong)

/-- 'laws.FnRounds': WHATEVER THE INPUT: true; the input reads as it did. -/
def fnRoundsSpec : ChangeSpec := { name := "fnRounds", fn := fun _ => fun
  | [d] => { results := [.lit (.bool true)], args := [d] }
  | _ => none }
def fnRoundsRow : OpenClaim := { program := "ytiiocjkhjogfkaadoor", sum := "523d41e28bf59894a2527d107256c549c10bef4f7951c578f74634834ea0be8c", func := "loop.example/turningwheels/laws.FnRounds", spec := "fnRounds", inPlace := ["internal/reflectlite.ValueOf", "(internal/reflectlite.Value).Type", "(internal/reflectlite.Value).IsNil", "internal/reflectlite.TypeOf", "(internal/reflectlite.Value).Elem", "(internal/reflectlite.Value).Set"], unfollowed := true, recurses := true, named := ["errors.errorType"], apart := false, laid := [("errors.errorType", laid_errors_errorType)] }
def FnRoundsSaid : Prop := fnRoundsRow.holds Tryd.pinned (OpenSpec.ofChange fnRoundsSpec)

/-- ITS FALSE NEIGHBOUR: 'it returns false'. Refute it at one input. -/
def fnRoundsWrong : ChangeSpec := { name := "fnRounds", fn := fun _ => fun
  | [d] => { results := [.lit (.bool false)], args := [d] }
  | _ => none }
def FnRoundsWrongFalsely : Prop := fnRoundsRow.holds Tryd.pinned (OpenSpec.ofChange fnRoundsWrong)

/-- 'laws.FnExactTrainRatio': WHATEVER THE INPUT: true; the input reads as it did. -/
def fnExactTrainRatioSpec : ChangeSpec := { name := "fnExactTrainRatio", fn := fun _ => fun
  | [d] => { results := [.lit (.bool true)], args := [d] }
  | _ => none }
def fnExactTrainRatioRow : OpenClaim := { program := "ytiiocjkhjogfkaadoor", sum := "523d41e28bf59894a2527d107256c549c10bef4f7951c578f74634834ea0be8c", func := "loop.example/turningwheels/laws.FnExactTrainRatio", spec := "fnExactTrainRatio", inPlace := ["internal/reflectlite.ValueOf", "(internal/reflectlite.Value).Type", "(internal/reflectlite.Value).IsNil", "internal/reflectlite.TypeOf", "(internal/reflectlite.Value).Elem", "(internal/reflectlite.Value).Set"], unfollowed := true, recurses := true, named := ["errors.errorType"], apart := false, laid := [("errors.errorType", laid_errors_errorType)] }
def FnExactTrainRatioSaid : Prop := fnExactTrainRatioRow.holds Tryd.pinned (OpenSpec.ofChange fnExactTrainRatioSpec)

/-- ITS FALSE NEIGHBOUR: 'it returns false'. Refute it at one input. -/
def fnExactTrainRatioWrong : ChangeSpec := { name := "fnExactTrainRatio", fn := fun _ => fun
  | [d] => { results := [.lit (.bool false)], args := [d] }
  | _ => none }
def FnExactTrainRatioWrongFalsely : Prop := fnExactTrainRatioRow.holds Tryd.pinned (OpenSpec.ofChange fnExactTrainRatioWrong)

/-- 'laws.FnExactTrainTurns': WHATEVER THE INPUT: true; the input reads as it did. -/
def fnExactTrainTurnsSpec : ChangeSpec := { name := "fnExactTrainTurns", fn := fun _ => fun
  | [d] => { results := [.lit (.bool true)], args := [d] }
  | _ => none }
def fnExactTrainTurnsRow : OpenClaim := { program := "ytiiocjkhjogfkaadoor", sum := "523d41e28bf59894a2527d107256c549c10bef4f7951c578f74634834ea0be8c", func := "loop.example/turningwheels/laws.FnExactTrainTurns", spec := "fnExactTrainTurns", inPlace := ["internal/reflectlite.ValueOf", "(internal/reflectlite.Value).Type", "(internal/reflectlite.Value).IsNil", "internal/reflectlite.TypeOf", "(internal/reflectlite.Value).Elem", "(internal/reflectlite.Value).Set"], unfollowed := true, recurses := true, named := ["errors.errorType"], apart := false, laid := [("errors.errorType", laid_errors_errorType)] }
def FnExactTrainTurnsSaid : Prop := fnExactTrainTurnsRow.holds Tryd.pinned (OpenSpec.ofChange fnExactTrainTurnsSpec)

/-- ITS FALSE NEIGHBOUR: 'it returns false'. Refute it at one input. -/
def fnExactTrainTurnsWrong : ChangeSpec := { name := "fnExactTrainTurns", fn := fun _ => fun
  | [d] => { results := [.lit (.bool false)], args := [d] }
  | _ => none }
def FnExactTrainTurnsWrongFalsely : Prop := fnExactTrainTurnsRow.holds Tryd.pinned (OpenSpec.ofChange fnExactTrainTurnsWrong)

/-- 'laws.FnTrainFind': WHATEVER THE INPUT: true; the input reads as it did. -/
def fnTrainFindSpec : ChangeSpec := { name := "fnTrainFind", fn := fun _ => fun
  | [d] => { results := [.lit (.bool true)], args := [d] }
  | _ => none }
def fnTrainFindRow : OpenClaim := { program := "ytiiocjkhjogfkaadoor", sum := "523d41e28bf59894a2527d107256c549c10bef4f7951c578f74634834ea0be8c", func := "loop.example/turningwheels/laws.FnTrainFind", spec := "fnTrainFind", inPlace := ["internal/reflectlite.ValueOf", "(internal/reflectlite.Value).Type", "(internal/reflectlite.Value).IsNil", "internal/reflectlite.TypeOf", "(internal/reflectlite.Value).Elem", "(internal/reflectlite.Value).Set"], unfollowed := true, recurses := true, named := ["errors.errorType"], apart := false, laid := [("errors.errorType", laid_errors_errorType)] }
def FnTrainFindSaid : Prop := fnTrainFindRow.holds Tryd.pinned (OpenSpec.ofChange fnTrainFindSpec)

/-- ITS FALSE NEIGHBOUR: 'it returns false'. Refute it at one input. -/
def fnTrainFindWrong : ChangeSpec := { name := "fnTrainFind", fn := fun _ => fun
  | [d] => { results := [.lit (.bool false)], args := [d] }
  | _ => none }
def FnTrainFindWrongFalsely : Prop := fnTrainFindRow.holds Tryd.pinned (OpenSpec.ofChange fnTrainFindWrong)

/-- 'laws.FnRatio': WHATEVER THE INPUT: true; the input reads as it did. -/
def fnRatioSpec : ChangeSpec := { name := "fnRatio", fn := fun _ => fun
  | [d] => { results := [.lit (.bool true)], args := [d] }
  | _ => none }
def fnRatioRow : OpenClaim := { program := "ytiiocjkhjogfkaadoor", sum := "523d41e28bf59894a2527d107256c549c10bef4f7951c578f74634834ea0be8c", func := "loop.example/turningwheels/laws.FnRatio", spec := "fnRatio", inPlace := ["internal/reflectlite.ValueOf", "(internal/reflectlite.Value).Type", "(internal/reflectlite.Value).IsNil", "internal/reflectlite.TypeOf", "(internal/reflectlite.Value).Elem", "(internal/reflectlite.Value).Set"], unfollowed := true, recurses := true, named := ["errors.errorType"], apart := false, laid := [("errors.errorType", laid_errors_errorType)] }
def FnRatioSaid : Prop := fnRatioRow.holds Tryd.pinned (OpenSpec.ofChange fnRatioSpec)

/-- ITS FALSE NEIGHBOUR: 'it returns false'. Refute it at one input. -/
def fnRatioWrong : ChangeSpec := { name := "fnRatio", fn := fun _ => fun
  | [d] => { results := [.lit (.bool false)], args := [d] }
  | _ => none }
def FnRatioWrongFalsely : Prop := fnRatioRow.holds Tryd.pinned (OpenSpec.ofChange fnRatioWrong)

/-- 'laws.FnTrainTurns': WHATEVER THE INPUT: true; the input reads as it did. -/
def fnTrainTurnsSpec : ChangeSpec := { name := "fnTrainTurns", fn := fun _ => fun
  | [d] => { results := [.lit (.bool true)], args := [d] }
  | _ => none }
def fnTrainTurnsRow : OpenClaim := { program := "ytiiocjkhjogfkaadoor", sum := "523d41e28bf59894a2527d107256c549c10bef4f7951c578f74634834ea0be8c", func := "loop.example/turningwheels/laws.FnTrainTurns", spec := "fnTrainTurns", inPlace := ["internal/reflectlite.ValueOf", "(internal/reflectlite.Value).Type", "(internal/reflectlite.Value).IsNil", "internal/reflectlite.TypeOf", "(internal/reflectlite.Value).Elem", "(internal/reflectlite.Value).Set"], unfollowed := true, recurses := true, named := ["errors.errorType"], apart := false, laid := [("errors.errorType", laid_errors_errorType)] }
def FnTrainTurnsSaid : Prop := fnTrainTurnsRow.holds Tryd.pinned (OpenSpec.ofChange fnTrainTurnsSpec)

/-- ITS FALSE NEIGHBOUR: 'it returns false'. Refute it at one input. -/
def fnTrainTurnsWrong : ChangeSpec := { name := "fnTrainTurns", fn := fun _ => fun
  | [d] => { results := [.lit (.bool false)], args := [d] }
  | _ => none }
def FnTrainTurnsWrongFalsely : Prop := fnTrainTurnsRow.holds Tryd.pinned (OpenSpec.ofChange fnTrainTurnsWrong)

/- THE SECOND FORM. 'bulk': how many values and letters a reading holds, each counted each time it is reached (what is shared counts as often as it is met; a slice's spare places count too). A statement '..UptoSaid' is the law's where the arguments, and the package variables that the reading takes, are together of bulk at most 1048576: NARROWER than '..Said'. Prove '..Said' where nothing that the law and all that it calls make is longer than what came in: it says more and counts as full. Else prove '..UptoSaid'. A law counts once. -/
mutual
def uptoBulk {H : Type} : DataW H → Nat
  | .lit (.string bytes) => bytes.length + 1
  | .lit _ => 1
  | .nil => 1
  | .ptr d => uptoBulk d + 1
  | .slice elems spare => uptoBulkAll elems + uptoBulkAll spare + 1
  | .agg parts => uptoBulkAll parts + 1
  | .iface _ d => uptoBulk d + 1
  | .map entries => uptoBulkEntries entries + 1
  | .held _ => 1
def uptoBulkAll {H : Type} : List (DataW H) → Nat
  | [] => 0
  | d :: r => uptoBulk d + uptoBulkAll r
def uptoBulkEntries {H : Type} : List (Lit × DataW H) → Nat
  | [] => 0
  | x :: r => uptoBulkEntry x + uptoBulkEntries r
def uptoBulkEntry {H : Type} : Lit × DataW H → Nat
  | (.string bytes, d) => bytes.length + uptoBulk d + 1
  | (_, d) => uptoBulk d + 1
 end
def uptoSmall : (H : Type) → List (DataW H) → Bool := fun _ ds => decide (uptoBulkAll ds ≤ 1048576)
def OpenSpec.upto (s : _root_.Go.ChangeSpec) : _root_.Go.OpenSpec := { _root_.Go.OpenSpec.ofChange s with cond := some uptoSmall }

/-- 'laws.FnExactRingCusps', WHERE WHAT IT READS IS OF BULK AT MOST 1048576: true; the input reads as it did. -/
def fnExactRingCuspsUptoRow : OpenClaim := { program := "ytiiocjkhjogfkaadoor", sum := "523d41e28bf59894a2527d107256c549c10bef4f7951c578f74634834ea0be8c", func := "loop.example/turningwheels/laws.FnExactRingCusps", spec := "fnExactRingCusps", inPlace := ["internal/reflectlite.ValueOf", "(internal/reflectlite.Value).Type", "(internal/reflectlite.Value).IsNil", "internal/reflectlite.TypeOf", "(internal/reflectlite.Value).Elem", "(internal/reflectlite.Value).Set"], unfollowed := true, recurses := true, named := ["errors.errorType"], apart := false, laid := [("errors.errorType", laid_errors_errorType)], narrowed := true }
def FnExactRingCuspsUptoSaid : Prop := fnExactRingCuspsUptoRow.holds Tryd.pinned (OpenSpec.upto fnExactRingCuspsSpec)

/-- 'laws.FnExactRingRounds', WHERE WHAT IT READS IS OF BULK AT MOST 1048576: true; the input reads as it did. -/
def fnExactRingRoundsUptoRow : OpenClaim := { program := "ytiiocjkhjogfkaadoor", sum := "523d41e28bf59894a2527d107256c549c10bef4f7951c578f74634834ea0be8c", func := "loop.example/turningwheels/laws.FnExactRingRounds", spec := "fnExactRingRounds", inPlace := ["internal/reflectlite.ValueOf", "(internal/reflectlite.Value).Type", "(internal/reflectlite.Value).IsNil", "internal/reflectlite.TypeOf", "(internal/reflectlite.Value).Elem", "(internal/reflectlite.Value).Set"], unfollowed := true, recurses := true, named := ["errors.errorType"], apart := false, laid := [("errors.errorType", laid_errors_errorType)], narrowed := true }
def FnExactRingRoundsUptoSaid : Prop := fnExactRingRoundsUptoRow.holds Tryd.pinned (OpenSpec.upto fnExactRingRoundsSpec)

/-- 'laws.FnCusps', WHERE WHAT IT READS IS OF BULK AT MOST 1048576: true; the input reads as it did. -/
def fnCuspsUptoRow : OpenClaim := { program := "ytiiocjkhjogfkaadoor", sum := "523d41e28bf59894a2527d107256c549c10bef4f7951c578f74634834ea0be8c", func := "loop.example/turningwheels/laws.FnCusps", spec := "fnCusps", inPlace := ["internal/reflectlite.ValueOf", "(internal/reflectlite.Value).Type", "(internal/reflectlite.Value).IsNil", "internal/reflectlite.TypeOf", "(internal/reflectlite.Value).Elem", "(internal/reflectlite.Value).Set"], unfollowed := true, recurses := true, named := ["errors.errorType"], apart := false, laid := [("errors.errorType", laid_errors_errorType)], narrowed := true }
def FnCuspsUptoSaid : Prop := fnCuspsUptoRow.holds Tryd.pinned (OpenSpec.upto fnCuspsSpec)

/-- 'laws.FnRounds', WHERE WHAT IT READS IS OF BULK AT MOST 1048576: true; the input reads as it did. -/
def fnRoundsUptoRow : OpenClaim := { program := "ytiiocjkhjogfkaadoor", sum := "523d41e28bf59894a2527d107256c549c10bef4f7951c578f74634834ea0be8c", func := "loop.example/turningwheels/laws.FnRounds", spec := "fnRounds", inPlace := ["internal/reflectlite.ValueOf", "(internal/reflectlite.Value).Type", "(internal/reflectlite.Value).IsNil", "internal/reflectlite.TypeOf", "(internal/reflectlite.Value).Elem", "(internal/reflectlite.Value).Set"], unfollowed := true, recurses := true, named := ["errors.errorType"], apart := false, laid := [("errors.errorType", laid_errors_errorType)], narrowed := true }
def FnRoundsUptoSaid : Prop := fnRoundsUptoRow.holds Tryd.pinned (OpenSpec.upto fnRoundsSpec)

/-- 'laws.FnExactTrainRatio', WHERE WHAT IT READS IS OF BULK AT MOST 1048576: true; the input reads as it did. -/
def fnExactTrainRatioUptoRow : OpenClaim := { program := "ytiiocjkhjogfkaadoor", sum := "523d41e28bf59894a2527d107256c549c10bef4f7951c578f74634834ea0be8c", func := "loop.example/turningwheels/laws.FnExactTrainRatio", spec := "fnExactTrainRatio", inPlace := ["internal/reflectlite.ValueOf", "(internal/reflectlite.Value).Type", "(internal/reflectlite.Value).IsNil", "internal/reflectlite.TypeOf", "(internal/reflectlite.Value).Elem", "(internal/reflectlite.Value).Set"], unfollowed := true, recurses := true, named := ["errors.errorType"], apart := false, laid := [("errors.errorType", laid_errors_errorType)], narrowed := true }
def FnExactTrainRatioUptoSaid : Prop := fnExactTrainRatioUptoRow.holds Tryd.pinned (OpenSpec.upto fnExactTrainRatioSpec)

/-- 'laws.FnExactTrainTurns', WHERE WHAT IT READS IS OF BULK AT MOST 1048576: true; the input reads as it did. -/
def fnExactTrainTurnsUptoRow : OpenClaim := { program := "ytiiocjkhjogfkaadoor", sum := "523d41e28bf59894a2527d107256c549c10bef4f7951c578f74634834ea0be8c", func := "loop.example/turningwheels/laws.FnExactTrainTurns", spec := "fnExactTrainTurns", inPlace := ["internal/reflectlite.ValueOf", "(internal/reflectlite.Value).Type", "(internal/reflectlite.Value).IsNil", "internal/reflectlite.TypeOf", "(internal/reflectlite.Value).Elem", "(internal/reflectlite.Value).Set"], unfollowed := true, recurses := true, named := ["errors.errorType"], apart := false, laid := [("errors.errorType", laid_errors_errorType)], narrowed := true }
def FnExactTrainTurnsUptoSaid : Prop := fnExactTrainTurnsUptoRow.holds Tryd.pinned (OpenSpec.upto fnExactTrainTurnsSpec)

/-- 'laws.FnTrainFind', WHERE WHAT IT READS IS OF BULK AT MOST 1048576: true; the input reads as it did. -/
def fnTrainFindUptoRow : OpenClaim := { program := "ytiiocjkhjogfkaadoor", sum := "523d41e28bf59894a2527d107256c549c10bef4f7951c578f74634834ea0be8c", func := "loop.example/turningwheels/laws.FnTrainFind", spec := "fnTrainFind", inPlace := ["internal/reflectlite.ValueOf", "(internal/reflectlite.Value).Type", "(internal/reflectlite.Value).IsNil", "internal/reflectlite.TypeOf", "(internal/reflectlite.Value).Elem", "(internal/reflectlite.Value).Set"], unfollowed := true, recurses := true, named := ["errors.errorType"], apart := false, laid := [("errors.errorType", laid_errors_errorType)], narrowed := true }
def FnTrainFindUptoSaid : Prop := fnTrainFindUptoRow.holds Tryd.pinned (OpenSpec.upto fnTrainFindSpec)

/-- 'laws.FnRatio', WHERE WHAT IT READS IS OF BULK AT MOST 1048576: true; the input reads as it did. -/
def fnRatioUptoRow : OpenClaim := { program := "ytiiocjkhjogfkaadoor", sum := "523d41e28bf59894a2527d107256c549c10bef4f7951c578f74634834ea0be8c", func := "loop.example/turningwheels/laws.FnRatio", spec := "fnRatio", inPlace := ["internal/reflectlite.ValueOf", "(internal/reflectlite.Value).Type", "(internal/reflectlite.Value).IsNil", "internal/reflectlite.TypeOf", "(internal/reflectlite.Value).Elem", "(internal/reflectlite.Value).Set"], unfollowed := true, recurses := true, named := ["errors.errorType"], apart := false, laid := [("errors.errorType", laid_errors_errorType)], narrowed := true }
def FnRatioUptoSaid : Prop := fnRatioUptoRow.holds Tryd.pinned (OpenSpec.upto fnRatioSpec)

/-- 'laws.FnTrainTurns', WHERE WHAT IT READS IS OF BULK AT MOST 1048576: true; the input reads as it did. -/
def fnTrainTurnsUptoRow : OpenClaim := { program := "ytiiocjkhjogfkaadoor", sum := "523d41e28bf59894a2527d107256c549c10bef4f7951c578f74634834ea0be8c", func := "loop.example/turningwheels/laws.FnTrainTurns", spec := "fnTrainTurns", inPlace := ["internal/reflectlite.ValueOf", "(internal/reflectlite.Value).Type", "(internal/reflectlite.Value).IsNil", "internal/reflectlite.TypeOf", "(internal/reflectlite.Value).Elem", "(internal/reflectlite.Value).Set"], unfollowed := true, recurses := true, named := ["errors.errorType"], apart := false, laid := [("errors.errorType", laid_errors_errorType)], narrowed := true }
def FnTrainTurnsUptoSaid : Prop := fnTrainTurnsUptoRow.holds Tryd.pinned (OpenSpec.upto fnTrainTurnsSpec)

end Rows
end Go.Proofs.YtiiocjkhjogfkaaDoor
