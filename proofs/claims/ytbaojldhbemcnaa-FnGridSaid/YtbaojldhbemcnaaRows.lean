/-
  No cell of these rows narrows 'for every input' (looked for: loops, veiled, ifaces, maps, wideKeys, modest, calm, conditions, laid).
  DERIVED. THE GIVEN ROWS OF THIS SEAT. 6 by the template 'for every input the law returns true; each argument reads behind the call as it read before'; 0 by the template 'total and deterministic' (their statements: YtbaojldhbemcnaaTotals.lean).
  GIVEN WITH THE SEED: the statements are not yours to turn. If you find one false, say at which input.
  Laid BY PROGRAM, IN A SANDBOX (cutbox-rows.mjs): the forced cells as the released guide's own fill.sh prints them over the translation 0fccd17eeaa8a7a4… (all of the seat's roots in one cut). By AI agents, Wed Nov 11 2026. No macro, syntax, notation, axiom, sorry.
-/
import Derived.Test.YtbaojldhbemcnaaChecked
import GoSem.Claim
import GoSem.ClaimJoined
import GoSem.ClaimMapViews
import Derived.JoinedTies
import Derived.KernelRfl
namespace Go.Proofs.Ytbaojldhbemcnaa
/- THE CELL 'sum', in the pinned program and in every row, IS THE sha256 OF THE DUMP (.gsa) THAT YtbaojldhbemcnaaProg.lean LOADS. Nothing in Lean hashes anything: it is a label: what it is worth is what the hold of that sum in a sandbox is worth. -/
noncomputable def Try.pinned : Pinned := { name := "ytbaojldhbemcnaa", sum := "0fccd17eeaa8a7a4715d0c4128aab8f5fda56a6f055b71172bc82f59f8ead565", checked := Try.checked }
namespace Rows
def none {H : Type} : Left H := { results := [], args := [] }

/-- 'laws.FnExactMovesLength': WHATEVER THE INPUT: true; the input reads as it did. -/
def fnExactMovesLengthSpec : ChangeSpec := { name := "fnExactMovesLength", fn := fun _ => fun
  | [d] => { results := [.lit (.bool true)], args := [d] }
  | _ => none }
def fnExactMovesLengthRow : OpenClaim := { program := "ytbaojldhbemcnaa", sum := "0fccd17eeaa8a7a4715d0c4128aab8f5fda56a6f055b71172bc82f59f8ead565", func := "loop.example/turningwheels/laws.FnExactMovesLength", spec := "fnExactMovesLength", unfollowed := true, recurses := true, apart := false }
def FnExactMovesLengthSaid : Prop := fnExactMovesLengthRow.holds Try.pinned (OpenSpec.ofChange fnExactMovesLengthSpec)

/-- ITS FALSE NEIGHBOUR: 'it returns false'. Refute it at one input. -/
def fnExactMovesLengthWrong : ChangeSpec := { name := "fnExactMovesLength", fn := fun _ => fun
  | [d] => { results := [.lit (.bool false)], args := [d] }
  | _ => none }
def FnExactMovesLengthWrongFalsely : Prop := fnExactMovesLengthRow.holds Try.pinned (OpenSpec.ofChange fnExactMovesLengthWrong)

/-- 'laws.FnLength': WHATEVER THE INPUT: true; the input reads as it did. -/
def fnLengthSpec : ChangeSpec := { name := "fnLength", fn := fun _ => fun
  | [d] => { results := [.lit (.bool true)], args := [d] }
  | _ => none }
def fnLengthRow : OpenClaim := { program := "ytbaojldhbemcnaa", sum := "0fccd17eeaa8a7a4715d0c4128aab8f5fda56a6f055b71172bc82f59f8ead565", func := "loop.example/turningwheels/laws.FnLength", spec := "fnLength", unfollowed := true, recurses := true, apart := false }
def FnLengthSaid : Prop := fnLengthRow.holds Try.pinned (OpenSpec.ofChange fnLengthSpec)

/-- ITS FALSE NEIGHBOUR: 'it returns false'. Refute it at one input. -/
def fnLengthWrong : ChangeSpec := { name := "fnLength", fn := fun _ => fun
  | [d] => { results := [.lit (.bool false)], args := [d] }
  | _ => none }
def FnLengthWrongFalsely : Prop := fnLengthRow.holds Try.pinned (OpenSpec.ofChange fnLengthWrong)

/-- 'laws.FnGrid': WHATEVER THE INPUT: true; the input reads as it did. -/
def fnGridSpec : ChangeSpec := { name := "fnGrid", fn := fun _ => fun
  | [d] => { results := [.lit (.bool true)], args := [d] }
  | _ => none }
def fnGridRow : OpenClaim := { program := "ytbaojldhbemcnaa", sum := "0fccd17eeaa8a7a4715d0c4128aab8f5fda56a6f055b71172bc82f59f8ead565", func := "loop.example/turningwheels/laws.FnGrid", spec := "fnGrid", inPlace := ["math.archFloor", "math.Float64bits", "math.Float64frombits", "math.archTrunc"], apart := false }
def FnGridSaid : Prop := fnGridRow.holds Try.pinned (OpenSpec.ofChange fnGridSpec)

/-- ITS FALSE NEIGHBOUR: 'it returns false'. Refute it at one input. -/
def fnGridWrong : ChangeSpec := { name := "fnGrid", fn := fun _ => fun
  | [d] => { results := [.lit (.bool false)], args := [d] }
  | _ => none }
def FnGridWrongFalsely : Prop := fnGridRow.holds Try.pinned (OpenSpec.ofChange fnGridWrong)

/-- 'laws.FnExactMovesTidy': WHATEVER THE INPUT: true; the input reads as it did. -/
def fnExactMovesTidySpec : ChangeSpec := { name := "fnExactMovesTidy", fn := fun _ => fun
  | [d] => { results := [.lit (.bool true)], args := [d] }
  | _ => none }
def fnExactMovesTidyRow : OpenClaim := { program := "ytbaojldhbemcnaa", sum := "0fccd17eeaa8a7a4715d0c4128aab8f5fda56a6f055b71172bc82f59f8ead565", func := "loop.example/turningwheels/laws.FnExactMovesTidy", spec := "fnExactMovesTidy", unfollowed := true, recurses := true, apart := false }
def FnExactMovesTidySaid : Prop := fnExactMovesTidyRow.holds Try.pinned (OpenSpec.ofChange fnExactMovesTidySpec)

/-- ITS FALSE NEIGHBOUR: 'it returns false'. Refute it at one input. -/
def fnExactMovesTidyWrong : ChangeSpec := { name := "fnExactMovesTidy", fn := fun _ => fun
  | [d] => { results := [.lit (.bool false)], args := [d] }
  | _ => none }
def FnExactMovesTidyWrongFalsely : Prop := fnExactMovesTidyRow.holds Try.pinned (OpenSpec.ofChange fnExactMovesTidyWrong)

/-- 'laws.FnMovesTidy': WHATEVER THE INPUT: true; the input reads as it did. -/
def fnMovesTidySpec : ChangeSpec := { name := "fnMovesTidy", fn := fun _ => fun
  | [d] => { results := [.lit (.bool true)], args := [d] }
  | _ => none }
def fnMovesTidyRow : OpenClaim := { program := "ytbaojldhbemcnaa", sum := "0fccd17eeaa8a7a4715d0c4128aab8f5fda56a6f055b71172bc82f59f8ead565", func := "loop.example/turningwheels/laws.FnMovesTidy", spec := "fnMovesTidy", unfollowed := true, recurses := true, apart := false }
def FnMovesTidySaid : Prop := fnMovesTidyRow.holds Try.pinned (OpenSpec.ofChange fnMovesTidySpec)

/-- ITS FALSE NEIGHBOUR: 'it returns false'. Refute it at one input. -/
def fnMovesTidyWrong : ChangeSpec := { name := "fnMovesTidy", fn := fun _ => fun
  | [d] => { results := [.lit (.bool false)], args := [d] }
  | _ => none }
def FnMovesTidyWrongFalsely : Prop := fnMovesTidyRow.holds Try.pinned (OpenSpec.ofChange fnMovesTidyWrong)

/-- 'laws.FnExactMovesPath': WHATEVER THE INPUT: true; the input reads as it did. -/
def fnExactMovesPathSpec : ChangeSpec := { name := "fnExactMovesPath", fn := fun _ => fun
  | [d1, d2] => { results := [.lit (.bool true)], args := [d1, d2] }
  | _ => none }
def fnExactMovesPathRow : OpenClaim := { program := "ytbaojldhbemcnaa", sum := "0fccd17eeaa8a7a4715d0c4128aab8f5fda56a6f055b71172bc82f59f8ead565", func := "loop.example/turningwheels/laws.FnExactMovesPath", spec := "fnExactMovesPath", unfollowed := true, recurses := true, apart := false }
def FnExactMovesPathSaid : Prop := fnExactMovesPathRow.holds Try.pinned (OpenSpec.ofChange fnExactMovesPathSpec)

/-- ITS FALSE NEIGHBOUR: 'it returns false'. Refute it at one input. -/
def fnExactMovesPathWrong : ChangeSpec := { name := "fnExactMovesPath", fn := fun _ => fun
  | [d1, d2] => { results := [.lit (.bool false)], args := [d1, d2] }
  | _ => none }
def FnExactMovesPathWrongFalsely : Prop := fnExactMovesPathRow.holds Try.pinned (OpenSpec.ofChange fnExactMovesPathWrong)

/- THE SECOND FORM. 'bulk': how many values and letters a reading holds, each counted each time it is reached (what is shared counts as often as it is met; a slice's spare places count too). A statement '..UptoSaid' is the law's where the arguments, and the package variables that the reading takes, are together of bulk at most 1048576: NARROWER than '..Said'. Prove '..Said' where nothing that the law and all that it calls make is longer than what came in: it says more and counts as full. Else prove '..UptoSaid'. A law counts once. -/
mutual
def uptoBulk {H : Type} : DataW H → Nat
  | .lit (.string bytes) => bytes.length + 1
  | .lit _ => 1
  | .nil => 1
  | .ptr d => uptoBulk d + 1
  | .slice elems spare => uptoBulkAll elems + uptoBulkAll spare + 1
  | .agg parts => uptoBulkAll parts + 1
  | .iface _ d => uptoBulk d + 1
  | .map entries => uptoBulkEntries entries + 1
  | .held _ => 1
def uptoBulkAll {H : Type} : List (DataW H) → Nat
  | [] => 0
  | d :: r => uptoBulk d + uptoBulkAll r
def uptoBulkEntries {H : Type} : List (Lit × DataW H) → Nat
  | [] => 0
  | x :: r => uptoBulkEntry x + uptoBulkEntries r
def uptoBulkEntry {H : Type} : Lit × DataW H → Nat
  | (.string bytes, d) => bytes.length + uptoBulk d + 1
  | (_, d) => uptoBulk d + 1
 end
def uptoSmall : (H : Type) → List (DataW H) → Bool := fun _ ds => decide (uptoBulkAll ds ≤ 1048576)
def OpenSpec.upto (s : _root_.Go.ChangeSpec) : _root_.Go.OpenSpec := { _root_.Go.OpenSpec.ofChange s with cond := some uptoSmall }

/-- 'laws.FnExactMovesLength', WHERE WHAT IT READS IS OF BULK AT MOST 1048576: true; the input reads as it did. -/
def fnExactMovesLengthUptoRow : OpenClaim := { program := "ytbaojldhbemcnaa", sum := "0fccd17eeaa8a7a4715d0c4128aab8f5fda56a6f055b71172bc82f59f8ead565", func := "loop.example/turningwheels/laws.FnExactMovesLength", spec := "fnExactMovesLength", unfollowed := true, recurses := true, apart := false, narrowed := true }
def FnExactMovesLengthUptoSaid : Prop := fnExactMovesLengthUptoRow.holds Try.pinned (OpenSpec.upto fnExactMovesLengthSpec)

/-- 'laws.FnLength', WHERE WHAT IT READS IS OF BULK AT MOST 1048576: true; the input reads as it did. -/
def fnLengthUptoRow : OpenClaim := { program := "ytbaojldhbemcnaa", sum := "0fccd17eeaa8a7a4715d0c4128aab8f5fda56a6f055b71172bc82f59f8ead565", func := "loop.example/turningwheels/laws.FnLength", spec := "fnLength", unfollowed := true, recurses := true, apart := false, narrowed := true }
def FnLengthUptoSaid : Prop := fnLengthUptoRow.holds Try.pinned (OpenSpec.upto fnLengthSpec)

/-- 'laws.FnGrid', WHERE WHAT IT READS IS OF BULK AT MOST 1048576: true; the input reads as it did. -/
def fnGridUptoRow : OpenClaim := { program := "ytbaojldhbemcnaa", sum := "0fccd17eeaa8a7a4715d0c4128aab8f5fda56a6f055b71172bc82f59f8ead565", func := "loop.example/turningwheels/laws.FnGrid", spec := "fnGrid", inPlace := ["math.archFloor", "math.Float64bits", "math.Float64frombits", "math.archTrunc"], apart := false, narrowed := true }
def FnGridUptoSaid : Prop := fnGridUptoRow.holds Try.pinned (OpenSpec.upto fnGridSpec)

/-- 'laws.FnExactMovesTidy', WHERE WHAT IT READS IS OF BULK AT MOST 1048576: true; the input reads as it did. -/
def fnExactMovesTidyUptoRow : OpenClaim := { program := "ytbaojldhbemcnaa", sum := "0fccd17eeaa8a7a4715d0c4128aab8f5fda56a6f055b71172bc82f59f8ead565", func := "loop.example/turningwheels/laws.FnExactMovesTidy", spec := "fnExactMovesTidy", unfollowed := true, recurses := true, apart := false, narrowed := true }
def FnExactMovesTidyUptoSaid : Prop := fnExactMovesTidyUptoRow.holds Try.pinned (OpenSpec.upto fnExactMovesTidySpec)

/-- 'laws.FnMovesTidy', WHERE WHAT IT READS IS OF BULK AT MOST 1048576: true; the input reads as it did. -/
def fnMovesTidyUptoRow : OpenClaim := { program := "ytbaojldhbemcnaa", sum := "0fccd17eeaa8a7a4715d0c4128aab8f5fda56a6f055b71172bc82f59f8ead565", func := "loop.example/turningwheels/laws.FnMovesTidy", spec := "fnMovesTidy", unfollowed := true, recurses := true, apart := false, narrowed := true }
def FnMovesTidyUptoSaid : Prop := fnMovesTidyUptoRow.holds Try.pinned (OpenSpec.upto fnMovesTidySpec)

/-- 'laws.FnExactMovesPath', WHERE WHAT IT READS IS OF BULK AT MOST 1048576: true; the input reads as it did. -/
def fnExactMovesPathUptoRow : OpenClaim := { program := "ytbaojldhbemcnaa", sum := "0fccd17eeaa8a7a4715d0c4128aab8f5fda56a6f055b71172bc82f59f8ead565", func := "loop.example/turningwheels/laws.FnExactMovesPath", spec := "fnExactMovesPath", unfollowed := true, recurses := true, apart := false, narrowed := true }
def FnExactMovesPathUptoSaid : Prop := fnExactMovesPathUptoRow.holds Try.pinned (OpenSpec.upto fnExactMovesPathSpec)

end Rows
end Go.Proofs.Ytbaojldhbemcnaa
