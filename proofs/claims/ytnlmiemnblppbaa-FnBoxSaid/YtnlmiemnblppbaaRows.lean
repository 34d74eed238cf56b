/-
  No cell of these rows narrows 'for every input' (looked for: loops, veiled, ifaces, maps, wideKeys, modest, calm, conditions, laid).
  DERIVED. THE GIVEN ROWS OF THIS SEAT. 7 by the template 'for every input the law returns true; each argument reads behind the call as it read before'; 0 by the template 'total and deterministic' (their statements: YtnlmiemnblppbaaTotals.lean).
  GIVEN WITH THE SEED: the statements are not yours to turn. If you find one false, say at which input.
  Laid BY PROGRAM, IN A SANDBOX (cutbox-rows.mjs): the forced cells as the released guide's own fill.sh prints them over the translation 1141cd897cdf4a47… (all of the seat's roots in one cut). By AI agents, Wed Nov 11 2026. No macro, syntax, notation, axiom, sorry.
-/
import Derived.Test.YtnlmiemnblppbaaChecked
import GoSem.Claim
import GoSem.ClaimJoined
import GoSem.ClaimMapViews
import Derived.JoinedTies
import Derived.KernelRfl
namespace Go.Proofs.Ytnlmiemnblppbaa
/- THE CELL 'sum', in the pinned program and in every row, IS THE sha256 OF THE DUMP (.gsa) THAT YtnlmiemnblppbaaProg.lean LOADS. Nothing in Lean hashes anything: it is a label: what it is worth is what the hold of that sum in a sandbox is worth. -/
noncomputable def Try.pinned : Pinned := { name := "ytnlmiemnblppbaa", sum := "1141cd897cdf4a470ded37bf09a89bb3cc7a1a2102d59008b5dd9ee7c4325585", checked := Try.checked }
namespace Rows
def none {H : Type} : Left H := { results := [], args := [] }

/-- 'laws.FnMovesPath': WHATEVER THE INPUT: true; the input reads as it did. -/
def fnMovesPathSpec : ChangeSpec := { name := "fnMovesPath", fn := fun _ => fun
  | [d] => { results := [.lit (.bool true)], args := [d] }
  | _ => none }
def fnMovesPathRow : OpenClaim := { program := "ytnlmiemnblppbaa", sum := "1141cd897cdf4a470ded37bf09a89bb3cc7a1a2102d59008b5dd9ee7c4325585", func := "loop.example/turningwheels/laws.FnMovesPath", spec := "fnMovesPath", inPlace := ["math.archFloor", "math.Float64bits", "math.Float64frombits", "math.archTrunc"], unfollowed := true, recurses := true, apart := false }
def FnMovesPathSaid : Prop := fnMovesPathRow.holds Try.pinned (OpenSpec.ofChange fnMovesPathSpec)

/-- ITS FALSE NEIGHBOUR: 'it returns false'. Refute it at one input. -/
def fnMovesPathWrong : ChangeSpec := { name := "fnMovesPath", fn := fun _ => fun
  | [d] => { results := [.lit (.bool false)], args := [d] }
  | _ => none }
def FnMovesPathWrongFalsely : Prop := fnMovesPathRow.holds Try.pinned (OpenSpec.ofChange fnMovesPathWrong)

/-- 'laws.FnExactPathOf': WHATEVER THE INPUT: true; the input reads as it did. -/
def fnExactPathOfSpec : ChangeSpec := { name := "fnExactPathOf", fn := fun _ => fun
  | [d] => { results := [.lit (.bool true)], args := [d] }
  | _ => none }
def fnExactPathOfRow : OpenClaim := { program := "ytnlmiemnblppbaa", sum := "1141cd897cdf4a470ded37bf09a89bb3cc7a1a2102d59008b5dd9ee7c4325585", func := "loop.example/turningwheels/laws.FnExactPathOf", spec := "fnExactPathOf", unfollowed := true, recurses := true, apart := false }
def FnExactPathOfSaid : Prop := fnExactPathOfRow.holds Try.pinned (OpenSpec.ofChange fnExactPathOfSpec)

/-- ITS FALSE NEIGHBOUR: 'it returns false'. Refute it at one input. -/
def fnExactPathOfWrong : ChangeSpec := { name := "fnExactPathOf", fn := fun _ => fun
  | [d] => { results := [.lit (.bool false)], args := [d] }
  | _ => none }
def FnExactPathOfWrongFalsely : Prop := fnExactPathOfRow.holds Try.pinned (OpenSpec.ofChange fnExactPathOfWrong)

/-- 'laws.FnPathOf': WHATEVER THE INPUT: true; the input reads as it did. -/
def fnPathOfSpec : ChangeSpec := { name := "fnPathOf", fn := fun _ => fun
  | [d] => { results := [.lit (.bool true)], args := [d] }
  | _ => none }
def fnPathOfRow : OpenClaim := { program := "ytnlmiemnblppbaa", sum := "1141cd897cdf4a470ded37bf09a89bb3cc7a1a2102d59008b5dd9ee7c4325585", func := "loop.example/turningwheels/laws.FnPathOf", spec := "fnPathOf", unfollowed := true, recurses := true, apart := false }
def FnPathOfSaid : Prop := fnPathOfRow.holds Try.pinned (OpenSpec.ofChange fnPathOfSpec)

/-- ITS FALSE NEIGHBOUR: 'it returns false'. Refute it at one input. -/
def fnPathOfWrong : ChangeSpec := { name := "fnPathOf", fn := fun _ => fun
  | [d] => { results := [.lit (.bool false)], args := [d] }
  | _ => none }
def FnPathOfWrongFalsely : Prop := fnPathOfRow.holds Try.pinned (OpenSpec.ofChange fnPathOfWrong)

/-- 'laws.FnPath': WHATEVER THE INPUT: true; the input reads as it did. -/
def fnPathSpec : ChangeSpec := { name := "fnPath", fn := fun _ => fun
  | [d] => { results := [.lit (.bool true)], args := [d] }
  | _ => none }
def fnPathRow : OpenClaim := { program := "ytnlmiemnblppbaa", sum := "1141cd897cdf4a470ded37bf09a89bb3cc7a1a2102d59008b5dd9ee7c4325585", func := "loop.example/turningwheels/laws.FnPath", spec := "fnPath", unfollowed := true, recurses := true, apart := false }
def FnPathSaid : Prop := fnPathRow.holds Try.pinned (OpenSpec.ofChange fnPathSpec)

/-- ITS FALSE NEIGHBOUR: 'it returns false'. Refute it at one input. -/
def fnPathWrong : ChangeSpec := { name := "fnPath", fn := fun _ => fun
  | [d] => { results := [.lit (.bool false)], args := [d] }
  | _ => none }
def FnPathWrongFalsely : Prop := fnPathRow.holds Try.pinned (OpenSpec.ofChange fnPathWrong)

/-- 'laws.FnFar': WHATEVER THE INPUT: true; the input reads as it did. -/
def fnFarSpec : ChangeSpec := { name := "fnFar", fn := fun _ => fun
  | [d] => { results := [.lit (.bool true)], args := [d] }
  | _ => none }
def fnFarRow : OpenClaim := { program := "ytnlmiemnblppbaa", sum := "1141cd897cdf4a470ded37bf09a89bb3cc7a1a2102d59008b5dd9ee7c4325585", func := "loop.example/turningwheels/laws.FnFar", spec := "fnFar", unfollowed := true, recurses := true, apart := false }
def FnFarSaid : Prop := fnFarRow.holds Try.pinned (OpenSpec.ofChange fnFarSpec)

/-- ITS FALSE NEIGHBOUR: 'it returns false'. Refute it at one input. -/
def fnFarWrong : ChangeSpec := { name := "fnFar", fn := fun _ => fun
  | [d] => { results := [.lit (.bool false)], args := [d] }
  | _ => none }
def FnFarWrongFalsely : Prop := fnFarRow.holds Try.pinned (OpenSpec.ofChange fnFarWrong)

/-- 'laws.FnBox': WHATEVER THE INPUT: true; the input reads as it did. -/
def fnBoxSpec : ChangeSpec := { name := "fnBox", fn := fun _ => fun
  | [d] => { results := [.lit (.bool true)], args := [d] }
  | _ => none }
def fnBoxRow : OpenClaim := { program := "ytnlmiemnblppbaa", sum := "1141cd897cdf4a470ded37bf09a89bb3cc7a1a2102d59008b5dd9ee7c4325585", func := "loop.example/turningwheels/laws.FnBox", spec := "fnBox", unfollowed := true, recurses := true, apart := false }
def FnBoxSaid : Prop := fnBoxRow.holds Try.pinned (OpenSpec.ofChange fnBoxSpec)

/-- ITS FALSE NEIGHBOUR: 'it returns false'. Refute it at one input. -/
def fnBoxWrong : ChangeSpec := { name := "fnBox", fn := fun _ => fun
  | [d] => { results := [.lit (.bool false)], args := [d] }
  | _ => none }
def FnBoxWrongFalsely : Prop := fnBoxRow.holds Try.pinned (OpenSpec.ofChange fnBoxWrong)

/-- 'laws.FnPathMoves': WHATEVER THE INPUT: true; the input reads as it did. -/
def fnPathMovesSpec : ChangeSpec := { name := "fnPathMoves", fn := fun _ => fun
  | [d] => { results := [.lit (.bool true)], args := [d] }
  | _ => none }
def fnPathMovesRow : OpenClaim := { program := "ytnlmiemnblppbaa", sum := "1141cd897cdf4a470ded37bf09a89bb3cc7a1a2102d59008b5dd9ee7c4325585", func := "loop.example/turningwheels/laws.FnPathMoves", spec := "fnPathMoves", inPlace := ["math.archFloor", "math.Float64bits", "math.Float64frombits", "math.archTrunc"], unfollowed := true, recurses := true, apart := false }
def FnPathMovesSaid : Prop := fnPathMovesRow.holds Try.pinned (OpenSpec.ofChange fnPathMovesSpec)

/-- ITS FALSE NEIGHBOUR: 'it returns false'. Refute it at one input. -/
def fnPathMovesWrong : ChangeSpec := { name := "fnPathMoves", fn := fun _ => fun
  | [d] => { results := [.lit (.bool false)], args := [d] }
  | _ => none }
def FnPathMovesWrongFalsely : Prop := fnPathMovesRow.holds Try.pinned (OpenSpec.ofChange fnPathMovesWrong)

/- THE SECOND FORM. 'bulk': how many values and letters a reading holds, each counted each time it is reached (what is shared counts as often as it is met; a slice's spare places count too). A statement '..UptoSaid' is the law's where the arguments, and the package variables that the reading takes, are together of bulk at most 1048576: NARROWER than '..Said'. Prove '..Said' where nothing that the law and all that it calls make is longer than what came in: it says more and counts as full. Else prove '..UptoSaid'. A law counts once. -/
mutual
def uptoBulk {H : Type} : DataW H → Nat
  | .lit (.string bytes) => bytes.length + 1
  | .lit _ => 1
  | .nil => 1
  | .ptr d => uptoBulk d + 1
  | .slice elems spare => uptoBulkAll elems + uptoBulkAll spare + 1
  | .agg parts => uptoBulkAll parts + 1
  | .iface _ d => uptoBulk d + 1
  | .map entries => uptoBulkEntries entries + 1
  | .held _ => 1
def uptoBulkAll {H : Type} : List (DataW H) → Nat
  | [] => 0
  | d :: r => uptoBulk d + uptoBulkAll r
def uptoBulkEntries {H : Type} : List (Lit × DataW H) → Nat
  | [] => 0
  | x :: r => uptoBulkEntry x + uptoBulkEntries r
def uptoBulkEntry {H : Type} : Lit × DataW H → Nat
  | (.string bytes, d) => bytes.length + uptoBulk d + 1
  | (_, d) => uptoBulk d + 1
 end
def uptoSmall : (H : Type) → List (DataW H) → Bool := fun _ ds => decide (uptoBulkAll ds ≤ 1048576)
def OpenSpec.upto (s : _root_.Go.ChangeSpec) : _root_.Go.OpenSpec := { _root_.Go.OpenSpec.ofChange s with cond := some uptoSmall }

/-- 'laws.FnMovesPath', WHERE WHAT IT READS IS OF BULK AT MOST 1048576: true; the input reads as it did. -/
def fnMovesPathUptoRow : OpenClaim := { program := "ytnlmiemnblppbaa", sum := "1141cd897cdf4a470ded37bf09a89bb3cc7a1a2102d59008b5dd9ee7c4325585", func := "loop.example/turningwheels/laws.FnMovesPath", spec := "fnMovesPath", inPlace := ["math.archFloor", "math.Float64bits", "math.Float64frombits", "math.archTrunc"], unfollowed := true, recurses := true, apart := false, narrowed := true }
def FnMovesPathUptoSaid : Prop := fnMovesPathUptoRow.holds Try.pinned (OpenSpec.upto fnMovesPathSpec)

/-- 'laws.FnExactPathOf', WHERE WHAT IT READS IS OF BULK AT MOST 1048576: true; the input reads as it did. -/
def fnExactPathOfUptoRow : OpenClaim := { program := "ytnlmiemnblppbaa", sum := "1141cd897cdf4a470ded37bf09a89bb3cc7a1a2102d59008b5dd9ee7c4325585", func := "loop.example/turningwheels/laws.FnExactPathOf", spec := "fnExactPathOf", unfollowed := true, recurses := true, apart := false, narrowed := true }
def FnExactPathOfUptoSaid : Prop := fnExactPathOfUptoRow.holds Try.pinned (OpenSpec.upto fnExactPathOfSpec)

/-- 'laws.FnPathOf', WHERE WHAT IT READS IS OF BULK AT MOST 1048576: true; the input reads as it did. -/
def fnPathOfUptoRow : OpenClaim := { program := "ytnlmiemnblppbaa", sum := "1141cd897cdf4a470ded37bf09a89bb3cc7a1a2102d59008b5dd9ee7c4325585", func := "loop.example/turningwheels/laws.FnPathOf", spec := "fnPathOf", unfollowed := true, recurses := true, apart := false, narrowed := true }
def FnPathOfUptoSaid : Prop := fnPathOfUptoRow.holds Try.pinned (OpenSpec.upto fnPathOfSpec)

/-- 'laws.FnPath', WHERE WHAT IT READS IS OF BULK AT MOST 1048576: true; the input reads as it did. -/
def fnPathUptoRow : OpenClaim := { program := "ytnlmiemnblppbaa", sum := "1141cd897cdf4a470ded37bf09a89bb3cc7a1a2102d59008b5dd9ee7c4325585", func := "loop.example/turningwheels/laws.FnPath", spec := "fnPath", unfollowed := true, recurses := true, apart := false, narrowed := true }
def FnPathUptoSaid : Prop := fnPathUptoRow.holds Try.pinned (OpenSpec.upto fnPathSpec)

/-- 'laws.FnFar', WHERE WHAT IT READS IS OF BULK AT MOST 1048576: true; the input reads as it did. -/
def fnFarUptoRow : OpenClaim := { program := "ytnlmiemnblppbaa", sum := "1141cd897cdf4a470ded37bf09a89bb3cc7a1a2102d59008b5dd9ee7c4325585", func := "loop.example/turningwheels/laws.FnFar", spec := "fnFar", unfollowed := true, recurses := true, apart := false, narrowed := true }
def FnFarUptoSaid : Prop := fnFarUptoRow.holds Try.pinned (OpenSpec.upto fnFarSpec)

/-- 'laws.FnBox', WHERE WHAT IT READS IS OF BULK AT MOST 1048576: true; the input reads as it did. -/
def fnBoxUptoRow : OpenClaim := { program := "ytnlmiemnblppbaa", sum := "1141cd897cdf4a470ded37bf09a89bb3cc7a1a2102d59008b5dd9ee7c4325585", func := "loop.example/turningwheels/laws.FnBox", spec := "fnBox", unfollowed := true, recurses := true, apart := false, narrowed := true }
def FnBoxUptoSaid : Prop := fnBoxUptoRow.holds Try.pinned (OpenSpec.upto fnBoxSpec)

/-- 'laws.FnPathMoves', WHERE WHAT IT READS IS OF BULK AT MOST 1048576: true; the input reads as it did. -/
def fnPathMovesUptoRow : OpenClaim := { program := "ytnlmiemnblppbaa", sum := "1141cd897cdf4a470ded37bf09a89bb3cc7a1a2102d59008b5dd9ee7c4325585", func := "loop.example/turningwheels/laws.FnPathMoves", spec := "fnPathMoves", inPlace := ["math.archFloor", "math.Float64bits", "math.Float64frombits", "math.archTrunc"], unfollowed := true, recurses := true, apart := false, narrowed := true }
def FnPathMovesUptoSaid : Prop := fnPathMovesUptoRow.holds Try.pinned (OpenSpec.upto fnPathMovesSpec)

end Rows
end Go.Proofs.Ytnlmiemnblppbaa
