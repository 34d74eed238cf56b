/-
  No cell of these rows narrows 'for every input' (looked for: loops, veiled, ifaces, maps, wideKeys, modest, calm, conditions, laid).
  DERIVED. THE GIVEN ROWS OF THIS SEAT. 6 by the template 'for every input the law returns true; each argument reads behind the call as it read before'; 0 by the template 'total and deterministic' (their statements: YtodjmmdfgjkhiaaTotals.lean).
  GIVEN WITH THE SEED: the statements are not yours to turn. If you find one false, say at which input.
  Laid BY PROGRAM, IN A SANDBOX (cutbox-rows.mjs): the forced cells as the released guide's own fill.sh prints them over the translation df3b4a561f2ee980… (all of the seat's roots in one cut). By AI agents, Wed Nov 11 2026. No macro, syntax, notation, axiom, sorry.
-/
import Derived.Test.YtodjmmdfgjkhiaaChecked
import GoSem.Claim
import GoSem.ClaimJoined
import GoSem.ClaimMapViews
import Derived.JoinedTies
import Derived.KernelRfl
namespace Go.Proofs.Ytodjmmdfgjkhiaa
/- THE CELL 'sum', in the pinned program and in every row, IS THE sha256 OF THE DUMP (.gsa) THAT YtodjmmdfgjkhiaaProg.lean LOADS. Nothing in Lean hashes anything: it is a label: what it is worth is what the hold of that sum in a sandbox is worth. -/
noncomputable def Try.pinned : Pinned := { name := "ytodjmmdfgjkhiaa", sum := "df3b4a561f2ee9805e2021fc219911000e406492c350a6aa755a9a3fda27951f", checked := Try.checked }
namespace Rows
def none {H : Type} : Left H := { results := [], args := [] }

/-- 'laws.FnExactDesignCentre': WHATEVER THE INPUT: true; the input reads as it did. -/
def fnExactDesignCentreSpec : ChangeSpec := { name := "fnExactDesignCentre", fn := fun _ => fun
  | [d] => { results := [.lit (.bool true)], args := [d] }
  | _ => none }
def fnExactDesignCentreRow : OpenClaim := { program := "ytodjmmdfgjkhiaa", sum := "df3b4a561f2ee9805e2021fc219911000e406492c350a6aa755a9a3fda27951f", func := "loop.example/turningwheels/laws.FnExactDesignCentre", spec := "fnExactDesignCentre", unfollowed := true, recurses := true, apart := false }
def FnExactDesignCentreSaid : Prop := fnExactDesignCentreRow.holds Try.pinned (OpenSpec.ofChange fnExactDesignCentreSpec)

/-- ITS FALSE NEIGHBOUR: 'it returns false'. Refute it at one input. -/
def fnExactDesignCentreWrong : ChangeSpec := { name := "fnExactDesignCentre", fn := fun _ => fun
  | [d] => { results := [.lit (.bool false)], args := [d] }
  | _ => none }
def FnExactDesignCentreWrongFalsely : Prop := fnExactDesignCentreRow.holds Try.pinned (OpenSpec.ofChange fnExactDesignCentreWrong)

/-- 'laws.FnExactDesignFold': WHATEVER THE INPUT: true; the input reads as it did. -/
def fnExactDesignFoldSpec : ChangeSpec := { name := "fnExactDesignFold", fn := fun _ => fun
  | [d] => { results := [.lit (.bool true)], args := [d] }
  | _ => none }
def fnExactDesignFoldRow : OpenClaim := { program := "ytodjmmdfgjkhiaa", sum := "df3b4a561f2ee9805e2021fc219911000e406492c350a6aa755a9a3fda27951f", func := "loop.example/turningwheels/laws.FnExactDesignFold", spec := "fnExactDesignFold", unfollowed := true, recurses := true, apart := false }
def FnExactDesignFoldSaid : Prop := fnExactDesignFoldRow.holds Try.pinned (OpenSpec.ofChange fnExactDesignFoldSpec)

/-- ITS FALSE NEIGHBOUR: 'it returns false'. Refute it at one input. -/
def fnExactDesignFoldWrong : ChangeSpec := { name := "fnExactDesignFold", fn := fun _ => fun
  | [d] => { results := [.lit (.bool false)], args := [d] }
  | _ => none }
def FnExactDesignFoldWrongFalsely : Prop := fnExactDesignFoldRow.holds Try.pinned (OpenSpec.ofChange fnExactDesignFoldWrong)

/-- 'laws.FnExactDesignPeriod': WHATEVER THE INPUT: true; the input reads as it did. -/
def fnExactDesignPeriodSpec : ChangeSpec := { name := "fnExactDesignPeriod", fn := fun _ => fun
  | [d] => { results := [.lit (.bool true)], args := [d] }
  | _ => none }
def fnExactDesignPeriodRow : OpenClaim := { program := "ytodjmmdfgjkhiaa", sum := "df3b4a561f2ee9805e2021fc219911000e406492c350a6aa755a9a3fda27951f", func := "loop.example/turningwheels/laws.FnExactDesignPeriod", spec := "fnExactDesignPeriod", unfollowed := true, recurses := true, apart := false }
def FnExactDesignPeriodSaid : Prop := fnExactDesignPeriodRow.holds Try.pinned (OpenSpec.ofChange fnExactDesignPeriodSpec)

/-- ITS FALSE NEIGHBOUR: 'it returns false'. Refute it at one input. -/
def fnExactDesignPeriodWrong : ChangeSpec := { name := "fnExactDesignPeriod", fn := fun _ => fun
  | [d] => { results := [.lit (.bool false)], args := [d] }
  | _ => none }
def FnExactDesignPeriodWrongFalsely : Prop := fnExactDesignPeriodRow.holds Try.pinned (OpenSpec.ofChange fnExactDesignPeriodWrong)

/-- 'laws.FnExactDesignSpeeds': WHATEVER THE INPUT: true; the input reads as it did. -/
def fnExactDesignSpeedsSpec : ChangeSpec := { name := "fnExactDesignSpeeds", fn := fun _ => fun
  | [d] => { results := [.lit (.bool true)], args := [d] }
  | _ => none }
def fnExactDesignSpeedsRow : OpenClaim := { program := "ytodjmmdfgjkhiaa", sum := "df3b4a561f2ee9805e2021fc219911000e406492c350a6aa755a9a3fda27951f", func := "loop.example/turningwheels/laws.FnExactDesignSpeeds", spec := "fnExactDesignSpeeds", unfollowed := true, recurses := true, apart := false }
def FnExactDesignSpeedsSaid : Prop := fnExactDesignSpeedsRow.holds Try.pinned (OpenSpec.ofChange fnExactDesignSpeedsSpec)

/-- ITS FALSE NEIGHBOUR: 'it returns false'. Refute it at one input. -/
def fnExactDesignSpeedsWrong : ChangeSpec := { name := "fnExactDesignSpeeds", fn := fun _ => fun
  | [d] => { results := [.lit (.bool false)], args := [d] }
  | _ => none }
def FnExactDesignSpeedsWrongFalsely : Prop := fnExactDesignSpeedsRow.holds Try.pinned (OpenSpec.ofChange fnExactDesignSpeedsWrong)

/-- 'laws.FnExactDesignFaster': WHATEVER THE INPUT: true; the input reads as it did. -/
def fnExactDesignFasterSpec : ChangeSpec := { name := "fnExactDesignFaster", fn := fun _ => fun
  | [d1, d2] => { results := [.lit (.bool true)], args := [d1, d2] }
  | _ => none }
def fnExactDesignFasterRow : OpenClaim := { program := "ytodjmmdfgjkhiaa", sum := "df3b4a561f2ee9805e2021fc219911000e406492c350a6aa755a9a3fda27951f", func := "loop.example/turningwheels/laws.FnExactDesignFaster", spec := "fnExactDesignFaster", unfollowed := true, recurses := true, apart := false }
def FnExactDesignFasterSaid : Prop := fnExactDesignFasterRow.holds Try.pinned (OpenSpec.ofChange fnExactDesignFasterSpec)

/-- ITS FALSE NEIGHBOUR: 'it returns false'. Refute it at one input. -/
def fnExactDesignFasterWrong : ChangeSpec := { name := "fnExactDesignFaster", fn := fun _ => fun
  | [d1, d2] => { results := [.lit (.bool false)], args := [d1, d2] }
  | _ => none }
def FnExactDesignFasterWrongFalsely : Prop := fnExactDesignFasterRow.holds Try.pinned (OpenSpec.ofChange fnExactDesignFasterWrong)

/-- 'laws.FnSpeeds': WHATEVER THE INPUT: true; the input reads as it did. -/
def fnSpeedsSpec : ChangeSpec := { name := "fnSpeeds", fn := fun _ => fun
  | [d] => { results := [.lit (.bool true)], args := [d] }
  | _ => none }
def fnSpeedsRow : OpenClaim := { program := "ytodjmmdfgjkhiaa", sum := "df3b4a561f2ee9805e2021fc219911000e406492c350a6aa755a9a3fda27951f", func := "loop.example/turningwheels/laws.FnSpeeds", spec := "fnSpeeds", unfollowed := true, recurses := true, apart := false }
def FnSpeedsSaid : Prop := fnSpeedsRow.holds Try.pinned (OpenSpec.ofChange fnSpeedsSpec)

/-- ITS FALSE NEIGHBOUR: 'it returns false'. Refute it at one input. -/
def fnSpeedsWrong : ChangeSpec := { name := "fnSpeeds", fn := fun _ => fun
  | [d] => { results := [.lit (.bool false)], args := [d] }
  | _ => none }
def FnSpeedsWrongFalsely : Prop := fnSpeedsRow.holds Try.pinned (OpenSpec.ofChange fnSpeedsWrong)

/- THE SECOND FORM. 'bulk': how many values and letters a reading holds, each counted each time it is reached (what is shared counts as often as it is met; a slice's spare places count too). A statement '..UptoSaid' is the law's where the arguments, and the package variables that the reading takes, are together of bulk at most 1048576: NARROWER than '..Said'. Prove '..Said' where nothing that the law and all that it calls make is longer than what came in: it says more and counts as full. Else prove '..UptoSaid'. A law counts once. -/
mutual
def uptoBulk {H : Type} : DataW H → Nat
  | .lit (.string bytes) => bytes.length + 1
  | .lit _ => 1
  | .nil => 1
  | .ptr d => uptoBulk d + 1
  | .slice elems spare => uptoBulkAll elems + uptoBulkAll spare + 1
  | .agg parts => uptoBulkAll parts + 1
  | .iface _ d => uptoBulk d + 1
  | .map entries => uptoBulkEntries entries + 1
  | .held _ => 1
def uptoBulkAll {H : Type} : List (DataW H) → Nat
  | [] => 0
  | d :: r => uptoBulk d + uptoBulkAll r
def uptoBulkEntries {H : Type} : List (Lit × DataW H) → Nat
  | [] => 0
  | x :: r => uptoBulkEntry x + uptoBulkEntries r
def uptoBulkEntry {H : Type} : Lit × DataW H → Nat
  | (.string bytes, d) => bytes.length + uptoBulk d + 1
  | (_, d) => uptoBulk d + 1
 end
def uptoSmall : (H : Type) → List (DataW H) → Bool := fun _ ds => decide (uptoBulkAll ds ≤ 1048576)
def OpenSpec.upto (s : _root_.Go.ChangeSpec) : _root_.Go.OpenSpec := { _root_.Go.OpenSpec.ofChange s with cond := some uptoSmall }

/-- 'laws.FnExactDesignCentre', WHERE WHAT IT READS IS OF BULK AT MOST 1048576: true; the input reads as it did. -/
def fnExactDesignCentreUptoRow : OpenClaim := { program := "ytodjmmdfgjkhiaa", sum := "df3b4a561f2ee9805e2021fc219911000e406492c350a6aa755a9a3fda27951f", func := "loop.example/turningwheels/laws.FnExactDesignCentre", spec := "fnExactDesignCentre", unfollowed := true, recurses := true, apart := false, narrowed := true }
def FnExactDesignCentreUptoSaid : Prop := fnExactDesignCentreUptoRow.holds Try.pinned (OpenSpec.upto fnExactDesignCentreSpec)

/-- 'laws.FnExactDesignFold', WHERE WHAT IT READS IS OF BULK AT MOST 1048576: true; the input reads as it did. -/
def fnExactDesignFoldUptoRow : OpenClaim := { program := "ytodjmmdfgjkhiaa", sum := "df3b4a561f2ee9805e2021fc219911000e406492c350a6aa755a9a3fda27951f", func := "loop.example/turningwheels/laws.FnExactDesignFold", spec := "fnExactDesignFold", unfollowed := true, recurses := true, apart := false, narrowed := true }
def FnExactDesignFoldUptoSaid : Prop := fnExactDesignFoldUptoRow.holds Try.pinned (OpenSpec.upto fnExactDesignFoldSpec)

/-- 'laws.FnExactDesignPeriod', WHERE WHAT IT READS IS OF BULK AT MOST 1048576: true; the input reads as it did. -/
def fnExactDesignPeriodUptoRow : OpenClaim := { program := "ytodjmmdfgjkhiaa", sum := "df3b4a561f2ee9805e2021fc219911000e406492c350a6aa755a9a3fda27951f", func := "loop.example/turningwheels/laws.FnExactDesignPeriod", spec := "fnExactDesignPeriod", unfollowed := true, recurses := true, apart := false, narrowed := true }
def FnExactDesignPeriodUptoSaid : Prop := fnExactDesignPeriodUptoRow.holds Try.pinned (OpenSpec.upto fnExactDesignPeriodSpec)

/-- 'laws.FnExactDesignSpeeds', WHERE WHAT IT READS IS OF BULK AT MOST 1048576: true; the input reads as it did. -/
def fnExactDesignSpeedsUptoRow : OpenClaim := { program := "ytodjmmdfgjkhiaa", sum := "df3b4a561f2ee9805e2021fc219911000e406492c350a6aa755a9a3fda27951f", func := "loop.example/turningwheels/laws.FnExactDesignSpeeds", spec := "fnExactDesignSpeeds", unfollowed := true, recurses := true, apart := false, narrowed := true }
def FnExactDesignSpeedsUptoSaid : Prop := fnExactDesignSpeedsUptoRow.holds Try.pinned (OpenSpec.upto fnExactDesignSpeedsSpec)

/-- 'laws.FnExactDesignFaster', WHERE WHAT IT READS IS OF BULK AT MOST 1048576: true; the input reads as it did. -/
def fnExactDesignFasterUptoRow : OpenClaim := { program := "ytodjmmdfgjkhiaa", sum := "df3b4a561f2ee9805e2021fc219911000e406492c350a6aa755a9a3fda27951f", func := "loop.example/turningwheels/laws.FnExactDesignFaster", spec := "fnExactDesignFaster", unfollowed := true, recurses := true, apart := false, narrowed := true }
def FnExactDesignFasterUptoSaid : Prop := fnExactDesignFasterUptoRow.holds Try.pinned (OpenSpec.upto fnExactDesignFasterSpec)

/-- 'laws.FnSpeeds', WHERE WHAT IT READS IS OF BULK AT MOST 1048576: true; the input reads as it did. -/
def fnSpeedsUptoRow : OpenClaim := { program := "ytodjmmdfgjkhiaa", sum := "df3b4a561f2ee9805e2021fc219911000e406492c350a6aa755a9a3fda27951f", func := "loop.example/turningwheels/laws.FnSpeeds", spec := "fnSpeeds", unfollowed := true, recurses := true, apart := false, narrowed := true }
def FnSpeedsUptoSaid : Prop := fnSpeedsUptoRow.holds Try.pinned (OpenSpec.upto fnSpeedsSpec)

end Rows
end Go.Proofs.Ytodjmmdfgjkhiaa
