/-
  No cell of these rows narrows 'for every input' (looked for: loops, veiled, ifaces, maps, wideKeys, modest, calm, conditions, laid).
  DERIVED. THE GIVEN ROWS OF THIS SEAT. 6 by the template 'for every input the law returns true; each argument reads behind the call as it read before'; 0 by the template 'total and deterministic' (their statements: YtmobajlakelidaaTotals.lean).
  GIVEN WITH THE SEED: the statements are not yours to turn. If you find one false, say at which input.
  Laid BY PROGRAM, IN A SANDBOX (cutbox-rows.mjs): the forced cells as the released guide's own fill.sh prints them over the translation 9aee520009091415… (all of the seat's roots in one cut). By AI agents, Wed Nov 11 2026. No macro, syntax, notation, axiom, sorry.
-/
import Derived.Test.YtmobajlakelidaaChecked
import GoSem.Claim
import GoSem.ClaimJoined
import GoSem.ClaimMapViews
import Derived.JoinedTies
import Derived.KernelRfl
namespace Go.Proofs.Ytmobajlakelidaa
/- THE CELL 'sum', in the pinned program and in every row, IS THE sha256 OF THE DUMP (.gsa) THAT YtmobajlakelidaaProg.lean LOADS. Nothing in Lean hashes anything: it is a label: what it is worth is what the hold of that sum in a sandbox is worth. -/
noncomputable def Try.pinned : Pinned := { name := "ytmobajlakelidaa", sum := "9aee52000909141575abbbf25e56e86464d04f5ebbc2c21869cccf73018790f5", checked := Try.checked }
namespace Rows
def none {H : Type} : Left H := { results := [], args := [] }

/-- 'laws.FnExactPolyValid': WHATEVER THE INPUT: true; the input reads as it did. -/
def fnExactPolyValidSpec : ChangeSpec := { name := "fnExactPolyValid", fn := fun _ => fun
  | [d] => { results := [.lit (.bool true)], args := [d] }
  | _ => none }
def fnExactPolyValidRow : OpenClaim := { program := "ytmobajlakelidaa", sum := "9aee52000909141575abbbf25e56e86464d04f5ebbc2c21869cccf73018790f5", func := "loop.example/turningwheels/laws.FnExactPolyValid", spec := "fnExactPolyValid", unfollowed := true, recurses := true, apart := false }
def FnExactPolyValidSaid : Prop := fnExactPolyValidRow.holds Try.pinned (OpenSpec.ofChange fnExactPolyValidSpec)

/-- ITS FALSE NEIGHBOUR: 'it returns false'. Refute it at one input. -/
def fnExactPolyValidWrong : ChangeSpec := { name := "fnExactPolyValid", fn := fun _ => fun
  | [d] => { results := [.lit (.bool false)], args := [d] }
  | _ => none }
def FnExactPolyValidWrongFalsely : Prop := fnExactPolyValidRow.holds Try.pinned (OpenSpec.ofChange fnExactPolyValidWrong)

/-- 'laws.FnExactRowValid': WHATEVER THE INPUT: true; the input reads as it did. -/
def fnExactRowValidSpec : ChangeSpec := { name := "fnExactRowValid", fn := fun _ => fun
  | [d] => { results := [.lit (.bool true)], args := [d] }
  | _ => none }
def fnExactRowValidRow : OpenClaim := { program := "ytmobajlakelidaa", sum := "9aee52000909141575abbbf25e56e86464d04f5ebbc2c21869cccf73018790f5", func := "loop.example/turningwheels/laws.FnExactRowValid", spec := "fnExactRowValid", unfollowed := true, recurses := true, apart := false }
def FnExactRowValidSaid : Prop := fnExactRowValidRow.holds Try.pinned (OpenSpec.ofChange fnExactRowValidSpec)

/-- ITS FALSE NEIGHBOUR: 'it returns false'. Refute it at one input. -/
def fnExactRowValidWrong : ChangeSpec := { name := "fnExactRowValid", fn := fun _ => fun
  | [d] => { results := [.lit (.bool false)], args := [d] }
  | _ => none }
def FnExactRowValidWrongFalsely : Prop := fnExactRowValidRow.holds Try.pinned (OpenSpec.ofChange fnExactRowValidWrong)

/-- 'laws.FnExactRowShift': WHATEVER THE INPUT: true; the input reads as it did. -/
def fnExactRowShiftSpec : ChangeSpec := { name := "fnExactRowShift", fn := fun _ => fun
  | [d1, d2] => { results := [.lit (.bool true)], args := [d1, d2] }
  | _ => none }
def fnExactRowShiftRow : OpenClaim := { program := "ytmobajlakelidaa", sum := "9aee52000909141575abbbf25e56e86464d04f5ebbc2c21869cccf73018790f5", func := "loop.example/turningwheels/laws.FnExactRowShift", spec := "fnExactRowShift", unfollowed := true, recurses := true, apart := false }
def FnExactRowShiftSaid : Prop := fnExactRowShiftRow.holds Try.pinned (OpenSpec.ofChange fnExactRowShiftSpec)

/-- ITS FALSE NEIGHBOUR: 'it returns false'. Refute it at one input. -/
def fnExactRowShiftWrong : ChangeSpec := { name := "fnExactRowShift", fn := fun _ => fun
  | [d1, d2] => { results := [.lit (.bool false)], args := [d1, d2] }
  | _ => none }
def FnExactRowShiftWrongFalsely : Prop := fnExactRowShiftRow.holds Try.pinned (OpenSpec.ofChange fnExactRowShiftWrong)

/-- 'laws.FnExactPolyBack': WHATEVER THE INPUT: true; the input reads as it did. -/
def fnExactPolyBackSpec : ChangeSpec := { name := "fnExactPolyBack", fn := fun _ => fun
  | [d] => { results := [.lit (.bool true)], args := [d] }
  | _ => none }
def fnExactPolyBackRow : OpenClaim := { program := "ytmobajlakelidaa", sum := "9aee52000909141575abbbf25e56e86464d04f5ebbc2c21869cccf73018790f5", func := "loop.example/turningwheels/laws.FnExactPolyBack", spec := "fnExactPolyBack", unfollowed := true, recurses := true, apart := false }
def FnExactPolyBackSaid : Prop := fnExactPolyBackRow.holds Try.pinned (OpenSpec.ofChange fnExactPolyBackSpec)

/-- ITS FALSE NEIGHBOUR: 'it returns false'. Refute it at one input. -/
def fnExactPolyBackWrong : ChangeSpec := { name := "fnExactPolyBack", fn := fun _ => fun
  | [d] => { results := [.lit (.bool false)], args := [d] }
  | _ => none }
def FnExactPolyBackWrongFalsely : Prop := fnExactPolyBackRow.holds Try.pinned (OpenSpec.ofChange fnExactPolyBackWrong)

/-- 'laws.FnRow': WHATEVER THE INPUT: true; the input reads as it did. -/
def fnRowSpec : ChangeSpec := { name := "fnRow", fn := fun _ => fun
  | [d] => { results := [.lit (.bool true)], args := [d] }
  | _ => none }
def fnRowRow : OpenClaim := { program := "ytmobajlakelidaa", sum := "9aee52000909141575abbbf25e56e86464d04f5ebbc2c21869cccf73018790f5", func := "loop.example/turningwheels/laws.FnRow", spec := "fnRow", unfollowed := true, recurses := true, apart := false }
def FnRowSaid : Prop := fnRowRow.holds Try.pinned (OpenSpec.ofChange fnRowSpec)

/-- ITS FALSE NEIGHBOUR: 'it returns false'. Refute it at one input. -/
def fnRowWrong : ChangeSpec := { name := "fnRow", fn := fun _ => fun
  | [d] => { results := [.lit (.bool false)], args := [d] }
  | _ => none }
def FnRowWrongFalsely : Prop := fnRowRow.holds Try.pinned (OpenSpec.ofChange fnRowWrong)

/-- 'laws.FnPolyBack': WHATEVER THE INPUT: true; the input reads as it did. -/
def fnPolyBackSpec : ChangeSpec := { name := "fnPolyBack", fn := fun _ => fun
  | [d] => { results := [.lit (.bool true)], args := [d] }
  | _ => none }
def fnPolyBackRow : OpenClaim := { program := "ytmobajlakelidaa", sum := "9aee52000909141575abbbf25e56e86464d04f5ebbc2c21869cccf73018790f5", func := "loop.example/turningwheels/laws.FnPolyBack", spec := "fnPolyBack", unfollowed := true, recurses := true, apart := false }
def FnPolyBackSaid : Prop := fnPolyBackRow.holds Try.pinned (OpenSpec.ofChange fnPolyBackSpec)

/-- ITS FALSE NEIGHBOUR: 'it returns false'. Refute it at one input. -/
def fnPolyBackWrong : ChangeSpec := { name := "fnPolyBack", fn := fun _ => fun
  | [d] => { results := [.lit (.bool false)], args := [d] }
  | _ => none }
def FnPolyBackWrongFalsely : Prop := fnPolyBackRow.holds Try.pinned (OpenSpec.ofChange fnPolyBackWrong)

/- THE SECOND FORM. 'bulk': how many values and letters a reading holds, each counted each time it is reached (what is shared counts as often as it is met; a slice's spare places count too). A statement '..UptoSaid' is the law's where the arguments, and the package variables that the reading takes, are together of bulk at most 1048576: NARROWER than '..Said'. Prove '..Said' where nothing that the law and all that it calls make is longer than what came in: it says more and counts as full. Else prove '..UptoSaid'. A law counts once. -/
mutual
def uptoBulk {H : Type} : DataW H → Nat
  | .lit (.string bytes) => bytes.length + 1
  | .lit _ => 1
  | .nil => 1
  | .ptr d => uptoBulk d + 1
  | .slice elems spare => uptoBulkAll elems + uptoBulkAll spare + 1
  | .agg parts => uptoBulkAll parts + 1
  | .iface _ d => uptoBulk d + 1
  | .map entries => uptoBulkEntries entries + 1
  | .held _ => 1
def uptoBulkAll {H : Type} : List (DataW H) → Nat
  | [] => 0
  | d :: r => uptoBulk d + uptoBulkAll r
def uptoBulkEntries {H : Type} : List (Lit × DataW H) → Nat
  | [] => 0
  | x :: r => uptoBulkEntry x + uptoBulkEntries r
def uptoBulkEntry {H : Type} : Lit × DataW H → Nat
  | (.string bytes, d) => bytes.length + uptoBulk d + 1
  | (_, d) => uptoBulk d + 1
 end
def uptoSmall : (H : Type) → List (DataW H) → Bool := fun _ ds => decide (uptoBulkAll ds ≤ 1048576)
def OpenSpec.upto (s : _root_.Go.ChangeSpec) : _root_.Go.OpenSpec := { _root_.Go.OpenSpec.ofChange s with cond := some uptoSmall }

/-- 'laws.FnExactPolyValid', WHERE WHAT IT READS IS OF BULK AT MOST 1048576: true; the input reads as it did. -/
def fnExactPolyValidUptoRow : OpenClaim := { program := "ytmobajlakelidaa", sum := "9aee52000909141575abbbf25e56e86464d04f5ebbc2c21869cccf73018790f5", func := "loop.example/turningwheels/laws.FnExactPolyValid", spec := "fnExactPolyValid", unfollowed := true, recurses := true, apart := false, narrowed := true }
def FnExactPolyValidUptoSaid : Prop := fnExactPolyValidUptoRow.holds Try.pinned (OpenSpec.upto fnExactPolyValidSpec)

/-- 'laws.FnExactRowValid', WHERE WHAT IT READS IS OF BULK AT MOST 1048576: true; the input reads as it did. -/
def fnExactRowValidUptoRow : OpenClaim := { program := "ytmobajlakelidaa", sum := "9aee52000909141575abbbf25e56e86464d04f5ebbc2c21869cccf73018790f5", func := "loop.example/turningwheels/laws.FnExactRowValid", spec := "fnExactRowValid", unfollowed := true, recurses := true, apart := false, narrowed := true }
def FnExactRowValidUptoSaid : Prop := fnExactRowValidUptoRow.holds Try.pinned (OpenSpec.upto fnExactRowValidSpec)

/-- 'laws.FnExactRowShift', WHERE WHAT IT READS IS OF BULK AT MOST 1048576: true; the input reads as it did. -/
def fnExactRowShiftUptoRow : OpenClaim := { program := "ytmobajlakelidaa", sum := "9aee52000909141575abbbf25e56e86464d04f5ebbc2c21869cccf73018790f5", func := "loop.example/turningwheels/laws.FnExactRowShift", spec := "fnExactRowShift", unfollowed := true, recurses := true, apart := false, narrowed := true }
def FnExactRowShiftUptoSaid : Prop := fnExactRowShiftUptoRow.holds Try.pinned (OpenSpec.upto fnExactRowShiftSpec)

/-- 'laws.FnExactPolyBack', WHERE WHAT IT READS IS OF BULK AT MOST 1048576: true; the input reads as it did. -/
def fnExactPolyBackUptoRow : OpenClaim := { program := "ytmobajlakelidaa", sum := "9aee52000909141575abbbf25e56e86464d04f5ebbc2c21869cccf73018790f5", func := "loop.example/turningwheels/laws.FnExactPolyBack", spec := "fnExactPolyBack", unfollowed := true, recurses := true, apart := false, narrowed := true }
def FnExactPolyBackUptoSaid : Prop := fnExactPolyBackUptoRow.holds Try.pinned (OpenSpec.upto fnExactPolyBackSpec)

/-- 'laws.FnRow', WHERE WHAT IT READS IS OF BULK AT MOST 1048576: true; the input reads as it did. -/
def fnRowUptoRow : OpenClaim := { program := "ytmobajlakelidaa", sum := "9aee52000909141575abbbf25e56e86464d04f5ebbc2c21869cccf73018790f5", func := "loop.example/turningwheels/laws.FnRow", spec := "fnRow", unfollowed := true, recurses := true, apart := false, narrowed := true }
def FnRowUptoSaid : Prop := fnRowUptoRow.holds Try.pinned (OpenSpec.upto fnRowSpec)

/-- 'laws.FnPolyBack', WHERE WHAT IT READS IS OF BULK AT MOST 1048576: true; the input reads as it did. -/
def fnPolyBackUptoRow : OpenClaim := { program := "ytmobajlakelidaa", sum := "9aee52000909141575abbbf25e56e86464d04f5ebbc2c21869cccf73018790f5", func := "loop.example/turningwheels/laws.FnPolyBack", spec := "fnPolyBack", unfollowed := true, recurses := true, apart := false, narrowed := true }
def FnPolyBackUptoSaid : Prop := fnPolyBackUptoRow.holds Try.pinned (OpenSpec.upto fnPolyBackSpec)

end Rows
end Go.Proofs.Ytmobajlakelidaa
