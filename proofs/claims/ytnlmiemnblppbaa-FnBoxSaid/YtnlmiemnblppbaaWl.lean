/-
  Lists of wheels: copies, comparisons, marks.
-/
import Derived.Test.YtnlmiemnblppbaaW9
namespace Go.Proofs.Ytnlmiemnblppbaa
open Go.RowKit

/-- What a copy of wheels gives: a slice of its own with these wheels. -/
def WlNew (ws : List W9) (w : World) (e : Ending) (w' : World) : Prop :=
  ∃ v, e = .returned v ∧ w'.ownsRow w.heap.size 124 9 v ws.length (wlCells ws) ∧ Below w.heap.size w w'

end Go.Proofs.Ytnlmiemnblppbaa
