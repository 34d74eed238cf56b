/-
  Cycs: copies and comparisons.
-/
import Derived.Test.YtodjmmdfgjkhiaaGreatDoorC8
import Derived.Test.YtodjmmdfgjkhiaaGreatDoorIn
import Derived.Deep.RegionHeld3
import Derived.BigRegion
namespace Go.Proofs.YtodjmmdfgjkhiaaGreatDoor
open Go.RowKit

end Go.Proofs.YtodjmmdfgjkhiaaGreatDoor
