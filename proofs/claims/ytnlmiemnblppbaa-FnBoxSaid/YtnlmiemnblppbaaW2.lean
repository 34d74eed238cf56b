/-
  (At this seat the laws' copies of points lie in Cy2 and Cy3.)
-/
import Derived.Test.YtnlmiemnblppbaaIn
import Derived.Test.YtnlmiemnblppbaaC8
import Derived.Deep.RegionHeld3
import Derived.BigRegion
