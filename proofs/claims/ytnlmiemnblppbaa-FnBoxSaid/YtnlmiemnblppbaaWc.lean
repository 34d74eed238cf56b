/-
  Small and valid points (their laws lie in Cy1).
-/
import Derived.Test.YtnlmiemnblppbaaCy1
