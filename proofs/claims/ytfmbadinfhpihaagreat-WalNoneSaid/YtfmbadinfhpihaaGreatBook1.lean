/-
  The book's small functions: Room, Short, SameTexts, under one name.
-/
import Derived.Test.YtfmbadinfhpihaaGreatShort
import Derived.Test.YtfmbadinfhpihaaGreatSameT
