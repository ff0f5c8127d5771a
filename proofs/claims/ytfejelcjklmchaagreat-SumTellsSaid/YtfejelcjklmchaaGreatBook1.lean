/-
  The book's small functions: Room, Short, SameTexts, under one name.
-/
import Derived.Test.YtfejelcjklmchaaGreatShort
import Derived.Test.YtfejelcjklmchaaGreatSameT
