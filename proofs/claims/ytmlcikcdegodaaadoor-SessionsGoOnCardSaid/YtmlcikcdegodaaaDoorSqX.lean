/-
  Go's binary search and clone at rows of int; the package inbox.
-/
import Derived.Test.YtmlcikcdegodaaaDoorFltT
import Derived.Test.YtmlcikcdegodaaaDoorSesM
set_option linter.unusedSimpArgs false
set_option linter.unusedVariables false
set_option maxRecDepth 20000
namespace Go.Proofs.YtmlcikcdegodaaaDoor
open Go Go.Sx
theorem intsI_append (w : Value) (l m : List Int) : sl 3 1 w (l.length + m.length) (ints l ++ ints m) = intsI w (l ++ m) := by simp [intsI, ints_append]
attribute [local irreducible] MidQ wpE wpO wpC qE wpQ wpQO wpH wpHO wpD wpDO wpZ Ev own emp exI sl ch PostS LoopQ Rd rowsAt

structure BsSt where
  i : Nat
  j : Nat
end Go.Proofs.YtmlcikcdegodaaaDoor
