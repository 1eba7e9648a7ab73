/-
  Packets held against each other; what is sent again.
-/
import Derived.Test.YtmlcikcdegodaaaDoorFltR
set_option linter.unusedSimpArgs false
set_option linter.unusedVariables false
set_option maxRecDepth 20000
namespace Go.Proofs.YtmlcikcdegodaaaDoor
open Go Go.Sx
def pktV (p : PPkt) : Value := .agg (pktC p).toArray
attribute [local irreducible] MidQ wpE wpO wpC qE wpQ wpQO wpH wpHO wpD wpDO wpZ Ev own emp exI sl ch PostS LoopQ Rd rowsAt
end Go.Proofs.YtmlcikcdegodaaaDoor
