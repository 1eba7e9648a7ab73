/-
  Closed facts of the row.
-/
import Derived.Test.YtnaabpfpldelmaaGreatDoorRows
import Derived.JoinedOf
set_option linter.unusedSimpArgs false
set_option linter.unusedVariables false
set_option maxRecDepth 20000
namespace Go.Proofs.YtnaabpfpldelmaaGreatDoor
open Go
set_option maxRecDepth 100000
theorem wj12 : ((Rows.wholeEndsRow.named == Tryz.prog.varsNamed 3)) = true := by kernel_rfl
end Go.Proofs.YtnaabpfpldelmaaGreatDoor
