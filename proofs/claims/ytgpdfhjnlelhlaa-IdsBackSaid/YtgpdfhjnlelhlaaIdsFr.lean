/-
  What the laws' arguments hold.
-/
import Derived.Test.YtgpdfhjnlelhlaaSxJ
import Derived.Test.YtgpdfhjnlelhlaaIdsW
set_option linter.unusedSimpArgs false
set_option linter.unusedVariables false
namespace Go.Proofs.Ytgpdfhjnlelhlaa
open Go Go.Sx
open Go.ChangeShapes Go.WideShapes Go.ChangeAt Go.RowKit
theorem own_knob : ownKnob Try.prog.godebug = none := by kernel_rfl
theorem laid_out : laidOutB Try.prog = true := by kernel_rfl
end Go.Proofs.Ytgpdfhjnlelhlaa
