/-
  The hash of three bytes, reckoned by the kernel. No program in sight.
-/
import Derived.Test.YtcifnfffoiiceaaDoorHashN
namespace Go.Proofs.YtcifnfffoiiceaaDoor
open Go.RowKit
set_option linter.unusedVariables false
theorem abc32 : ((sumN 32 [97, 98, 99])[0]?, (sumN 32 [97, 98, 99])[31]?) = (some 186, some 173) := by kernel_rfl
theorem abc1 : (sumN 1 [97, 98, 99])[1]? = some 0 := by kernel_rfl
end Go.Proofs.YtcifnfffoiiceaaDoor
