/-
  Maps' types are in order.
-/
import Derived.Test.YtlkfgnknkoeepaaGreatDoorRows
import Derived.Clock
set_option linter.all false

namespace Go.Proofs.YtlkfgnknkoeepaaGreatDoor
set_option maxRecDepth 100000
theorem fact_maps : mapsRowed Tryz.prog = true := by kernel_rfl
end Go.Proofs.YtlkfgnknkoeepaaGreatDoor
