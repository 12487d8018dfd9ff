/-
  Maps' types are in order.
-/
import Derived.Test.YtoelbcipkjppgaaGreatDoorRows
import Derived.Clock
set_option linter.all false

namespace Go.Proofs.YtoelbcipkjppgaaGreatDoor
set_option maxRecDepth 100000
theorem fact_maps : mapsRowed Tryz.prog = true := by kernel_rfl
end Go.Proofs.YtoelbcipkjppgaaGreatDoor
