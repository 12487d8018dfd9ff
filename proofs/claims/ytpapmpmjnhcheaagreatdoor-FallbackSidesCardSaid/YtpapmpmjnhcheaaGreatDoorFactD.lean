/-
  Maps' types are in order.
-/
import Derived.Test.YtpapmpmjnhcheaaGreatDoorRows
import Derived.Clock
set_option linter.all false

namespace Go.Proofs.YtpapmpmjnhcheaaGreatDoor
set_option maxRecDepth 100000
theorem fact_maps : mapsRowed Tryz.prog = true := by kernel_rfl
end Go.Proofs.YtpapmpmjnhcheaaGreatDoor
