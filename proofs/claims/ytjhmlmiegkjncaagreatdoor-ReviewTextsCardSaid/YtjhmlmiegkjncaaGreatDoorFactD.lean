/-
  Maps' types are in order. No stop is heard of.
-/
import Derived.Test.YtjhmlmiegkjncaaGreatDoorRows
import Derived.Clock
set_option linter.all false

namespace Go.Proofs.YtjhmlmiegkjncaaGreatDoor
set_option maxRecDepth 100000
theorem fact_maps : mapsRowed Tryz.prog = true := by kernel_rfl
end Go.Proofs.YtjhmlmiegkjncaaGreatDoor

namespace Go.Proofs.YtjhmlmiegkjncaaGreatDoor
set_option maxRecDepth 100000
theorem fact_heard : Tryz.prog.stopsHeard = true := by kernel_rfl
end Go.Proofs.YtjhmlmiegkjncaaGreatDoor
