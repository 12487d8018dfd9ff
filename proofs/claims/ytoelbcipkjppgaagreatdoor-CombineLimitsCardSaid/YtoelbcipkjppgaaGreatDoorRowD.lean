/-
  CombineLimits: the row's cell on recursion.
-/
import Derived.Test.YtoelbcipkjppgaaGreatDoorRows
import Derived.Clock
set_option linter.all false

namespace Go.Proofs.YtoelbcipkjppgaaGreatDoor
theorem Lm_recurses : (Rows.combineLimitsRow.recurses == Tryz.prog.recurses 3) = true := by kernel_rfl
end Go.Proofs.YtoelbcipkjppgaaGreatDoor
