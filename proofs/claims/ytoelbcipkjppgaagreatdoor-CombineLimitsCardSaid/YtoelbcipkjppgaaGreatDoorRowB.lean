/-
  CombineLimits: which function of the translation the row speaks of.
-/
import Derived.Test.YtoelbcipkjppgaaGreatDoorRows
import Derived.Clock
set_option linter.all false

namespace Go.Proofs.YtoelbcipkjppgaaGreatDoor
theorem Lm_named : Tryz.prog.funcNamed Rows.combineLimitsRow.func = some 3 := by kernel_rfl
end Go.Proofs.YtoelbcipkjppgaaGreatDoor
