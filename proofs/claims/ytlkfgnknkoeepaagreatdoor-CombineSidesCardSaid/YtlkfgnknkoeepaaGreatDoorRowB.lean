/-
  CombineSides: which function of the translation the row speaks of.
-/
import Derived.Test.YtlkfgnknkoeepaaGreatDoorRows
import Derived.Clock
set_option linter.all false

namespace Go.Proofs.YtlkfgnknkoeepaaGreatDoor
theorem Sds_named : Tryz.prog.funcNamed Rows.combineSidesRow.func = some 3 := by kernel_rfl
end Go.Proofs.YtlkfgnknkoeepaaGreatDoor
