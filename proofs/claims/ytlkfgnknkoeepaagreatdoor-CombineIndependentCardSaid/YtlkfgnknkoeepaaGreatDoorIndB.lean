/-
  CombineIndependent: which function of the translation the row speaks of.
-/
import Derived.Test.YtlkfgnknkoeepaaGreatDoorRows
import Derived.Clock
set_option linter.all false

namespace Go.Proofs.YtlkfgnknkoeepaaGreatDoor
theorem Ind_named : Tryz.prog.funcNamed Rows.combineIndependentRow.func = some 4 := by kernel_rfl
end Go.Proofs.YtlkfgnknkoeepaaGreatDoor
