/-
  CombineIndependent: the row's cell on recursion.
-/
import Derived.Test.YtlkfgnknkoeepaaGreatDoorRows
import Derived.Clock
set_option linter.all false

namespace Go.Proofs.YtlkfgnknkoeepaaGreatDoor
theorem Ind_recurses : (Rows.combineIndependentRow.recurses == Tryz.prog.recurses 4) = true := by kernel_rfl
end Go.Proofs.YtlkfgnknkoeepaaGreatDoor
