/-
  CombineIndependent: the row's cell on calls through values.
-/
import Derived.Test.YtlkfgnknkoeepaaGreatDoorRows
import Derived.Clock
set_option linter.all false

namespace Go.Proofs.YtlkfgnknkoeepaaGreatDoor
theorem Ind_unfollowed : (Rows.combineIndependentRow.unfollowed == Tryz.prog.unfollowed 4) = true := by kernel_rfl
end Go.Proofs.YtlkfgnknkoeepaaGreatDoor
