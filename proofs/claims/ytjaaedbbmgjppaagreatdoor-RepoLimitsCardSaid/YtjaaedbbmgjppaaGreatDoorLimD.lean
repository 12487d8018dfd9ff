/-
  RepoLimits: the row's cell on recursion.
-/
import Derived.Test.YtjaaedbbmgjppaaGreatDoorRows
import Derived.Clock
set_option linter.all false

namespace Go.Proofs.YtjaaedbbmgjppaaGreatDoor
theorem Lim_recurses : (Rows.repoLimitsRow.recurses == Tryz.prog.recurses 3) = true := by kernel_rfl
end Go.Proofs.YtjaaedbbmgjppaaGreatDoor
