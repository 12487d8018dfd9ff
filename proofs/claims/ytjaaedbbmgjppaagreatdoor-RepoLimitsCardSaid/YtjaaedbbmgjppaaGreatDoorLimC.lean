/-
  RepoLimits: the row's cell on calls through values.
-/
import Derived.Test.YtjaaedbbmgjppaaGreatDoorRows
import Derived.Clock
set_option linter.all false

namespace Go.Proofs.YtjaaedbbmgjppaaGreatDoor
theorem Lim_unfollowed : (Rows.repoLimitsRow.unfollowed == Tryz.prog.unfollowed 3) = true := by kernel_rfl
end Go.Proofs.YtjaaedbbmgjppaaGreatDoor
