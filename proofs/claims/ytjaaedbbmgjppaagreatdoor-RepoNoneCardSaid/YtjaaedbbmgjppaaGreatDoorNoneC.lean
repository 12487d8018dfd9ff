/-
  RepoNone: the row's cell on calls through values.
-/
import Derived.Test.YtjaaedbbmgjppaaGreatDoorRows
import Derived.Clock
set_option linter.all false

namespace Go.Proofs.YtjaaedbbmgjppaaGreatDoor
theorem None_unfollowed : (Rows.repoNoneRow.unfollowed == Tryz.prog.unfollowed 4) = true := by kernel_rfl
end Go.Proofs.YtjaaedbbmgjppaaGreatDoor
