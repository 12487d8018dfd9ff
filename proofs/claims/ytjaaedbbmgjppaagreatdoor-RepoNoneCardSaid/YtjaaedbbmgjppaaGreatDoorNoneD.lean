/-
  RepoNone: the row's cell on recursion.
-/
import Derived.Test.YtjaaedbbmgjppaaGreatDoorRows
import Derived.Clock
set_option linter.all false

namespace Go.Proofs.YtjaaedbbmgjppaaGreatDoor
theorem None_recurses : (Rows.repoNoneRow.recurses == Tryz.prog.recurses 4) = true := by kernel_rfl
end Go.Proofs.YtjaaedbbmgjppaaGreatDoor
