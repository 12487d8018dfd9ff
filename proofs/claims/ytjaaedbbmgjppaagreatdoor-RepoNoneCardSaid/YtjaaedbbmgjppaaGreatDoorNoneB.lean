/-
  RepoNone: which function of the translation the row speaks of.
-/
import Derived.Test.YtjaaedbbmgjppaaGreatDoorRows
import Derived.Clock
set_option linter.all false

namespace Go.Proofs.YtjaaedbbmgjppaaGreatDoor
theorem None_named : Tryz.prog.funcNamed Rows.repoNoneRow.func = some 4 := by kernel_rfl
end Go.Proofs.YtjaaedbbmgjppaaGreatDoor
