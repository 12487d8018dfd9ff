/-
  RepoLimits: which function of the translation the row speaks of.
-/
import Derived.Test.YtjaaedbbmgjppaaGreatDoorRows
import Derived.Clock
set_option linter.all false

namespace Go.Proofs.YtjaaedbbmgjppaaGreatDoor
theorem Lim_named : Tryz.prog.funcNamed Rows.repoLimitsRow.func = some 3 := by kernel_rfl
end Go.Proofs.YtjaaedbbmgjppaaGreatDoor
