/-
  No function of the translation starts a goroutine: the second half.
-/
import Derived.Test.YtjaaedbbmgjppaaGreatDoorRows
import Derived.Clock
import Derived.SevenTiedAt
set_option linter.all false

namespace Go.Proofs.YtjaaedbbmgjppaaGreatDoor
theorem None_quiet1 : ((Tryz.prog.funcs.toList.drop 300).any Func.goes) = false := by kernel_rfl
end Go.Proofs.YtjaaedbbmgjppaaGreatDoor
