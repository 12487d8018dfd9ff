/-
  No function of the translation starts a goroutine: the second half.
-/
import Derived.Test.YtoelbcipkjppgaaGreatDoorRows
import Derived.Clock
import Derived.SevenTiedAt
set_option linter.all false

namespace Go.Proofs.YtoelbcipkjppgaaGreatDoor
theorem Lm_quiet1 : ((Tryz.prog.funcs.toList.drop 325).any Func.goes) = false := by kernel_rfl
end Go.Proofs.YtoelbcipkjppgaaGreatDoor
