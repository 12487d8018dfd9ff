/-
  CombineLimits: the card's cell on looks.
-/
import Derived.Test.YtoelbcipkjppgaaGreatDoorRows
import Derived.Clock
import Derived.SevenTiedAt
set_option linter.all false

namespace Go.Proofs.YtoelbcipkjppgaaGreatDoor
theorem Lm_looks : true = Tryz.prog.looks [] := by kernel_rfl
end Go.Proofs.YtoelbcipkjppgaaGreatDoor
