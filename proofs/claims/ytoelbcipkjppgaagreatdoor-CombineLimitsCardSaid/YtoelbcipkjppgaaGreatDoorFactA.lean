/-
  The translation's types are laid out in order: the first third.
-/
import Derived.Test.YtoelbcipkjppgaaGreatDoorRows
import Derived.Clock
set_option linter.all false

namespace Go.Proofs.YtoelbcipkjppgaaGreatDoor
set_option maxRecDepth 100000
theorem fact_rows0 : ((List.range' 0 192).all (rowFine Tryz.prog)) = true := by kernel_rfl
end Go.Proofs.YtoelbcipkjppgaaGreatDoor
