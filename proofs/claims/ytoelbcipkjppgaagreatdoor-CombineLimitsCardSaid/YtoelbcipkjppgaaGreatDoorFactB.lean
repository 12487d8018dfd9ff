/-
  The translation's types are laid out in order: the second third.
-/
import Derived.Test.YtoelbcipkjppgaaGreatDoorRows
import Derived.Clock
set_option linter.all false

namespace Go.Proofs.YtoelbcipkjppgaaGreatDoor
set_option maxRecDepth 100000
theorem fact_rows1 : ((List.range' 192 192).all (rowFine Tryz.prog)) = true := by kernel_rfl
end Go.Proofs.YtoelbcipkjppgaaGreatDoor
