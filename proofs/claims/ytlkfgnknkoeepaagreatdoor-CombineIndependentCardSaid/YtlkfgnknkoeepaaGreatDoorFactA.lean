/-
  The translation's types are laid out in order: the first third. The translation's types are laid out in order: the second third.
-/
import Derived.Test.YtlkfgnknkoeepaaGreatDoorRows
import Derived.Clock
set_option linter.all false

namespace Go.Proofs.YtlkfgnknkoeepaaGreatDoor
set_option maxRecDepth 100000
theorem fact_rows0 : ((List.range' 0 154).all (rowFine Tryz.prog)) = true := by kernel_rfl
end Go.Proofs.YtlkfgnknkoeepaaGreatDoor

namespace Go.Proofs.YtlkfgnknkoeepaaGreatDoor
set_option maxRecDepth 100000
theorem fact_rows1 : ((List.range' 154 154).all (rowFine Tryz.prog)) = true := by kernel_rfl
end Go.Proofs.YtlkfgnknkoeepaaGreatDoor
