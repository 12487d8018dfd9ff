/-
  The row's cell on the model's entries.
-/
import Derived.Test.YtlkfgnknkoeepaaGreatDoorRowK
set_option linter.all false

namespace Go.Proofs.YtlkfgnknkoeepaaGreatDoor
set_option maxRecDepth 100000
theorem Sds_inPlace : (Rows.combineSidesRow.inPlace == Tryz.prog.inPlace 3) = true := by
  unfold Program.inPlace
  rw [Sds_closure]
  kernel_rfl
end Go.Proofs.YtlkfgnknkoeepaaGreatDoor
