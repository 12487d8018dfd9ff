/-
  The row's cell on the model's entries.
-/
import Derived.Test.YtlkfgnknkoeepaaGreatDoorIndK
set_option linter.all false

namespace Go.Proofs.YtlkfgnknkoeepaaGreatDoor
set_option maxRecDepth 100000
theorem Ind_inPlace : (Rows.combineIndependentRow.inPlace == Tryz.prog.inPlace 4) = true := by
  unfold Program.inPlace
  rw [Ind_closure]
  kernel_rfl
end Go.Proofs.YtlkfgnknkoeepaaGreatDoor
