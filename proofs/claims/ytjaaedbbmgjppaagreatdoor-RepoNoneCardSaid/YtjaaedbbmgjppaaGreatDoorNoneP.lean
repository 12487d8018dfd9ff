/-
  The row's cell on the model's entries.
-/
import Derived.Test.YtjaaedbbmgjppaaGreatDoorNoneK
set_option linter.all false

namespace Go.Proofs.YtjaaedbbmgjppaaGreatDoor
set_option maxRecDepth 100000
theorem None_inPlace : (Rows.repoNoneRow.inPlace == Tryz.prog.inPlace 4) = true := by
  unfold Program.inPlace
  rw [None_closure]
  kernel_rfl
end Go.Proofs.YtjaaedbbmgjppaaGreatDoor
