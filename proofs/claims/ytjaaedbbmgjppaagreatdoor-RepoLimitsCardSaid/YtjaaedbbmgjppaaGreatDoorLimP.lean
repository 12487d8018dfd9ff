/-
  The row's cell on the model's entries.
-/
import Derived.Test.YtjaaedbbmgjppaaGreatDoorLimK
set_option linter.all false

namespace Go.Proofs.YtjaaedbbmgjppaaGreatDoor
set_option maxRecDepth 100000
theorem Lim_inPlace : (Rows.repoLimitsRow.inPlace == Tryz.prog.inPlace 3) = true := by
  unfold Program.inPlace
  rw [Lim_closure]
  kernel_rfl
end Go.Proofs.YtjaaedbbmgjppaaGreatDoor
