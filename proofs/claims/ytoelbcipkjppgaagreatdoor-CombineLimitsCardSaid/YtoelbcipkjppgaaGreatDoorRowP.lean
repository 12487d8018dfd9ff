/-
  The row's cell on the model's entries.
-/
import Derived.Test.YtoelbcipkjppgaaGreatDoorRowK
set_option linter.all false

namespace Go.Proofs.YtoelbcipkjppgaaGreatDoor
set_option maxRecDepth 100000
theorem Lm_inPlace : (Rows.combineLimitsRow.inPlace == Tryz.prog.inPlace 3) = true := by
  unfold Program.inPlace
  rw [Lm_closure]
  kernel_rfl
end Go.Proofs.YtoelbcipkjppgaaGreatDoor
