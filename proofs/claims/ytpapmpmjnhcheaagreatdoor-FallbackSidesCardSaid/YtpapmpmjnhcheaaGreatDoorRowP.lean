/-
  The row's cell on the model's entries.
-/
import Derived.Test.YtpapmpmjnhcheaaGreatDoorRowK
set_option linter.all false

namespace Go.Proofs.YtpapmpmjnhcheaaGreatDoor
set_option maxRecDepth 100000
theorem Sides_inPlace : (Rows.fallbackSidesRow.inPlace == Tryz.prog.inPlace 3) = true := by
  unfold Program.inPlace
  rw [Sides_closure]
  kernel_rfl
end Go.Proofs.YtpapmpmjnhcheaaGreatDoor
