/-
  The row's cell on the variables that are named.
-/
import Derived.Test.YtoelbcipkjppgaaGreatDoorRowL
import Derived.Test.YtoelbcipkjppgaaGreatDoorRowM
set_option linter.all false

namespace Go.Proofs.YtoelbcipkjppgaaGreatDoor
set_option maxRecDepth 100000
theorem Lm_varsNamed : (Rows.combineLimitsRow.named == Tryz.prog.varsNamed 3) = true := by
  unfold Program.varsNamed
  rw [Lm_closure, List.flatMap_append, List.flatMap_append, List.flatMap_append, Lm_g0, Lm_g1, Lm_g2, Lm_g3]
  kernel_rfl
end Go.Proofs.YtoelbcipkjppgaaGreatDoor
