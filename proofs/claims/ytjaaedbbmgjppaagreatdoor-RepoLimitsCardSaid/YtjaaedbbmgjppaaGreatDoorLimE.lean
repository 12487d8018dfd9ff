/-
  The row's cell on the variables that are named.
-/
import Derived.Test.YtjaaedbbmgjppaaGreatDoorLimL
set_option linter.all false

namespace Go.Proofs.YtjaaedbbmgjppaaGreatDoor
set_option maxRecDepth 100000
theorem Lim_varsNamed : (Rows.repoLimitsRow.named == Tryz.prog.varsNamed 3) = true := by
  unfold Program.varsNamed
  rw [Lim_closure, List.flatMap_append, List.flatMap_append, List.flatMap_append, Lim_g0, Lim_g1, Lim_g2, Lim_g3]
  kernel_rfl
end Go.Proofs.YtjaaedbbmgjppaaGreatDoor
