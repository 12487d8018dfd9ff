/-
  The row's cell on the variables that are named.
-/
import Derived.Test.YtlkfgnknkoeepaaGreatDoorRowL
set_option linter.all false

namespace Go.Proofs.YtlkfgnknkoeepaaGreatDoor
set_option maxRecDepth 100000
theorem Sds_varsNamed : (Rows.combineSidesRow.named == Tryz.prog.varsNamed 3) = true := by
  unfold Program.varsNamed
  rw [Sds_closure, List.flatMap_append, List.flatMap_append, List.flatMap_append, Sds_g0, Sds_g1, Sds_g2, Sds_g3]
  kernel_rfl
end Go.Proofs.YtlkfgnknkoeepaaGreatDoor
