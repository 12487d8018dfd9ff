/-
  The row's cell on the variables that are named.
-/
import Derived.Test.YtlkfgnknkoeepaaGreatDoorIndL
set_option linter.all false

namespace Go.Proofs.YtlkfgnknkoeepaaGreatDoor
set_option maxRecDepth 100000
theorem Ind_varsNamed : (Rows.combineIndependentRow.named == Tryz.prog.varsNamed 4) = true := by
  unfold Program.varsNamed
  rw [Ind_closure, List.flatMap_append, List.flatMap_append, List.flatMap_append, Ind_g0, Ind_g1, Ind_g2, Ind_g3]
  kernel_rfl
end Go.Proofs.YtlkfgnknkoeepaaGreatDoor
