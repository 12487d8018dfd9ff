/-
  The row's cell on the variables that are named.
-/
import Derived.Test.YtjaaedbbmgjppaaGreatDoorNoneL
import Derived.Test.YtjaaedbbmgjppaaGreatDoorNoneM
set_option linter.all false

namespace Go.Proofs.YtjaaedbbmgjppaaGreatDoor
set_option maxRecDepth 100000
theorem None_varsNamed : (Rows.repoNoneRow.named == Tryz.prog.varsNamed 4) = true := by
  unfold Program.varsNamed
  rw [None_closure, List.flatMap_append, List.flatMap_append, List.flatMap_append, None_g0, None_g1, None_g2, None_g3]
  kernel_rfl
end Go.Proofs.YtjaaedbbmgjppaaGreatDoor
