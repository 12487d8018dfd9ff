/-
  The row's cell on the variables that are named.
-/
import Derived.Test.YtpapmpmjnhcheaaGreatDoorRowL
set_option linter.all false

namespace Go.Proofs.YtpapmpmjnhcheaaGreatDoor
set_option maxRecDepth 100000
theorem Sides_varsNamed : (Rows.fallbackSidesRow.named == Tryz.prog.varsNamed 3) = true := by
  unfold Program.varsNamed
  rw [Sides_closure, List.flatMap_append, List.flatMap_append, List.flatMap_append, Sides_g0, Sides_g1, Sides_g2, Sides_g3]
  kernel_rfl
end Go.Proofs.YtpapmpmjnhcheaaGreatDoor
