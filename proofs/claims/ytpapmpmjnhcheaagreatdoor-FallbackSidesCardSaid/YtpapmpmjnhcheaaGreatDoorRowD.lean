/-
  FallbackSides: the row's cell on recursion.
-/
import Derived.Test.YtpapmpmjnhcheaaGreatDoorRows
import Derived.Clock
set_option linter.all false

namespace Go.Proofs.YtpapmpmjnhcheaaGreatDoor
theorem Sides_recurses : (Rows.fallbackSidesRow.recurses == Tryz.prog.recurses 3) = true := by kernel_rfl
end Go.Proofs.YtpapmpmjnhcheaaGreatDoor
