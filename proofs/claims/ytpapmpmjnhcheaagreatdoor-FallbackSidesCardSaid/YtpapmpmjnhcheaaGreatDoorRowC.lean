/-
  FallbackSides: the row's cell on calls through values.
-/
import Derived.Test.YtpapmpmjnhcheaaGreatDoorRows
import Derived.Clock
set_option linter.all false

namespace Go.Proofs.YtpapmpmjnhcheaaGreatDoor
theorem Sides_unfollowed : (Rows.fallbackSidesRow.unfollowed == Tryz.prog.unfollowed 3) = true := by kernel_rfl
end Go.Proofs.YtpapmpmjnhcheaaGreatDoor
