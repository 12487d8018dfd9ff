/-
  FallbackSides: which function of the translation the row speaks of.
-/
import Derived.Test.YtpapmpmjnhcheaaGreatDoorRows
import Derived.Clock
set_option linter.all false

namespace Go.Proofs.YtpapmpmjnhcheaaGreatDoor
theorem Sides_named : Tryz.prog.funcNamed Rows.fallbackSidesRow.func = some 3 := by kernel_rfl
end Go.Proofs.YtpapmpmjnhcheaaGreatDoor
