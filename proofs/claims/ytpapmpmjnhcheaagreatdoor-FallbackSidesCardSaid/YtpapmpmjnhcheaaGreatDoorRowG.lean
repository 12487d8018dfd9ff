/-
  FallbackSides: the card's smaller facts. FallbackSides: the card's cell on looks.
-/
import Derived.Test.YtpapmpmjnhcheaaGreatDoorCards
import Derived.Clock
import Derived.SevenTiedAt
import Derived.Test.YtpapmpmjnhcheaaGreatDoorRows
set_option linter.all false

namespace Go.Proofs.YtpapmpmjnhcheaaGreatDoor
theorem Sides_wfText : Rows.fallbackSidesRow.wfByText (OpenSpec.ofChange Rows.fallbackSidesSpec) = true := by kernel_rfl
theorem Sides_main : Tryz.prog.mainIs = some (true, ("172b5b3c5faaf6302ba701a36303900951c338db3938a0b027983daae103581d" : String).toList) := by kernel_rfl
theorem Sides_noStandIn : ([9, 9].all fun u => !Tryz.prog.wantsStandIn u) = true := by kernel_rfl
end Go.Proofs.YtpapmpmjnhcheaaGreatDoor

namespace Go.Proofs.YtpapmpmjnhcheaaGreatDoor
theorem Sides_looks : true = Tryz.prog.looks [] := by kernel_rfl
end Go.Proofs.YtpapmpmjnhcheaaGreatDoor
