/-
  CombineSides: the card's smaller facts. CombineSides: the card's cell on looks.
-/
import Derived.Test.YtlkfgnknkoeepaaGreatDoorCards
import Derived.Clock
import Derived.SevenTiedAt
import Derived.Test.YtlkfgnknkoeepaaGreatDoorRows
set_option linter.all false

namespace Go.Proofs.YtlkfgnknkoeepaaGreatDoor
theorem Sds_wfText : Rows.combineSidesRow.wfByText (OpenSpec.ofChange Rows.combineSidesSpec) = true := by kernel_rfl
theorem Sds_main : Tryz.prog.mainIs = some (true, ("a13b7a715b8ee4a6361570343f13115ebd915bb51a992586aa32c6a2cf14b4bb" : String).toList) := by kernel_rfl
theorem Sds_noStandIn : ([22, 22].all fun u => !Tryz.prog.wantsStandIn u) = true := by kernel_rfl
end Go.Proofs.YtlkfgnknkoeepaaGreatDoor

namespace Go.Proofs.YtlkfgnknkoeepaaGreatDoor
theorem Sds_looks : true = Tryz.prog.looks [] := by kernel_rfl
end Go.Proofs.YtlkfgnknkoeepaaGreatDoor
