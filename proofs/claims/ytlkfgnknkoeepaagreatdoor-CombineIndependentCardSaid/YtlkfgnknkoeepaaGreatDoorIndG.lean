/-
  CombineIndependent: the card's smaller facts. CombineIndependent: the card's cell on looks.
-/
import Derived.Test.YtlkfgnknkoeepaaGreatDoorCards
import Derived.Clock
import Derived.SevenTiedAt
import Derived.Test.YtlkfgnknkoeepaaGreatDoorRows
set_option linter.all false

namespace Go.Proofs.YtlkfgnknkoeepaaGreatDoor
theorem Ind_wfText : Rows.combineIndependentRow.wfByText (OpenSpec.ofChange Rows.combineIndependentSpec) = true := by kernel_rfl
theorem Ind_main : Tryz.prog.mainIs = some (true, ("a13b7a715b8ee4a6361570343f13115ebd915bb51a992586aa32c6a2cf14b4bb" : String).toList) := by kernel_rfl
theorem Ind_noStandIn : ([32].all fun u => !Tryz.prog.wantsStandIn u) = true := by kernel_rfl
end Go.Proofs.YtlkfgnknkoeepaaGreatDoor

namespace Go.Proofs.YtlkfgnknkoeepaaGreatDoor
theorem Ind_looks : true = Tryz.prog.looks [] := by kernel_rfl
end Go.Proofs.YtlkfgnknkoeepaaGreatDoor
