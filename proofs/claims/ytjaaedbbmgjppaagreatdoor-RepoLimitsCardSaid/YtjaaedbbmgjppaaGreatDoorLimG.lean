/-
  RepoLimits: the card's smaller facts. RepoLimits: the card's cell on looks.
-/
import Derived.Test.YtjaaedbbmgjppaaGreatDoorCards
import Derived.Clock
import Derived.SevenTiedAt
import Derived.Test.YtjaaedbbmgjppaaGreatDoorRows
set_option linter.all false

namespace Go.Proofs.YtjaaedbbmgjppaaGreatDoor
theorem Lim_wfText : Rows.repoLimitsRow.wfByText (OpenSpec.ofChange Rows.repoLimitsSpec) = true := by kernel_rfl
theorem Lim_main : Tryz.prog.mainIs = some (true, ("c2e77a9d7a468f7ed77e222a647116ab4e9982722a1560e37b79b312bc22b25f" : String).toList) := by kernel_rfl
theorem Lim_noStandIn : ([5, 22].all fun u => !Tryz.prog.wantsStandIn u) = true := by kernel_rfl
end Go.Proofs.YtjaaedbbmgjppaaGreatDoor

namespace Go.Proofs.YtjaaedbbmgjppaaGreatDoor
theorem Lim_looks : true = Tryz.prog.looks [] := by kernel_rfl
end Go.Proofs.YtjaaedbbmgjppaaGreatDoor
