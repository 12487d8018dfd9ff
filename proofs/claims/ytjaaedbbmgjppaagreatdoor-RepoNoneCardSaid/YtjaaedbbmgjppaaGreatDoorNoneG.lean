/-
  RepoNone: the card's smaller facts.
-/
import Derived.Test.YtjaaedbbmgjppaaGreatDoorCards
import Derived.Clock
import Derived.SevenTiedAt
set_option linter.all false

namespace Go.Proofs.YtjaaedbbmgjppaaGreatDoor
theorem None_wfText : Rows.repoNoneRow.wfByText (OpenSpec.ofChange Rows.repoNoneSpec) = true := by kernel_rfl
theorem None_main : Tryz.prog.mainIs = some (true, ("c2e77a9d7a468f7ed77e222a647116ab4e9982722a1560e37b79b312bc22b25f" : String).toList) := by kernel_rfl
theorem None_noStandIn : ([9, 3].all fun u => !Tryz.prog.wantsStandIn u) = true := by kernel_rfl
end Go.Proofs.YtjaaedbbmgjppaaGreatDoor
