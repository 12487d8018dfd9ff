/-
  CombineLimits: the card's smaller facts.
-/
import Derived.Test.YtoelbcipkjppgaaGreatDoorCards
import Derived.Clock
import Derived.SevenTiedAt
set_option linter.all false

namespace Go.Proofs.YtoelbcipkjppgaaGreatDoor
theorem Lm_wfText : Rows.combineLimitsRow.wfByText (OpenSpec.ofChange Rows.combineLimitsSpec) = true := by kernel_rfl
theorem Lm_main : Tryz.prog.mainIs = some (true, ("16411863653c22c4469e530611372951e98ad48c9a96c50d043de7d11e22f603" : String).toList) := by kernel_rfl
theorem Lm_noStandIn : ([5, 5, 5].all fun u => !Tryz.prog.wantsStandIn u) = true := by kernel_rfl
end Go.Proofs.YtoelbcipkjppgaaGreatDoor
