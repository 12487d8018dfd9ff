/-
  CombineLimits: the row holds: whatever the three numbers, the law returns true and leaves its arguments as they were.
-/
import Derived.Test.YtoelbcipkjppgaaGreatDoorRowA
import Derived.Test.YtoelbcipkjppgaaGreatDoorRowB
import Derived.Test.YtoelbcipkjppgaaGreatDoorRowC
import Derived.Test.YtoelbcipkjppgaaGreatDoorRowD
import Derived.Test.YtoelbcipkjppgaaGreatDoorRowE
import Derived.Test.YtoelbcipkjppgaaGreatDoorRowP
import Derived.Test.YtoelbcipkjppgaaGreatDoorFactG
import Derived.Test.YtoelbcipkjppgaaGreatDoorFactD
import Derived.Test.YtoelbcipkjppgaaGreatDoorFactE
import Derived.Test.YtoelbcipkjppgaaGreatDoorFactF
set_option linter.all false

namespace Go.Proofs.YtoelbcipkjppgaaGreatDoor
open Go.ChangeShapes Go.WideShapes Go.ChangeAt Go.RowKit Go.Clock

theorem Lm_joined : joinedFacts Tryz.prog 3 Tryz.f3 Rows.combineLimitsSpec Rows.combineLimitsRow = true := by
  unfold joinedFacts
  rw [fact_laidOut, fact_maps, fact_heard, fact_enter, Lm_inPlace, Lm_unfollowed, Lm_recurses, Lm_varsNamed]
  kernel_rfl
theorem Lm_inst : Tryz.f3.isInstance Tryz.prog Rows.combineLimitsRow.origin Rows.combineLimitsRow.targs := of_decide_eq_true (by kernel_rfl)
theorem Lm_wrap : Tryz.f3.isWrapper Tryz.prog Rows.combineLimitsRow.wrapper Rows.combineLimitsRow.mainSum := by unfold Func.isWrapper; first | (rw [if_pos (by decide +kernel)]; kernel_rfl) | (rw [if_neg (by decide +kernel)]; exact ⟨rfl, rfl⟩)

theorem limits_holds : Rows.CombineLimitsSaid :=
  OpenClaim.holds_of_wide 3 Tryz.f3 rfl rfl rfl rfl rfl rfl rfl ⟨rfl, rfl, rfl, rfl, rfl⟩ rfl rfl rfl rfl rfl Lm_named Tryz.func3 Lm_joined Lm_inst Lm_wrap
    (fun os started H enc _ => limits_lifted os started H enc)
end Go.Proofs.YtoelbcipkjppgaaGreatDoor
