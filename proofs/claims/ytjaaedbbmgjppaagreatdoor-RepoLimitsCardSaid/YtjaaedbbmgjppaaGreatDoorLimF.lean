/-
  RepoLimits: the row holds: whatever the two numbers, the law returns true and leaves its arguments as they were.
-/
import Derived.Test.YtjaaedbbmgjppaaGreatDoorLimA
import Derived.Test.YtjaaedbbmgjppaaGreatDoorLimB
import Derived.Test.YtjaaedbbmgjppaaGreatDoorLimC
import Derived.Test.YtjaaedbbmgjppaaGreatDoorLimD
import Derived.Test.YtjaaedbbmgjppaaGreatDoorLimE
import Derived.Test.YtjaaedbbmgjppaaGreatDoorLimP
import Derived.Test.YtjaaedbbmgjppaaGreatDoorFactG
import Derived.Test.YtjaaedbbmgjppaaGreatDoorFactD
import Derived.Test.YtjaaedbbmgjppaaGreatDoorFactE
import Derived.Test.YtjaaedbbmgjppaaGreatDoorFactF
set_option linter.all false

namespace Go.Proofs.YtjaaedbbmgjppaaGreatDoor
open Go.ChangeShapes Go.WideShapes Go.ChangeAt Go.RowKit Go.Clock

theorem Lim_joined : joinedFacts Tryz.prog 3 Tryz.f3 Rows.repoLimitsSpec Rows.repoLimitsRow = true := by
  unfold joinedFacts
  rw [fact_laidOut, fact_maps, fact_heard, fact_enter, Lim_inPlace, Lim_unfollowed, Lim_recurses, Lim_varsNamed]
  kernel_rfl
theorem Lim_inst : Tryz.f3.isInstance Tryz.prog Rows.repoLimitsRow.origin Rows.repoLimitsRow.targs := of_decide_eq_true (by kernel_rfl)
theorem Lim_wrap : Tryz.f3.isWrapper Tryz.prog Rows.repoLimitsRow.wrapper Rows.repoLimitsRow.mainSum := by unfold Func.isWrapper; first | (rw [if_pos (by decide +kernel)]; kernel_rfl) | (rw [if_neg (by decide +kernel)]; exact ⟨rfl, rfl⟩)

theorem limits_holds : Rows.RepoLimitsSaid :=
  OpenClaim.holds_of_wide 3 Tryz.f3 rfl rfl rfl rfl rfl rfl rfl ⟨rfl, rfl, rfl, rfl, rfl⟩ rfl rfl rfl rfl rfl Lim_named Tryz.func3 Lim_joined Lim_inst Lim_wrap
    (fun os started H enc _ => limits_lifted os started H enc)
end Go.Proofs.YtjaaedbbmgjppaaGreatDoor
