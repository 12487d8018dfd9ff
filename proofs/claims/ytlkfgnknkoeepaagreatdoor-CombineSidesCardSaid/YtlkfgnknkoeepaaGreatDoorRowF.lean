/-
  CombineSides: the row holds: whatever the two lists of files, the law returns true and leaves its arguments as they were.
-/
import Derived.Test.YtlkfgnknkoeepaaGreatDoorRowA
import Derived.Test.YtlkfgnknkoeepaaGreatDoorRowB
import Derived.Test.YtlkfgnknkoeepaaGreatDoorRowC
import Derived.Test.YtlkfgnknkoeepaaGreatDoorRowD
import Derived.Test.YtlkfgnknkoeepaaGreatDoorRowE
import Derived.Test.YtlkfgnknkoeepaaGreatDoorRowP
import Derived.Test.YtlkfgnknkoeepaaGreatDoorFactG
import Derived.Test.YtlkfgnknkoeepaaGreatDoorFactD
import Derived.Test.YtlkfgnknkoeepaaGreatDoorFactE
import Derived.Test.YtlkfgnknkoeepaaGreatDoorFactF
set_option linter.all false

namespace Go.Proofs.YtlkfgnknkoeepaaGreatDoor
open Go.ChangeShapes Go.WideShapes Go.ChangeAt Go.RowKit Go.Clock

theorem Sds_joined : joinedFacts Tryz.prog 3 Tryz.f3 Rows.combineSidesSpec Rows.combineSidesRow = true := by
  unfold joinedFacts
  rw [fact_laidOut, fact_maps, fact_heard, fact_enter, Sds_inPlace, Sds_unfollowed, Sds_recurses, Sds_varsNamed]
  kernel_rfl
theorem Sds_inst : Tryz.f3.isInstance Tryz.prog Rows.combineSidesRow.origin Rows.combineSidesRow.targs := of_decide_eq_true (by kernel_rfl)
theorem Sds_wrap : Tryz.f3.isWrapper Tryz.prog Rows.combineSidesRow.wrapper Rows.combineSidesRow.mainSum := by unfold Func.isWrapper; first | (rw [if_pos (by decide +kernel)]; kernel_rfl) | (rw [if_neg (by decide +kernel)]; exact ⟨rfl, rfl⟩)

theorem sides_holds : Rows.CombineSidesSaid :=
  OpenClaim.holds_of_wide 3 Tryz.f3 rfl rfl rfl rfl rfl rfl rfl ⟨rfl, rfl, rfl, rfl, rfl⟩ rfl rfl rfl rfl rfl Sds_named Tryz.func3 Sds_joined Sds_inst Sds_wrap
    (fun os started H enc _ => sides_lifted os started H enc)
end Go.Proofs.YtlkfgnknkoeepaaGreatDoor
