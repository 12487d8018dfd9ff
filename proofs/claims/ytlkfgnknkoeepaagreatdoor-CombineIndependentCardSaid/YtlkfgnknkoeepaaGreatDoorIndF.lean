/-
  CombineIndependent: the row holds: whatever the three versions, the law returns true and leaves its argument as it was.
-/
import Derived.Test.YtlkfgnknkoeepaaGreatDoorIndA
import Derived.Test.YtlkfgnknkoeepaaGreatDoorIndB
import Derived.Test.YtlkfgnknkoeepaaGreatDoorIndC
import Derived.Test.YtlkfgnknkoeepaaGreatDoorIndD
import Derived.Test.YtlkfgnknkoeepaaGreatDoorIndE
import Derived.Test.YtlkfgnknkoeepaaGreatDoorIndP
import Derived.Test.YtlkfgnknkoeepaaGreatDoorFactG
import Derived.Test.YtlkfgnknkoeepaaGreatDoorFactD
import Derived.Test.YtlkfgnknkoeepaaGreatDoorFactE
import Derived.Test.YtlkfgnknkoeepaaGreatDoorFactF
set_option linter.all false

namespace Go.Proofs.YtlkfgnknkoeepaaGreatDoor
open Go.ChangeShapes Go.WideShapes Go.ChangeAt Go.RowKit Go.Clock

theorem Ind_joined : joinedFacts Tryz.prog 4 Tryz.f4 Rows.combineIndependentSpec Rows.combineIndependentRow = true := by
  unfold joinedFacts
  rw [fact_laidOut, fact_maps, fact_heard, fact_enter, Ind_inPlace, Ind_unfollowed, Ind_recurses, Ind_varsNamed]
  kernel_rfl
theorem Ind_inst : Tryz.f4.isInstance Tryz.prog Rows.combineIndependentRow.origin Rows.combineIndependentRow.targs := of_decide_eq_true (by kernel_rfl)
theorem Ind_wrap : Tryz.f4.isWrapper Tryz.prog Rows.combineIndependentRow.wrapper Rows.combineIndependentRow.mainSum := by unfold Func.isWrapper; first | (rw [if_pos (by decide +kernel)]; kernel_rfl) | (rw [if_neg (by decide +kernel)]; exact ⟨rfl, rfl⟩)

theorem indep_holds : Rows.CombineIndependentSaid :=
  OpenClaim.holds_of_wide 4 Tryz.f4 rfl rfl rfl rfl rfl rfl rfl ⟨rfl, rfl, rfl, rfl, rfl⟩ rfl rfl rfl rfl rfl Ind_named Tryz.func4 Ind_joined Ind_inst Ind_wrap
    (fun os started H enc _ => indep_lifted os started H enc)
end Go.Proofs.YtlkfgnknkoeepaaGreatDoor
