/-
  ReviewTexts: the row holds: whatever the list of views, the law returns true and leaves its argument as it was.
-/
import Derived.Test.YtjhmlmiegkjncaaGreatDoorRowA
import Derived.Test.YtjhmlmiegkjncaaGreatDoorRowB
import Derived.Test.YtjhmlmiegkjncaaGreatDoorRowC
import Derived.Test.YtjhmlmiegkjncaaGreatDoorRowD
import Derived.Test.YtjhmlmiegkjncaaGreatDoorRowE
import Derived.Test.YtjhmlmiegkjncaaGreatDoorFactC
import Derived.Test.YtjhmlmiegkjncaaGreatDoorFactD
import Derived.Test.YtjhmlmiegkjncaaGreatDoorFactF
set_option linter.all false

namespace Go.Proofs.YtjhmlmiegkjncaaGreatDoor
open Go.ChangeShapes Go.WideShapes Go.ChangeAt Go.RowKit Go.Clock

theorem Rvw_joined : joinedFacts Tryz.prog 3 Tryz.f3 Rows.reviewTextsSpec Rows.reviewTextsRow = true := by
  unfold joinedFacts
  rw [fact_laidOut, fact_maps, fact_heard, fact_enter, Rvw_inPlace, Rvw_unfollowed, Rvw_recurses, Rvw_varsNamed]
  kernel_rfl
theorem Rvw_inst : Tryz.f3.isInstance Tryz.prog Rows.reviewTextsRow.origin Rows.reviewTextsRow.targs := of_decide_eq_true (by kernel_rfl)
theorem Rvw_wrap : Tryz.f3.isWrapper Tryz.prog Rows.reviewTextsRow.wrapper Rows.reviewTextsRow.mainSum := by unfold Func.isWrapper; first | (rw [if_pos (by decide +kernel)]; kernel_rfl) | (rw [if_neg (by decide +kernel)]; exact ⟨rfl, rfl⟩)

theorem texts_holds : Rows.ReviewTextsSaid :=
  OpenClaim.holds_of_wide 3 Tryz.f3 rfl rfl rfl rfl rfl rfl rfl ⟨rfl, rfl, rfl, rfl, rfl⟩ rfl rfl rfl rfl rfl Rvw_named Tryz.func3 Rvw_joined Rvw_inst Rvw_wrap
    (fun os started H enc _ => texts_lifted os started H enc)
end Go.Proofs.YtjhmlmiegkjncaaGreatDoor
