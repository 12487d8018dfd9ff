/-
  ReviewTexts: the row's cell on calls through values.
-/
import Derived.Test.YtjhmlmiegkjncaaGreatDoorRows
import Derived.Clock
set_option linter.all false

namespace Go.Proofs.YtjhmlmiegkjncaaGreatDoor
theorem Rvw_unfollowed : (Rows.reviewTextsRow.unfollowed == Tryz.prog.unfollowed 3) = true := by kernel_rfl
end Go.Proofs.YtjhmlmiegkjncaaGreatDoor
