/-
  ReviewTexts: the row's cell on recursion.
-/
import Derived.Test.YtjhmlmiegkjncaaGreatDoorRows
import Derived.Clock
set_option linter.all false

namespace Go.Proofs.YtjhmlmiegkjncaaGreatDoor
theorem Rvw_recurses : (Rows.reviewTextsRow.recurses == Tryz.prog.recurses 3) = true := by kernel_rfl
end Go.Proofs.YtjhmlmiegkjncaaGreatDoor
