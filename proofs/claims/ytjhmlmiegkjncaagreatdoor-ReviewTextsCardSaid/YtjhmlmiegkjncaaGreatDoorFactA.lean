/-
  The translation's types are laid out in order: the first third. The translation's types are laid out in order: the second third.
-/
import Derived.Test.YtjhmlmiegkjncaaGreatDoorRows
import Derived.Clock
set_option linter.all false

namespace Go.Proofs.YtjhmlmiegkjncaaGreatDoor
set_option maxRecDepth 100000
theorem fact_rows0 : ((List.range' 0 125).all (rowFine Tryz.prog)) = true := by kernel_rfl
end Go.Proofs.YtjhmlmiegkjncaaGreatDoor

namespace Go.Proofs.YtjhmlmiegkjncaaGreatDoor
set_option maxRecDepth 100000
theorem fact_rows1 : ((List.range' 125 125).all (rowFine Tryz.prog)) = true := by kernel_rfl
end Go.Proofs.YtjhmlmiegkjncaaGreatDoor
