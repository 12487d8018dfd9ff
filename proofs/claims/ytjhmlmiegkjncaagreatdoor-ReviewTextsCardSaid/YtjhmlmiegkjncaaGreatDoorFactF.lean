/-
  The translation may be entered.
-/
import Derived.Test.YtjhmlmiegkjncaaGreatDoorRows
import Derived.Clock
set_option linter.all false

namespace Go.Proofs.YtjhmlmiegkjncaaGreatDoor
set_option maxRecDepth 100000
theorem fact_enter : Tryz.prog.mayEnter = true := by kernel_rfl
end Go.Proofs.YtjhmlmiegkjncaaGreatDoor
