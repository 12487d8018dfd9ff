/-
  The row's cell on the variables that are named. The row's cell on the model's entries.
-/
import Derived.Test.YtjhmlmiegkjncaaGreatDoorRowL
import Derived.Test.YtjhmlmiegkjncaaGreatDoorRowK
set_option linter.all false

namespace Go.Proofs.YtjhmlmiegkjncaaGreatDoor
set_option maxRecDepth 100000
theorem Rvw_varsNamed : (Rows.reviewTextsRow.named == Tryz.prog.varsNamed 3) = true := by
  unfold Program.varsNamed
  rw [Rvw_closure, List.flatMap_append, List.flatMap_append, List.flatMap_append, Rvw_g0, Rvw_g1, Rvw_g2, Rvw_g3]
  kernel_rfl
end Go.Proofs.YtjhmlmiegkjncaaGreatDoor

namespace Go.Proofs.YtjhmlmiegkjncaaGreatDoor
set_option maxRecDepth 100000
theorem Rvw_inPlace : (Rows.reviewTextsRow.inPlace == Tryz.prog.inPlace 3) = true := by
  unfold Program.inPlace
  rw [Rvw_closure]
  kernel_rfl
end Go.Proofs.YtjhmlmiegkjncaaGreatDoor
