/-
  ReviewTexts: which function of the translation the row speaks of. ReviewTexts: the card's smaller facts. ReviewTexts: the card's cell on looks.
-/
import Derived.Test.YtjhmlmiegkjncaaGreatDoorRows
import Derived.Clock
import Derived.Test.YtjhmlmiegkjncaaGreatDoorCards
import Derived.SevenTiedAt
set_option linter.all false

namespace Go.Proofs.YtjhmlmiegkjncaaGreatDoor
theorem Rvw_named : Tryz.prog.funcNamed Rows.reviewTextsRow.func = some 3 := by kernel_rfl
end Go.Proofs.YtjhmlmiegkjncaaGreatDoor

namespace Go.Proofs.YtjhmlmiegkjncaaGreatDoor
theorem Rvw_wfText : Rows.reviewTextsRow.wfByText (OpenSpec.ofChange Rows.reviewTextsSpec) = true := by kernel_rfl
theorem Rvw_main : Tryz.prog.mainIs = some (true, ("9438fd6122016442cb4077950ad39bd5e9ed9dfbc06dc1f21b40a4bbeb565974" : String).toList) := by kernel_rfl
theorem Rvw_noStandIn : ([22].all fun u => !Tryz.prog.wantsStandIn u) = true := by kernel_rfl
end Go.Proofs.YtjhmlmiegkjncaaGreatDoor

namespace Go.Proofs.YtjhmlmiegkjncaaGreatDoor
theorem Rvw_looks : true = Tryz.prog.looks [] := by kernel_rfl
end Go.Proofs.YtjhmlmiegkjncaaGreatDoor
