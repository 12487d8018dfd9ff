/-
  The translation's types are laid out in order: the first third. The translation's types are laid out in order: the second third.
-/
import Derived.Test.YtpapmpmjnhcheaaGreatDoorRows
import Derived.Clock
set_option linter.all false

namespace Go.Proofs.YtpapmpmjnhcheaaGreatDoor
set_option maxRecDepth 100000
theorem fact_rows0 : ((List.range' 0 140).all (rowFine Tryz.prog)) = true := by kernel_rfl
end Go.Proofs.YtpapmpmjnhcheaaGreatDoor

namespace Go.Proofs.YtpapmpmjnhcheaaGreatDoor
set_option maxRecDepth 100000
theorem fact_rows1 : ((List.range' 140 140).all (rowFine Tryz.prog)) = true := by kernel_rfl
end Go.Proofs.YtpapmpmjnhcheaaGreatDoor
