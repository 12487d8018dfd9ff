/-
  RepoNone: the card's cell on looks.
-/
import Derived.Test.YtjaaedbbmgjppaaGreatDoorRows
import Derived.Clock
import Derived.SevenTiedAt
set_option linter.all false

namespace Go.Proofs.YtjaaedbbmgjppaaGreatDoor
theorem None_looks : true = Tryz.prog.looks [] := by kernel_rfl
end Go.Proofs.YtjaaedbbmgjppaaGreatDoor
