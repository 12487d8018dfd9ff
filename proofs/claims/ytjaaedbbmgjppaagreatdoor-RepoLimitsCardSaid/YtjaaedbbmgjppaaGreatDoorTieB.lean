/-
  The listed variables are laid in their order by the laying function.
-/
import Derived.Test.YtjaaedbbmgjppaaGreatDoorTieA
set_option linter.all false

namespace Go.Proofs.YtjaaedbbmgjppaaGreatDoor
open Go

theorem tie_hn : varsNamedLaterB Tryz.prog (varsId Tryz.prog) tieL = true := by kernel_rfl

end Go.Proofs.YtjaaedbbmgjppaaGreatDoor
