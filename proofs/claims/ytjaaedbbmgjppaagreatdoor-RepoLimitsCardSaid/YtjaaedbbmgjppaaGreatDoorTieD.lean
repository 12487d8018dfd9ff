/-
  What the laying function leaves reads as listed: on every tape.
-/
import Derived.Test.YtjaaedbbmgjppaaGreatDoorTieA
set_option linter.all false

namespace Go.Proofs.YtjaaedbbmgjppaaGreatDoor
open Go

theorem tie_h1 : ∀ os tape, (DataW.laidRun Tryz.prog (varsWorld Tryz.prog 400 (varsId Tryz.prog) os tape).memory 8 (tieL.map (·.1))).map (·.1) = some tieL := fun _ _ => by kernel_rfl

end Go.Proofs.YtjaaedbbmgjppaaGreatDoor
