/-
  The laying function comes to its end, and what it leaves reads as listed: on every tape.
-/
import Derived.Test.YtjaaedbbmgjppaaGreatDoorTieA
set_option linter.all false

namespace Go.Proofs.YtjaaedbbmgjppaaGreatDoor
open Go

theorem tie_hd : ∀ os tape, varsDone Tryz.prog 400 (varsId Tryz.prog) os tape = true := fun _ _ => by kernel_rfl

end Go.Proofs.YtjaaedbbmgjppaaGreatDoor
