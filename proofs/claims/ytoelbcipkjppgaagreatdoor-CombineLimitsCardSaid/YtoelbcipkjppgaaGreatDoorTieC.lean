/-
  The laying function comes to its end: on every tape.
-/
import Derived.Test.YtoelbcipkjppgaaGreatDoorTieA
namespace Go.Proofs.YtoelbcipkjppgaaGreatDoor
open Go
set_option maxRecDepth 100000

theorem tie_hd : ∀ os tape, varsDone Tryz.prog 400 (varsId Tryz.prog) os tape = true := fun _ _ => by kernel_rfl

end Go.Proofs.YtoelbcipkjppgaaGreatDoor
