/-
  What the laying function leaves reads as listed: on every tape.
-/
import Derived.Test.YtoelbcipkjppgaaGreatDoorTieA
namespace Go.Proofs.YtoelbcipkjppgaaGreatDoor
open Go
set_option maxRecDepth 100000

theorem tie_h1 : ∀ os tape, (DataW.laidRun Tryz.prog (varsWorld Tryz.prog 400 (varsId Tryz.prog) os tape).memory 8 (tieL.map (·.1))).map (·.1) = some tieL := fun _ _ => by kernel_rfl

end Go.Proofs.YtoelbcipkjppgaaGreatDoor
