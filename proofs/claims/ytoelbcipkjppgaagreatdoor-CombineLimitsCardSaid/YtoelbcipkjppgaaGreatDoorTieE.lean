/-
  What the laying function leaves lies in rows of its own: on every tape.
-/
import Derived.Test.YtoelbcipkjppgaaGreatDoorTieA
namespace Go.Proofs.YtoelbcipkjppgaaGreatDoor
open Go
set_option maxRecDepth 100000

theorem tie_h2 : ∀ os tape, (DataW.laidRun Tryz.prog (varsWorld Tryz.prog 400 (varsId Tryz.prog) os tape).memory 8 (tieL.map (·.1))).map (fun x => decide x.2.Nodup && laidRowsB Tryz.prog (varsWorld Tryz.prog 400 (varsId Tryz.prog) os tape).memory x.2) = some true := fun _ _ => by kernel_rfl

end Go.Proofs.YtoelbcipkjppgaaGreatDoor
