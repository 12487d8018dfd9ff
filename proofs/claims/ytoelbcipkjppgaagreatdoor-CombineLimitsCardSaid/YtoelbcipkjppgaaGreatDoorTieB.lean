/-
  The listed variables are laid in their order by the laying function.
-/
import Derived.Test.YtoelbcipkjppgaaGreatDoorTieA
namespace Go.Proofs.YtoelbcipkjppgaaGreatDoor
open Go
set_option maxRecDepth 100000

theorem tie_hn : varsNamedLaterB Tryz.prog (varsId Tryz.prog) tieL = true := by kernel_rfl

end Go.Proofs.YtoelbcipkjppgaaGreatDoor
