/-
  Part of the proof: Maps' types are in order.
-/
import Derived.Test.YtpdlpdkehminlaaGreatDoorRows
import Derived.Clock
set_option linter.all false
set_option maxRecDepth 100000
set_option maxHeartbeats 20000000
namespace Go.Proofs.YtpdlpdkehminlaaGreatDoor
set_option maxRecDepth 100000
theorem Sx:mapsRowed Tryz.prog=true:=by kernel_rfl
theorem RZ:Tryz.prog.stopsHeard=true:=by kernel_rfl
end Go.Proofs.YtpdlpdkehminlaaGreatDoor
