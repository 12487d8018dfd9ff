/-
  Part of the proof: The translation may be entered.
-/
import Derived.Test.YtpdlpdkehminlaaGreatDoorRows
import Derived.Clock
set_option linter.all false
set_option maxRecDepth 100000
set_option maxHeartbeats 20000000
namespace Go.Proofs.YtpdlpdkehminlaaGreatDoor
set_option maxRecDepth 100000
theorem Se:Tryz.prog.mayEnter=true:=by kernel_rfl
end Go.Proofs.YtpdlpdkehminlaaGreatDoor
