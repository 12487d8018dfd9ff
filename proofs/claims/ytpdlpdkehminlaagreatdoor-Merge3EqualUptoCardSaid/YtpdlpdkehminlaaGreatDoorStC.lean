/-
  Part of the proof: The example run of the statements, in the kernel.
-/
import Derived.Test.YtpdlpdkehminlaaGreatDoorStA
set_option linter.all false
set_option maxRecDepth 100000
set_option maxHeartbeats 20000000
namespace Go.Ev
open Go.Proofs
theorem RH:TQ (Pe Tryz.prog VB 200 7 [] (SW VE 24 1))=true:=by kernel_rfl
end Go.Ev
