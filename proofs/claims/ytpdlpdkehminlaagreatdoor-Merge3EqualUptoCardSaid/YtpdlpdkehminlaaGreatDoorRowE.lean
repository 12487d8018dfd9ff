/-
  Part of the proof: The row's cell on the variables that are named.
-/
import Derived.Test.YtpdlpdkehminlaaGreatDoorRowK
set_option linter.all false
set_option maxRecDepth 100000
set_option maxHeartbeats 20000000
open Go.Proofs.YtpdlpdkehminlaaGreatDoor.Rows renaming merge3EqualUptoRow->eA
open List renaming flatMap_append->zaJ
namespace Go.Proofs.YtpdlpdkehminlaaGreatDoor
set_option maxRecDepth 100000
theorem Nn:(eA.named==Tryz.prog.varsNamed 4)=true:=by unfold Program.varsNamed;rw[KZ,zaJ,zaJ,zaJ,XD,Xr,XF,Xw];kernel_rfl
theorem QK:(eA.inPlace==Tryz.prog.inPlace 4)=true:=by unfold Program.inPlace;rw[KZ];kernel_rfl
end Go.Proofs.YtpdlpdkehminlaaGreatDoor
