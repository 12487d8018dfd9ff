/-
  CombineIndependent: the witness: its world begins as the program's does.
-/
import Derived.Test.YtlkfgnknkoeepaaGreatDoorIndQ
set_option linter.all false

namespace Go.Proofs.YtlkfgnknkoeepaaGreatDoor
open Go.ChangeShapes Go.WideShapes Go.ChangeAt Go.RowKit Go.Clock
open Go.ChangeMaps (open_string shut_string)

theorem Ind_rest (os : Os) : (((World.laidAll Tryz.prog os laidInd).forCall (fun _ _ => 0) ⟨#[], argsInd, []⟩).heap.toList.drop Tryz.prog.globals.size).take ((begin Tryz.prog (fun _ _ => 0) default).world.heap.size - Tryz.prog.globals.size) =
      (begin Tryz.prog (fun _ _ => 0) default).world.heap.toList.drop Tryz.prog.globals.size := by kernel_rfl
end Go.Proofs.YtlkfgnknkoeepaaGreatDoor
