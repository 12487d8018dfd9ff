/-
  RepoLimits: the witness: its world begins as the program's does.
-/
import Derived.Test.YtjaaedbbmgjppaaGreatDoorLimQ
set_option linter.all false

namespace Go.Proofs.YtjaaedbbmgjppaaGreatDoor
open Go.ChangeShapes Go.WideShapes Go.ChangeAt Go.RowKit Go.Clock
open Go.ChangeMaps (open_string shut_string)

theorem Lim_rest (os : Os) : (((World.laidAll Tryz.prog os laidLim).forCall (fun _ _ => 0) ⟨#[], argsLim, []⟩).heap.toList.drop Tryz.prog.globals.size).take ((begin Tryz.prog (fun _ _ => 0) default).world.heap.size - Tryz.prog.globals.size) =
      (begin Tryz.prog (fun _ _ => 0) default).world.heap.toList.drop Tryz.prog.globals.size := by kernel_rfl
end Go.Proofs.YtjaaedbbmgjppaaGreatDoor
