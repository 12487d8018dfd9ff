/-
  CombineLimits: the witness: its world begins as the program's does.
-/
import Derived.Test.YtoelbcipkjppgaaGreatDoorRowQ
set_option linter.all false

namespace Go.Proofs.YtoelbcipkjppgaaGreatDoor
open Go.ChangeShapes Go.WideShapes Go.ChangeAt Go.RowKit Go.Clock
open Go.ChangeMaps (open_string shut_string)

theorem Lm_rest (os : Os) : (((World.laidAll Tryz.prog os laidLm).forCall (fun _ _ => 0) ⟨#[], argsLm, []⟩).heap.toList.drop Tryz.prog.globals.size).take ((begin Tryz.prog (fun _ _ => 0) default).world.heap.size - Tryz.prog.globals.size) =
      (begin Tryz.prog (fun _ _ => 0) default).world.heap.toList.drop Tryz.prog.globals.size := by kernel_rfl
end Go.Proofs.YtoelbcipkjppgaaGreatDoor
