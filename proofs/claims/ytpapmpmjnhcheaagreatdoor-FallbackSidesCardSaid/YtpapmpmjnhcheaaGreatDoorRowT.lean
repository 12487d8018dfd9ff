/-
  FallbackSides: the witness: its world begins as the program's does.
-/
import Derived.Test.YtpapmpmjnhcheaaGreatDoorRowQ
set_option linter.all false

namespace Go.Proofs.YtpapmpmjnhcheaaGreatDoor
open Go.ChangeShapes Go.WideShapes Go.ChangeAt Go.RowKit Go.Clock
open Go.ChangeMaps (open_string shut_string)

theorem Sides_rest (os : Os) : (((World.laidAll Tryz.prog os laidSides).forCall (fun _ _ => 0) ⟨#[], argsSides, []⟩).heap.toList.drop Tryz.prog.globals.size).take ((begin Tryz.prog (fun _ _ => 0) default).world.heap.size - Tryz.prog.globals.size) =
      (begin Tryz.prog (fun _ _ => 0) default).world.heap.toList.drop Tryz.prog.globals.size := by kernel_rfl
end Go.Proofs.YtpapmpmjnhcheaaGreatDoor
