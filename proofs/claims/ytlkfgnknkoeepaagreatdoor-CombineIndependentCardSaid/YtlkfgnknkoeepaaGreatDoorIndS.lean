/-
  CombineIndependent: the witness: its world has the program's shape.
-/
import Derived.Test.YtlkfgnknkoeepaaGreatDoorIndQ
set_option linter.all false

namespace Go.Proofs.YtlkfgnknkoeepaaGreatDoor
open Go.ChangeShapes Go.WideShapes Go.ChangeAt Go.RowKit Go.Clock
open Go.ChangeMaps (open_string shut_string)

theorem Ind_zip (os : Os) : ((World.laidAll Tryz.prog os laidInd).forCall (fun _ _ => 0) ⟨#[], argsInd, []⟩).variablesZipB Tryz.prog = true := by kernel_rfl
end Go.Proofs.YtlkfgnknkoeepaaGreatDoor
