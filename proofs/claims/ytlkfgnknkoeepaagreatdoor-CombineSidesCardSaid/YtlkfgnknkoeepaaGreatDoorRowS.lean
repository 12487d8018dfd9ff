/-
  CombineSides: the witness: its world has the program's shape.
-/
import Derived.Test.YtlkfgnknkoeepaaGreatDoorRowQ
set_option linter.all false

namespace Go.Proofs.YtlkfgnknkoeepaaGreatDoor
open Go.ChangeShapes Go.WideShapes Go.ChangeAt Go.RowKit Go.Clock
open Go.ChangeMaps (open_string shut_string)

theorem Sds_zip (os : Os) : ((World.laidAll Tryz.prog os laidSds).forCall (fun _ _ => 0) ⟨#[], argsSds, []⟩).variablesZipB Tryz.prog = true := by kernel_rfl
end Go.Proofs.YtlkfgnknkoeepaaGreatDoor
