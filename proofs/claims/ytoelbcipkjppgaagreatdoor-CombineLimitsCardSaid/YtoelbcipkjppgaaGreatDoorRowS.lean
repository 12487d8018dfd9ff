/-
  CombineLimits: the witness: its world has the program's shape.
-/
import Derived.Test.YtoelbcipkjppgaaGreatDoorRowQ
set_option linter.all false

namespace Go.Proofs.YtoelbcipkjppgaaGreatDoor
open Go.ChangeShapes Go.WideShapes Go.ChangeAt Go.RowKit Go.Clock
open Go.ChangeMaps (open_string shut_string)

theorem Lm_zip (os : Os) : ((World.laidAll Tryz.prog os laidLm).forCall (fun _ _ => 0) ⟨#[], argsLm, []⟩).variablesZipB Tryz.prog = true := by kernel_rfl
end Go.Proofs.YtoelbcipkjppgaaGreatDoor
