/-
  RepoLimits: the witness: its world has the program's shape.
-/
import Derived.Test.YtjaaedbbmgjppaaGreatDoorLimQ
set_option linter.all false

namespace Go.Proofs.YtjaaedbbmgjppaaGreatDoor
open Go.ChangeShapes Go.WideShapes Go.ChangeAt Go.RowKit Go.Clock
open Go.ChangeMaps (open_string shut_string)

theorem Lim_zip (os : Os) : ((World.laidAll Tryz.prog os laidLim).forCall (fun _ _ => 0) ⟨#[], argsLim, []⟩).variablesZipB Tryz.prog = true := by kernel_rfl
end Go.Proofs.YtjaaedbbmgjppaaGreatDoor
