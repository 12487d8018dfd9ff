/-
  RepoNone: the witness: its world has the program's shape.
-/
import Derived.Test.YtjaaedbbmgjppaaGreatDoorNoneQ
set_option linter.all false

namespace Go.Proofs.YtjaaedbbmgjppaaGreatDoor
open Go.ChangeShapes Go.WideShapes Go.ChangeAt Go.RowKit Go.Clock
open Go.ChangeMaps (open_string shut_string)

theorem None_zip (os : Os) : ((World.laidAll Tryz.prog os laidNone).forCall (fun _ _ => 0) ⟨#[], argsNone, []⟩).variablesZipB Tryz.prog = true := by kernel_rfl
end Go.Proofs.YtjaaedbbmgjppaaGreatDoor
