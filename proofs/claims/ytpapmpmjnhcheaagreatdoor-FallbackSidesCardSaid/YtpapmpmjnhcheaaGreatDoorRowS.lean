/-
  FallbackSides: the witness: its world has the program's shape.
-/
import Derived.Test.YtpapmpmjnhcheaaGreatDoorRowQ
set_option linter.all false

namespace Go.Proofs.YtpapmpmjnhcheaaGreatDoor
open Go.ChangeShapes Go.WideShapes Go.ChangeAt Go.RowKit Go.Clock
open Go.ChangeMaps (open_string shut_string)

theorem Sides_zip (os : Os) : ((World.laidAll Tryz.prog os laidSides).forCall (fun _ _ => 0) ⟨#[], argsSides, []⟩).variablesZipB Tryz.prog = true := by kernel_rfl
end Go.Proofs.YtpapmpmjnhcheaaGreatDoor
