/-
  RepoNone: the witness: the listed interface values are of their types.
-/
import Derived.Test.YtjaaedbbmgjppaaGreatDoorNoneQ
set_option linter.all false

namespace Go.Proofs.YtjaaedbbmgjppaaGreatDoor
open Go.ChangeShapes Go.WideShapes Go.ChangeAt Go.RowKit Go.Clock
open Go.ChangeMaps (open_string shut_string)

theorem None_faces (os : Os) : (World.holding Tryz.prog os ⟨#[], #[], []⟩).layIfaces Tryz.prog laidNone (World.laidAll Tryz.prog os laidNone) = true := by kernel_rfl
theorem None_met (os : Os) (args : Array Value) : laidMetH Tryz.prog laidNone ((World.laidAll Tryz.prog os laidNone).forCall (fun _ _ => 0) ⟨#[], args, []⟩).memory := by
  rw [MakeChecks.laidMetH_plain _ _ _ None_plain]
  exact laidMet_laidAll _ (None_fits os) (None_faces os)
end Go.Proofs.YtjaaedbbmgjppaaGreatDoor
