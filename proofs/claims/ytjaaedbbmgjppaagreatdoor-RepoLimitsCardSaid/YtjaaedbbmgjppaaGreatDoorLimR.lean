/-
  RepoLimits: the witness: the listed interface values are of their types.
-/
import Derived.Test.YtjaaedbbmgjppaaGreatDoorLimQ
set_option linter.all false

namespace Go.Proofs.YtjaaedbbmgjppaaGreatDoor
open Go.ChangeShapes Go.WideShapes Go.ChangeAt Go.RowKit Go.Clock
open Go.ChangeMaps (open_string shut_string)

theorem Lim_faces (os : Os) : (World.holding Tryz.prog os ⟨#[], #[], []⟩).layIfaces Tryz.prog laidLim (World.laidAll Tryz.prog os laidLim) = true := by kernel_rfl
theorem Lim_met (os : Os) (args : Array Value) : laidMetH Tryz.prog laidLim ((World.laidAll Tryz.prog os laidLim).forCall (fun _ _ => 0) ⟨#[], args, []⟩).memory := by
  rw [MakeChecks.laidMetH_plain _ _ _ Lim_plain]
  exact laidMet_laidAll _ (Lim_fits os) (Lim_faces os)
end Go.Proofs.YtjaaedbbmgjppaaGreatDoor
