/-
  CombineIndependent: the witness: the listed interface values are of their types.
-/
import Derived.Test.YtlkfgnknkoeepaaGreatDoorIndQ
set_option linter.all false

namespace Go.Proofs.YtlkfgnknkoeepaaGreatDoor
open Go.ChangeShapes Go.WideShapes Go.ChangeAt Go.RowKit Go.Clock
open Go.ChangeMaps (open_string shut_string)

theorem Ind_faces (os : Os) : (World.holding Tryz.prog os ⟨#[], #[], []⟩).layIfaces Tryz.prog laidInd (World.laidAll Tryz.prog os laidInd) = true := by kernel_rfl
theorem Ind_met (os : Os) (args : Array Value) : laidMetH Tryz.prog laidInd ((World.laidAll Tryz.prog os laidInd).forCall (fun _ _ => 0) ⟨#[], args, []⟩).memory := by
  rw [MakeChecks.laidMetH_plain _ _ _ Ind_plain]
  exact laidMet_laidAll _ (Ind_fits os) (Ind_faces os)
end Go.Proofs.YtlkfgnknkoeepaaGreatDoor
