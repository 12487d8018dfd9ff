/-
  CombineLimits: the witness: the listed interface values are of their types.
-/
import Derived.Test.YtoelbcipkjppgaaGreatDoorRowQ
set_option linter.all false

namespace Go.Proofs.YtoelbcipkjppgaaGreatDoor
open Go.ChangeShapes Go.WideShapes Go.ChangeAt Go.RowKit Go.Clock
open Go.ChangeMaps (open_string shut_string)

theorem Lm_faces (os : Os) : (World.holding Tryz.prog os ⟨#[], #[], []⟩).layIfaces Tryz.prog laidLm (World.laidAll Tryz.prog os laidLm) = true := by kernel_rfl
theorem Lm_met (os : Os) (args : Array Value) : laidMetH Tryz.prog laidLm ((World.laidAll Tryz.prog os laidLm).forCall (fun _ _ => 0) ⟨#[], args, []⟩).memory := by
  rw [MakeChecks.laidMetH_plain _ _ _ Lm_plain]
  exact laidMet_laidAll _ (Lm_fits os) (Lm_faces os)
end Go.Proofs.YtoelbcipkjppgaaGreatDoor
