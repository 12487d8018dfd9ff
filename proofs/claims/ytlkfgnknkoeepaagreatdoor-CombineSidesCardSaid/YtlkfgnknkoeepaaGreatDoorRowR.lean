/-
  CombineSides: the witness: the listed interface values are of their types.
-/
import Derived.Test.YtlkfgnknkoeepaaGreatDoorRowQ
set_option linter.all false

namespace Go.Proofs.YtlkfgnknkoeepaaGreatDoor
open Go.ChangeShapes Go.WideShapes Go.ChangeAt Go.RowKit Go.Clock
open Go.ChangeMaps (open_string shut_string)

theorem Sds_faces (os : Os) : (World.holding Tryz.prog os ⟨#[], #[], []⟩).layIfaces Tryz.prog laidSds (World.laidAll Tryz.prog os laidSds) = true := by kernel_rfl
theorem Sds_met (os : Os) (args : Array Value) : laidMetH Tryz.prog laidSds ((World.laidAll Tryz.prog os laidSds).forCall (fun _ _ => 0) ⟨#[], args, []⟩).memory := by
  rw [MakeChecks.laidMetH_plain _ _ _ Sds_plain]
  exact laidMet_laidAll _ (Sds_fits os) (Sds_faces os)
end Go.Proofs.YtlkfgnknkoeepaaGreatDoor
