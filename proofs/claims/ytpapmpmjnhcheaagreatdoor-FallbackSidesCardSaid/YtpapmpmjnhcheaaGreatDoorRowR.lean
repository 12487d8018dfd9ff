/-
  FallbackSides: the witness: the listed interface values are of their types.
-/
import Derived.Test.YtpapmpmjnhcheaaGreatDoorRowQ
set_option linter.all false

namespace Go.Proofs.YtpapmpmjnhcheaaGreatDoor
open Go.ChangeShapes Go.WideShapes Go.ChangeAt Go.RowKit Go.Clock
open Go.ChangeMaps (open_string shut_string)

theorem Sides_faces (os : Os) : (World.holding Tryz.prog os ⟨#[], #[], []⟩).layIfaces Tryz.prog laidSides (World.laidAll Tryz.prog os laidSides) = true := by kernel_rfl
theorem Sides_met (os : Os) (args : Array Value) : laidMetH Tryz.prog laidSides ((World.laidAll Tryz.prog os laidSides).forCall (fun _ _ => 0) ⟨#[], args, []⟩).memory := by
  rw [MakeChecks.laidMetH_plain _ _ _ Sides_plain]
  exact laidMet_laidAll _ (Sides_fits os) (Sides_faces os)
end Go.Proofs.YtpapmpmjnhcheaaGreatDoor
