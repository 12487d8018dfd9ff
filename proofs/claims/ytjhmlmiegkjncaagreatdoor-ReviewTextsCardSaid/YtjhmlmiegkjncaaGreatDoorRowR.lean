/-
  ReviewTexts: the witness: the listed interface values are of their types.
-/
import Derived.Test.YtjhmlmiegkjncaaGreatDoorRowQ
set_option linter.all false

namespace Go.Proofs.YtjhmlmiegkjncaaGreatDoor
open Go.ChangeShapes Go.WideShapes Go.ChangeAt Go.RowKit Go.Clock
open Go.ChangeMaps (open_string shut_string)

theorem Rvw_faces (os : Os) : (World.holding Tryz.prog os ⟨#[], #[], []⟩).layIfaces Tryz.prog laidRvw (World.laidAll Tryz.prog os laidRvw) = true := by kernel_rfl
theorem Rvw_met (os : Os) (args : Array Value) : laidMetH Tryz.prog laidRvw ((World.laidAll Tryz.prog os laidRvw).forCall (fun _ _ => 0) ⟨#[], args, []⟩).memory := by
  rw [MakeChecks.laidMetH_plain _ _ _ Rvw_plain]
  exact laidMet_laidAll _ (Rvw_fits os) (Rvw_faces os)
end Go.Proofs.YtjhmlmiegkjncaaGreatDoor
