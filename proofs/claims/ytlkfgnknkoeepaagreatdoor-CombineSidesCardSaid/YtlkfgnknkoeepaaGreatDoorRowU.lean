/-
  CombineSides: the witness: the call fits.
-/
import Derived.Test.YtlkfgnknkoeepaaGreatDoorRowQ
set_option linter.all false

namespace Go.Proofs.YtlkfgnknkoeepaaGreatDoor
open Go.ChangeShapes Go.WideShapes Go.ChangeAt Go.RowKit Go.Clock
open Go.ChangeMaps (open_string shut_string)

section
variable {H : Type} (enc : TypeId × Value → H) (os : Os)
theorem Sds_wide : Input.okWideB Tryz.prog ((World.laidAll Tryz.prog os laidSds).forCall (fun _ _ => 0) ⟨#[], argsSds, []⟩) 3 ⟨#[], argsSds, []⟩ = true := by kernel_rfl
theorem Sds_pre : Rows.combineSidesSpec.preB enc Tryz.prog Tryz.f3 [] false ((World.laidAll Tryz.prog os laidSds).forCall (fun _ _ => 0) ⟨#[], argsSds, []⟩).memory argsSds 8 = true := by kernel_rfl
theorem Sds_size : Rows.combineSidesSpec.sizedB enc Tryz.prog Tryz.f3 false ((World.laidAll Tryz.prog os laidSds).forCall (fun _ _ => 0) ⟨#[], argsSds, []⟩).memory argsSds 8 = true := by kernel_rfl
end
end Go.Proofs.YtlkfgnknkoeepaaGreatDoor
