/-
  CombineIndependent: the witness: the call fits.
-/
import Derived.Test.YtlkfgnknkoeepaaGreatDoorIndQ
set_option linter.all false

namespace Go.Proofs.YtlkfgnknkoeepaaGreatDoor
open Go.ChangeShapes Go.WideShapes Go.ChangeAt Go.RowKit Go.Clock
open Go.ChangeMaps (open_string shut_string)

section
variable {H : Type} (enc : TypeId × Value → H) (os : Os)
theorem Ind_wide : Input.okWideB Tryz.prog ((World.laidAll Tryz.prog os laidInd).forCall (fun _ _ => 0) ⟨#[], argsInd, []⟩) 4 ⟨#[], argsInd, []⟩ = true := by kernel_rfl
theorem Ind_pre : Rows.combineIndependentSpec.preB enc Tryz.prog Tryz.f4 [] false ((World.laidAll Tryz.prog os laidInd).forCall (fun _ _ => 0) ⟨#[], argsInd, []⟩).memory argsInd 8 = true := by kernel_rfl
theorem Ind_size : Rows.combineIndependentSpec.sizedB enc Tryz.prog Tryz.f4 false ((World.laidAll Tryz.prog os laidInd).forCall (fun _ _ => 0) ⟨#[], argsInd, []⟩).memory argsInd 8 = true := by kernel_rfl
end
end Go.Proofs.YtlkfgnknkoeepaaGreatDoor
