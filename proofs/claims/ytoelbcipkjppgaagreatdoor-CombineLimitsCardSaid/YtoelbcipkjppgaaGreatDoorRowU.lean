/-
  CombineLimits: the witness: the call fits.
-/
import Derived.Test.YtoelbcipkjppgaaGreatDoorRowQ
set_option linter.all false

namespace Go.Proofs.YtoelbcipkjppgaaGreatDoor
open Go.ChangeShapes Go.WideShapes Go.ChangeAt Go.RowKit Go.Clock
open Go.ChangeMaps (open_string shut_string)

section
variable {H : Type} (enc : TypeId × Value → H) (os : Os)
theorem Lm_wide : Input.okWideB Tryz.prog ((World.laidAll Tryz.prog os laidLm).forCall (fun _ _ => 0) ⟨#[], argsLm, []⟩) 3 ⟨#[], argsLm, []⟩ = true := by kernel_rfl
theorem Lm_pre : Rows.combineLimitsSpec.preB enc Tryz.prog Tryz.f3 [] false ((World.laidAll Tryz.prog os laidLm).forCall (fun _ _ => 0) ⟨#[], argsLm, []⟩).memory argsLm 8 = true := by kernel_rfl
theorem Lm_size : Rows.combineLimitsSpec.sizedB enc Tryz.prog Tryz.f3 false ((World.laidAll Tryz.prog os laidLm).forCall (fun _ _ => 0) ⟨#[], argsLm, []⟩).memory argsLm 8 = true := by kernel_rfl
end
end Go.Proofs.YtoelbcipkjppgaaGreatDoor
