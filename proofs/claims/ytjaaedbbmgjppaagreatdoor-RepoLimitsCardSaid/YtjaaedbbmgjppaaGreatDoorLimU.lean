/-
  RepoLimits: the witness: the call fits.
-/
import Derived.Test.YtjaaedbbmgjppaaGreatDoorLimQ
set_option linter.all false

namespace Go.Proofs.YtjaaedbbmgjppaaGreatDoor
open Go.ChangeShapes Go.WideShapes Go.ChangeAt Go.RowKit Go.Clock
open Go.ChangeMaps (open_string shut_string)

section
variable {H : Type} (enc : TypeId × Value → H) (os : Os)
theorem Lim_wide : Input.okWideB Tryz.prog ((World.laidAll Tryz.prog os laidLim).forCall (fun _ _ => 0) ⟨#[], argsLim, []⟩) 3 ⟨#[], argsLim, []⟩ = true := by kernel_rfl
theorem Lim_pre : Rows.repoLimitsSpec.preB enc Tryz.prog Tryz.f3 [] false ((World.laidAll Tryz.prog os laidLim).forCall (fun _ _ => 0) ⟨#[], argsLim, []⟩).memory argsLim 8 = true := by kernel_rfl
theorem Lim_size : Rows.repoLimitsSpec.sizedB enc Tryz.prog Tryz.f3 false ((World.laidAll Tryz.prog os laidLim).forCall (fun _ _ => 0) ⟨#[], argsLim, []⟩).memory argsLim 8 = true := by kernel_rfl
end
end Go.Proofs.YtjaaedbbmgjppaaGreatDoor
