/-
  RepoNone: the witness: the call fits.
-/
import Derived.Test.YtjaaedbbmgjppaaGreatDoorNoneQ
set_option linter.all false

namespace Go.Proofs.YtjaaedbbmgjppaaGreatDoor
open Go.ChangeShapes Go.WideShapes Go.ChangeAt Go.RowKit Go.Clock
open Go.ChangeMaps (open_string shut_string)

section
variable {H : Type} (enc : TypeId × Value → H) (os : Os)
theorem None_wide : Input.okWideB Tryz.prog ((World.laidAll Tryz.prog os laidNone).forCall (fun _ _ => 0) ⟨#[], argsNone, []⟩) 4 ⟨#[], argsNone, []⟩ = true := by kernel_rfl
theorem None_pre : Rows.repoNoneSpec.preB enc Tryz.prog Tryz.f4 [] false ((World.laidAll Tryz.prog os laidNone).forCall (fun _ _ => 0) ⟨#[], argsNone, []⟩).memory argsNone 8 = true := by kernel_rfl
theorem None_size : Rows.repoNoneSpec.sizedB enc Tryz.prog Tryz.f4 false ((World.laidAll Tryz.prog os laidNone).forCall (fun _ _ => 0) ⟨#[], argsNone, []⟩).memory argsNone 8 = true := by kernel_rfl
end
end Go.Proofs.YtjaaedbbmgjppaaGreatDoor
