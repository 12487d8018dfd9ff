/-
  FallbackSides: the witness: the call fits.
-/
import Derived.Test.YtpapmpmjnhcheaaGreatDoorRowQ
set_option linter.all false

namespace Go.Proofs.YtpapmpmjnhcheaaGreatDoor
open Go.ChangeShapes Go.WideShapes Go.ChangeAt Go.RowKit Go.Clock
open Go.ChangeMaps (open_string shut_string)

section
variable {H : Type} (enc : TypeId × Value → H) (os : Os)
theorem Sides_wide : Input.okWideB Tryz.prog ((World.laidAll Tryz.prog os laidSides).forCall (fun _ _ => 0) ⟨#[], argsSides, []⟩) 3 ⟨#[], argsSides, []⟩ = true := by kernel_rfl
theorem Sides_pre : Rows.fallbackSidesSpec.preB enc Tryz.prog Tryz.f3 [] false ((World.laidAll Tryz.prog os laidSides).forCall (fun _ _ => 0) ⟨#[], argsSides, []⟩).memory argsSides 8 = true := by kernel_rfl
theorem Sides_size : Rows.fallbackSidesSpec.sizedB enc Tryz.prog Tryz.f3 false ((World.laidAll Tryz.prog os laidSides).forCall (fun _ _ => 0) ⟨#[], argsSides, []⟩).memory argsSides 8 = true := by kernel_rfl
end
end Go.Proofs.YtpapmpmjnhcheaaGreatDoor
