/-
  ReviewTexts: the witness: its world has the program's shape. ReviewTexts: the witness: its world begins as the program's does. ReviewTexts: the witness: the call fits.
-/
import Derived.Test.YtjhmlmiegkjncaaGreatDoorRowQ
set_option linter.all false

namespace Go.Proofs.YtjhmlmiegkjncaaGreatDoor
open Go.ChangeShapes Go.WideShapes Go.ChangeAt Go.RowKit Go.Clock
open Go.ChangeMaps (open_string shut_string)

theorem Rvw_zip (os : Os) : ((World.laidAll Tryz.prog os laidRvw).forCall (fun _ _ => 0) ⟨#[], argsRvw, []⟩).variablesZipB Tryz.prog = true := by kernel_rfl
end Go.Proofs.YtjhmlmiegkjncaaGreatDoor

namespace Go.Proofs.YtjhmlmiegkjncaaGreatDoor
open Go.ChangeShapes Go.WideShapes Go.ChangeAt Go.RowKit Go.Clock
open Go.ChangeMaps (open_string shut_string)

theorem Rvw_rest (os : Os) : (((World.laidAll Tryz.prog os laidRvw).forCall (fun _ _ => 0) ⟨#[], argsRvw, []⟩).heap.toList.drop Tryz.prog.globals.size).take ((begin Tryz.prog (fun _ _ => 0) default).world.heap.size - Tryz.prog.globals.size) =
      (begin Tryz.prog (fun _ _ => 0) default).world.heap.toList.drop Tryz.prog.globals.size := by kernel_rfl
end Go.Proofs.YtjhmlmiegkjncaaGreatDoor

namespace Go.Proofs.YtjhmlmiegkjncaaGreatDoor
open Go.ChangeShapes Go.WideShapes Go.ChangeAt Go.RowKit Go.Clock
open Go.ChangeMaps (open_string shut_string)

section
variable {H : Type} (enc : TypeId × Value → H) (os : Os)
theorem Rvw_wide : Input.okWideB Tryz.prog ((World.laidAll Tryz.prog os laidRvw).forCall (fun _ _ => 0) ⟨#[], argsRvw, []⟩) 3 ⟨#[], argsRvw, []⟩ = true := by kernel_rfl
theorem Rvw_pre : Rows.reviewTextsSpec.preB enc Tryz.prog Tryz.f3 [] false ((World.laidAll Tryz.prog os laidRvw).forCall (fun _ _ => 0) ⟨#[], argsRvw, []⟩).memory argsRvw 8 = true := by kernel_rfl
theorem Rvw_size : Rows.reviewTextsSpec.sizedB enc Tryz.prog Tryz.f3 false ((World.laidAll Tryz.prog os laidRvw).forCall (fun _ _ => 0) ⟨#[], argsRvw, []⟩).memory argsRvw 8 = true := by kernel_rfl
end
end Go.Proofs.YtjhmlmiegkjncaaGreatDoor
