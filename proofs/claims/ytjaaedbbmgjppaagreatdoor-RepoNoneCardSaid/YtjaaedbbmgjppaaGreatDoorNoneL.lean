/-
  The variables that these functions name.
-/
import Derived.Test.YtjaaedbbmgjppaaGreatDoorNoneK
set_option linter.all false

namespace Go.Proofs.YtjaaedbbmgjppaaGreatDoor
set_option maxRecDepth 100000
theorem None_g0 : None_c0.flatMap (fun g => ((Tryz.prog.funcs[g]?).bind (·.body)).elim [] Code.globalsNamed) = [0, 0, 0, 0, 0, 0] := by kernel_rfl
theorem None_g1 : None_c1.flatMap (fun g => ((Tryz.prog.funcs[g]?).bind (·.body)).elim [] Code.globalsNamed) = [7, 8, 1, 5, 6, 3, 4, 2, 2, 2] := by kernel_rfl
end Go.Proofs.YtjaaedbbmgjppaaGreatDoor
