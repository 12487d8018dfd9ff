/-
  The variables that these functions name.
-/
import Derived.Test.YtjaaedbbmgjppaaGreatDoorNoneK
set_option linter.all false

namespace Go.Proofs.YtjaaedbbmgjppaaGreatDoor
set_option maxRecDepth 100000
theorem None_g2 : None_c2.flatMap (fun g => ((Tryz.prog.funcs[g]?).bind (·.body)).elim [] Code.globalsNamed) = [] := by kernel_rfl
theorem None_g3 : None_c3.flatMap (fun g => ((Tryz.prog.funcs[g]?).bind (·.body)).elim [] Code.globalsNamed) = [] := by kernel_rfl
end Go.Proofs.YtjaaedbbmgjppaaGreatDoor
