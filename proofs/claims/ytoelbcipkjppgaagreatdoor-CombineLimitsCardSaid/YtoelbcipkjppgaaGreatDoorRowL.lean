/-
  The variables that these functions name.
-/
import Derived.Test.YtoelbcipkjppgaaGreatDoorRowK
set_option linter.all false

namespace Go.Proofs.YtoelbcipkjppgaaGreatDoor
set_option maxRecDepth 100000
theorem Lm_g0 : Lm_c0.flatMap (fun g => ((Tryz.prog.funcs[g]?).bind (·.body)).elim [] Code.globalsNamed) = [5, 6, 0, 2, 3, 1, 1, 1, 1, 1, 1] := by kernel_rfl
theorem Lm_g1 : Lm_c1.flatMap (fun g => ((Tryz.prog.funcs[g]?).bind (·.body)).elim [] Code.globalsNamed) = [] := by kernel_rfl
end Go.Proofs.YtoelbcipkjppgaaGreatDoor
