/-
  The variables that these functions name.
-/
import Derived.Test.YtoelbcipkjppgaaGreatDoorRowK
set_option linter.all false

namespace Go.Proofs.YtoelbcipkjppgaaGreatDoor
set_option maxRecDepth 100000
theorem Lm_g2 : Lm_c2.flatMap (fun g => ((Tryz.prog.funcs[g]?).bind (·.body)).elim [] Code.globalsNamed) = [4, 4, 4] := by kernel_rfl
theorem Lm_g3 : Lm_c3.flatMap (fun g => ((Tryz.prog.funcs[g]?).bind (·.body)).elim [] Code.globalsNamed) = [] := by kernel_rfl
end Go.Proofs.YtoelbcipkjppgaaGreatDoor
