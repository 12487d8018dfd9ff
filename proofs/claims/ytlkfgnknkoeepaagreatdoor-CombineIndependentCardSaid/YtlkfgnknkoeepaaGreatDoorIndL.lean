/-
  The variables that these functions name. The variables that these functions name.
-/
import Derived.Test.YtlkfgnknkoeepaaGreatDoorIndK
set_option linter.all false

namespace Go.Proofs.YtlkfgnknkoeepaaGreatDoor
set_option maxRecDepth 100000
theorem Ind_g0 : Ind_c0.flatMap (fun g => ((Tryz.prog.funcs[g]?).bind (·.body)).elim [] Code.globalsNamed) = [5, 6, 0, 2, 3, 1, 1, 1, 1] := by kernel_rfl
theorem Ind_g1 : Ind_c1.flatMap (fun g => ((Tryz.prog.funcs[g]?).bind (·.body)).elim [] Code.globalsNamed) = [1, 1] := by kernel_rfl
end Go.Proofs.YtlkfgnknkoeepaaGreatDoor

namespace Go.Proofs.YtlkfgnknkoeepaaGreatDoor
set_option maxRecDepth 100000
theorem Ind_g2 : Ind_c2.flatMap (fun g => ((Tryz.prog.funcs[g]?).bind (·.body)).elim [] Code.globalsNamed) = [] := by kernel_rfl
theorem Ind_g3 : Ind_c3.flatMap (fun g => ((Tryz.prog.funcs[g]?).bind (·.body)).elim [] Code.globalsNamed) = [4, 4, 4] := by kernel_rfl
end Go.Proofs.YtlkfgnknkoeepaaGreatDoor
