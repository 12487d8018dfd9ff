/-
  The variables that these functions name. The variables that these functions name.
-/
import Derived.Test.YtjaaedbbmgjppaaGreatDoorLimK
set_option linter.all false

namespace Go.Proofs.YtjaaedbbmgjppaaGreatDoor
set_option maxRecDepth 100000
theorem Lim_g0 : Lim_c0.flatMap (fun g => ((Tryz.prog.funcs[g]?).bind (·.body)).elim [] Code.globalsNamed) = [0, 0, 0, 0, 0, 0] := by kernel_rfl
theorem Lim_g1 : Lim_c1.flatMap (fun g => ((Tryz.prog.funcs[g]?).bind (·.body)).elim [] Code.globalsNamed) = [7, 8, 1, 5, 6, 3, 4, 2, 2, 2] := by kernel_rfl
end Go.Proofs.YtjaaedbbmgjppaaGreatDoor

namespace Go.Proofs.YtjaaedbbmgjppaaGreatDoor
set_option maxRecDepth 100000
theorem Lim_g2 : Lim_c2.flatMap (fun g => ((Tryz.prog.funcs[g]?).bind (·.body)).elim [] Code.globalsNamed) = [] := by kernel_rfl
theorem Lim_g3 : Lim_c3.flatMap (fun g => ((Tryz.prog.funcs[g]?).bind (·.body)).elim [] Code.globalsNamed) = [] := by kernel_rfl
end Go.Proofs.YtjaaedbbmgjppaaGreatDoor
