/-
  The variables that these functions name. The variables that these functions name.
-/
import Derived.Test.YtpapmpmjnhcheaaGreatDoorRowK
set_option linter.all false

namespace Go.Proofs.YtpapmpmjnhcheaaGreatDoor
set_option maxRecDepth 100000
theorem Sides_g0 : Sides_c0.flatMap (fun g => ((Tryz.prog.funcs[g]?).bind (·.body)).elim [] Code.globalsNamed) = [5, 6, 1, 3, 4, 0, 0, 0, 0, 0, 0] := by kernel_rfl
theorem Sides_g1 : Sides_c1.flatMap (fun g => ((Tryz.prog.funcs[g]?).bind (·.body)).elim [] Code.globalsNamed) = [] := by kernel_rfl
end Go.Proofs.YtpapmpmjnhcheaaGreatDoor

namespace Go.Proofs.YtpapmpmjnhcheaaGreatDoor
set_option maxRecDepth 100000
theorem Sides_g2 : Sides_c2.flatMap (fun g => ((Tryz.prog.funcs[g]?).bind (·.body)).elim [] Code.globalsNamed) = [] := by kernel_rfl
theorem Sides_g3 : Sides_c3.flatMap (fun g => ((Tryz.prog.funcs[g]?).bind (·.body)).elim [] Code.globalsNamed) = [2, 2, 2] := by kernel_rfl
end Go.Proofs.YtpapmpmjnhcheaaGreatDoor
