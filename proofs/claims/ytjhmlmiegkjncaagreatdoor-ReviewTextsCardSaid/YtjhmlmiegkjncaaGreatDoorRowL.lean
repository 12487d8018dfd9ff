/-
  The variables that these functions name. The variables that these functions name.
-/
import Derived.Test.YtjhmlmiegkjncaaGreatDoorRowK
set_option linter.all false

namespace Go.Proofs.YtjhmlmiegkjncaaGreatDoor
set_option maxRecDepth 100000
theorem Rvw_g0 : Rvw_c0.flatMap (fun g => ((Tryz.prog.funcs[g]?).bind (·.body)).elim [] Code.globalsNamed) = [5, 6, 2, 3, 4] := by kernel_rfl
theorem Rvw_g1 : Rvw_c1.flatMap (fun g => ((Tryz.prog.funcs[g]?).bind (·.body)).elim [] Code.globalsNamed) = [1, 1, 1, 1, 1, 1] := by kernel_rfl
end Go.Proofs.YtjhmlmiegkjncaaGreatDoor

namespace Go.Proofs.YtjhmlmiegkjncaaGreatDoor
set_option maxRecDepth 100000
theorem Rvw_g2 : Rvw_c2.flatMap (fun g => ((Tryz.prog.funcs[g]?).bind (·.body)).elim [] Code.globalsNamed) = [] := by kernel_rfl
theorem Rvw_g3 : Rvw_c3.flatMap (fun g => ((Tryz.prog.funcs[g]?).bind (·.body)).elim [] Code.globalsNamed) = [0, 0, 0] := by kernel_rfl
end Go.Proofs.YtjhmlmiegkjncaaGreatDoor
