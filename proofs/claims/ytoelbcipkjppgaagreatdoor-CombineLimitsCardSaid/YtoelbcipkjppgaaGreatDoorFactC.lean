/-
  The translation's types are laid out in order: the last third, and the variables and parameters.
-/
import Derived.Test.YtoelbcipkjppgaaGreatDoorRows
import Derived.Clock
set_option linter.all false

namespace Go.Proofs.YtoelbcipkjppgaaGreatDoor
set_option maxRecDepth 100000
theorem fact_rows2 : ((List.range' 384 194).all (rowFine Tryz.prog)) = true := by kernel_rfl
theorem fact_types : Tryz.prog.types.size = 578 := by kernel_rfl
theorem fact_range : List.range 578 = List.range' 0 192 ++ (List.range' 192 192 ++ List.range' 384 194) := by kernel_rfl
theorem fact_globals : (Tryz.prog.globals.all fun g => decide (g.type < Tryz.prog.types.size)) = true := by kernel_rfl
theorem fact_params : (Tryz.prog.funcs.all fun f => f.params.all fun t => decide (t < Tryz.prog.types.size)) = true := by kernel_rfl
end Go.Proofs.YtoelbcipkjppgaaGreatDoor
