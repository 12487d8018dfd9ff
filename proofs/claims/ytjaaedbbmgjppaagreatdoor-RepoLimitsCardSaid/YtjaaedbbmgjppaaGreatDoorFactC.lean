/-
  The translation's types are laid out in order: the last third, and the variables and parameters.
-/
import Derived.Test.YtjaaedbbmgjppaaGreatDoorRows
import Derived.Clock
set_option linter.all false

namespace Go.Proofs.YtjaaedbbmgjppaaGreatDoor
set_option maxRecDepth 100000
theorem fact_rows2 : ((List.range' 460 230).all (rowFine Tryz.prog)) = true := by kernel_rfl
theorem fact_types : Tryz.prog.types.size = 690 := by kernel_rfl
theorem fact_range : List.range 690 = List.range' 0 230 ++ (List.range' 230 230 ++ List.range' 460 230) := by kernel_rfl
theorem fact_globals : (Tryz.prog.globals.all fun g => decide (g.type < Tryz.prog.types.size)) = true := by kernel_rfl
theorem fact_params : (Tryz.prog.funcs.all fun f => f.params.all fun t => decide (t < Tryz.prog.types.size)) = true := by kernel_rfl
end Go.Proofs.YtjaaedbbmgjppaaGreatDoor
