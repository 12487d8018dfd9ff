/-
  The translation's types are laid out in order: the last third, and the variables and parameters. The translation's types are laid out in order.
-/
import Derived.Test.YtjhmlmiegkjncaaGreatDoorRows
import Derived.Clock
import Derived.Test.YtjhmlmiegkjncaaGreatDoorFactA
set_option linter.all false

namespace Go.Proofs.YtjhmlmiegkjncaaGreatDoor
set_option maxRecDepth 100000
theorem fact_rows2 : ((List.range' 250 127).all (rowFine Tryz.prog)) = true := by kernel_rfl
theorem fact_types : Tryz.prog.types.size = 377 := by kernel_rfl
theorem fact_range : List.range 377 = List.range' 0 125 ++ (List.range' 125 125 ++ List.range' 250 127) := by kernel_rfl
theorem fact_globals : (Tryz.prog.globals.all fun g => decide (g.type < Tryz.prog.types.size)) = true := by kernel_rfl
theorem fact_params : (Tryz.prog.funcs.all fun f => f.params.all fun t => decide (t < Tryz.prog.types.size)) = true := by kernel_rfl
end Go.Proofs.YtjhmlmiegkjncaaGreatDoor

namespace Go.Proofs.YtjhmlmiegkjncaaGreatDoor
set_option maxRecDepth 100000
theorem fact_laidOut : laidOutB Tryz.prog = true := by
  unfold laidOutB
  rw [fact_globals, fact_params, fact_types, fact_range, List.all_append, List.all_append, fact_rows0, fact_rows1, fact_rows2]
  rfl
end Go.Proofs.YtjhmlmiegkjncaaGreatDoor
