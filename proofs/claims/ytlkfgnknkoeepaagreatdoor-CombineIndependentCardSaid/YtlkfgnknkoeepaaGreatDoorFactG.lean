/-
  The translation's types are laid out in order.
-/
import Derived.Test.YtlkfgnknkoeepaaGreatDoorFactA
import Derived.Test.YtlkfgnknkoeepaaGreatDoorFactC
set_option linter.all false

namespace Go.Proofs.YtlkfgnknkoeepaaGreatDoor
set_option maxRecDepth 100000
theorem fact_laidOut : laidOutB Tryz.prog = true := by
  unfold laidOutB
  rw [fact_globals, fact_params, fact_types, fact_range, List.all_append, List.all_append, fact_rows0, fact_rows1, fact_rows2]
  rfl
end Go.Proofs.YtlkfgnknkoeepaaGreatDoor
