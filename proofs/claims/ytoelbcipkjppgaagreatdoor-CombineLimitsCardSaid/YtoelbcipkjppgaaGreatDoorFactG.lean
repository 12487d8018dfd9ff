/-
  The translation's types are laid out in order.
-/
import Derived.Test.YtoelbcipkjppgaaGreatDoorFactA
import Derived.Test.YtoelbcipkjppgaaGreatDoorFactB
import Derived.Test.YtoelbcipkjppgaaGreatDoorFactC
set_option linter.all false

namespace Go.Proofs.YtoelbcipkjppgaaGreatDoor
set_option maxRecDepth 100000
theorem fact_laidOut : laidOutB Tryz.prog = true := by
  unfold laidOutB
  rw [fact_globals, fact_params, fact_types, fact_range, List.all_append, List.all_append, fact_rows0, fact_rows1, fact_rows2]
  rfl
end Go.Proofs.YtoelbcipkjppgaaGreatDoor
