/-
  The listed variables hold what the row lists, by the text of the program: the tie of each row.
-/
import Derived.Test.YtoelbcipkjppgaaGreatDoorTieB
import Derived.Test.YtoelbcipkjppgaaGreatDoorTieC
import Derived.Test.YtoelbcipkjppgaaGreatDoorTieD
import Derived.Test.YtoelbcipkjppgaaGreatDoorTieE
namespace Go.Proofs.YtoelbcipkjppgaaGreatDoor
open Go
set_option maxRecDepth 100000

theorem noOwnUnsafe : Tryz.pinned.checked.prog.headLifts.contains "ownunsafe" = false := by kernel_rfl
theorem tie : Tryz.prog.laidByTextLater tieL [.sentinel, .sentinel, .data, .data, .data] true :=
  Program.laidByTextLater_by_run 400 8 tie_hw tie_hw' tie_hroot tie_hk tie_hg tie_hn tie_hd tie_h1 tie_h2
theorem combineLimits_row_tie : Rows.combineLimitsRow.laidByTextAt .later Tryz.pinned [.sentinel, .sentinel, .data, .data, .data] true :=
  OpenClaim.laidByTextAt_later rfl rfl tie noOwnUnsafe

end Go.Proofs.YtoelbcipkjppgaaGreatDoor
