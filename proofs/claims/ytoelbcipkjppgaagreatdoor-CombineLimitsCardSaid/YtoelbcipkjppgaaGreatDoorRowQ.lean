/-
  CombineLimits: the witness: the listed variables can be laid.
-/
import Derived.Test.YtoelbcipkjppgaaGreatDoorRows
import Derived.WalkKit
import Derived.ProofKit
import Derived.OpenShut
import Derived.ShutString
import Derived.Clock
import Derived.OpenVars
import Derived.LaidMore
import Derived.Lay
import Derived.LaidOnce
import Derived.SevenTiedAt
set_option linter.all false

namespace Go.Proofs.YtoelbcipkjppgaaGreatDoor
open Go.ChangeShapes Go.WideShapes Go.ChangeAt Go.RowKit Go.Clock
open Go.ChangeMaps (open_string shut_string)

abbrev laidLm : List (String × DataW Unit) := Rows.combineLimitsRow.laid
abbrev argsLm : Array Value := #[.int .u8 0, .int .u8 0, .int .u8 0]
theorem Lm_own : ownKnob Tryz.prog.godebug = none := by kernel_rfl
theorem Lm_noInit : Tryz.prog.inits.idxOf? 3 = none := by kernel_rfl
theorem Lm_fits (os : Os) : (World.holding Tryz.prog os ⟨#[], #[], []⟩).layFits Tryz.prog laidLm [] = true := by kernel_rfl
theorem Lm_plain : (laidLm.all fun x => x.2.handleName?.isNone) = true := by kernel_rfl
end Go.Proofs.YtoelbcipkjppgaaGreatDoor
