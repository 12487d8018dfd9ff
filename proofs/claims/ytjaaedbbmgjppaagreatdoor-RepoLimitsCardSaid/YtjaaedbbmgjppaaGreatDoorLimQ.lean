/-
  RepoLimits: the witness: the listed variables can be laid.
-/
import Derived.Test.YtjaaedbbmgjppaaGreatDoorRows
import Derived.WalkKit
import Derived.ProofKit
import Derived.OpenShut
import Derived.ShutString
import Derived.Clock
import Derived.OpenVars
import Derived.LaidMore
import Derived.Lay
import Derived.LaidOnce
import Derived.SevenTiedAt
set_option linter.all false

namespace Go.Proofs.YtjaaedbbmgjppaaGreatDoor
open Go.ChangeShapes Go.WideShapes Go.ChangeAt Go.RowKit Go.Clock
open Go.ChangeMaps (open_string shut_string)

abbrev laidLim : List (String × DataW Unit) := Rows.repoLimitsRow.laid
abbrev argsLim : Array Value := #[.int .u8 0, .int .u16 0]
theorem Lim_own : ownKnob Tryz.prog.godebug = none := by kernel_rfl
theorem Lim_noInit : Tryz.prog.inits.idxOf? 3 = none := by kernel_rfl
theorem Lim_fits (os : Os) : (World.holding Tryz.prog os ⟨#[], #[], []⟩).layFits Tryz.prog laidLim [] = true := by kernel_rfl
theorem Lim_plain : (laidLim.all fun x => x.2.handleName?.isNone) = true := by kernel_rfl
end Go.Proofs.YtjaaedbbmgjppaaGreatDoor
