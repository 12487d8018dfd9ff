/-
  RepoNone: the witness: the listed variables can be laid.
-/
import Derived.Test.YtjaaedbbmgjppaaGreatDoorRows
import Derived.WalkKit
import Derived.ProofKit
import Derived.OpenShut
import Derived.ShutString
import Derived.Clock
import Derived.OpenVars
import Derived.LaidMore
import Derived.Lay
import Derived.LaidOnce
import Derived.SevenTiedAt
set_option linter.all false

namespace Go.Proofs.YtjaaedbbmgjppaaGreatDoor
open Go.ChangeShapes Go.WideShapes Go.ChangeAt Go.RowKit Go.Clock
open Go.ChangeMaps (open_string shut_string)

abbrev laidNone : List (String × DataW Unit) := Rows.repoNoneRow.laid
abbrev argsNone : Array Value := #[.string ByteArray.empty, .int .i64 0]
theorem None_own : ownKnob Tryz.prog.godebug = none := by kernel_rfl
theorem None_noInit : Tryz.prog.inits.idxOf? 4 = none := by kernel_rfl
theorem None_fits (os : Os) : (World.holding Tryz.prog os ⟨#[], #[], []⟩).layFits Tryz.prog laidNone [] = true := by kernel_rfl
theorem None_plain : (laidNone.all fun x => x.2.handleName?.isNone) = true := by kernel_rfl
end Go.Proofs.YtjaaedbbmgjppaaGreatDoor
