/-
  CombineIndependent: the witness: the listed variables can be laid.
-/
import Derived.Test.YtlkfgnknkoeepaaGreatDoorRows
import Derived.WalkKit
import Derived.ProofKit
import Derived.OpenShut
import Derived.ShutString
import Derived.Clock
import Derived.OpenVars
import Derived.LaidMore
import Derived.Lay
import Derived.LaidOnce
import Derived.SevenTiedAt
set_option linter.all false

namespace Go.Proofs.YtlkfgnknkoeepaaGreatDoor
open Go.ChangeShapes Go.WideShapes Go.ChangeAt Go.RowKit Go.Clock
open Go.ChangeMaps (open_string shut_string)

abbrev laidInd : List (String × DataW Unit) := Rows.combineIndependentRow.laid
abbrev argsInd : Array Value := #[.agg #[.slice none 0 0, .slice none 0 0, .slice none 0 0]]
theorem Ind_own : ownKnob Tryz.prog.godebug = none := by kernel_rfl
theorem Ind_noInit : Tryz.prog.inits.idxOf? 4 = none := by kernel_rfl
theorem Ind_fits (os : Os) : (World.holding Tryz.prog os ⟨#[], #[], []⟩).layFits Tryz.prog laidInd [] = true := by kernel_rfl
theorem Ind_plain : (laidInd.all fun x => x.2.handleName?.isNone) = true := by kernel_rfl
end Go.Proofs.YtlkfgnknkoeepaaGreatDoor
