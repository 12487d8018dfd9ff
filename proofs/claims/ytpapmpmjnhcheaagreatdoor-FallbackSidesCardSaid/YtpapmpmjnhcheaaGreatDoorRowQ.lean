/-
  FallbackSides: the witness: the listed variables can be laid.
-/
import Derived.Test.YtpapmpmjnhcheaaGreatDoorRows
import Derived.WalkKit
import Derived.ProofKit
import Derived.OpenShut
import Derived.ShutString
import Derived.Clock
import Derived.OpenVars
import Derived.LaidMore
import Derived.Lay
import Derived.LaidOnce
import Derived.SevenTiedAt
set_option linter.all false

namespace Go.Proofs.YtpapmpmjnhcheaaGreatDoor
open Go.ChangeShapes Go.WideShapes Go.ChangeAt Go.RowKit Go.Clock
open Go.ChangeMaps (open_string shut_string)

abbrev laidSides : List (String × DataW Unit) := Rows.fallbackSidesRow.laid
abbrev argsSides : Array Value := #[.string ByteArray.empty, .string ByteArray.empty]
theorem Sides_own : ownKnob Tryz.prog.godebug = none := by kernel_rfl
theorem Sides_noInit : Tryz.prog.inits.idxOf? 3 = none := by kernel_rfl
theorem Sides_fits (os : Os) : (World.holding Tryz.prog os ⟨#[], #[], []⟩).layFits Tryz.prog laidSides [] = true := by kernel_rfl
theorem Sides_plain : (laidSides.all fun x => x.2.handleName?.isNone) = true := by kernel_rfl
end Go.Proofs.YtpapmpmjnhcheaaGreatDoor
