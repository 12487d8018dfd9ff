/-
  ReviewTexts: the witness: the listed variables can be laid.
-/
import Derived.Test.YtjhmlmiegkjncaaGreatDoorRows
import Derived.WalkKit
import Derived.ProofKit
import Derived.OpenShut
import Derived.ShutString
import Derived.Clock
import Derived.OpenVars
import Derived.LaidMore
import Derived.Lay
import Derived.LaidOnce
import Derived.SevenTiedAt
set_option linter.all false

namespace Go.Proofs.YtjhmlmiegkjncaaGreatDoor
open Go.ChangeShapes Go.WideShapes Go.ChangeAt Go.RowKit Go.Clock
open Go.ChangeMaps (open_string shut_string)

abbrev laidRvw : List (String × DataW Unit) := Rows.reviewTextsRow.laid
abbrev argsRvw : Array Value := #[.slice none 0 0]
theorem Rvw_own : ownKnob Tryz.prog.godebug = none := by kernel_rfl
theorem Rvw_noInit : Tryz.prog.inits.idxOf? 3 = none := by kernel_rfl
theorem Rvw_fits (os : Os) : (World.holding Tryz.prog os ⟨#[], #[], []⟩).layFits Tryz.prog laidRvw [] = true := by kernel_rfl
theorem Rvw_plain : (laidRvw.all fun x => x.2.handleName?.isNone) = true := by kernel_rfl
end Go.Proofs.YtjhmlmiegkjncaaGreatDoor
