/-
  FallbackSides: the row holds: whatever the two texts, the law returns true and leaves its arguments as they were.
-/
import Derived.Test.YtpapmpmjnhcheaaGreatDoorRowA
import Derived.Test.YtpapmpmjnhcheaaGreatDoorRowB
import Derived.Test.YtpapmpmjnhcheaaGreatDoorRowC
import Derived.Test.YtpapmpmjnhcheaaGreatDoorRowD
import Derived.Test.YtpapmpmjnhcheaaGreatDoorRowE
import Derived.Test.YtpapmpmjnhcheaaGreatDoorRowP
import Derived.Test.YtpapmpmjnhcheaaGreatDoorFactG
import Derived.Test.YtpapmpmjnhcheaaGreatDoorFactD
import Derived.Test.YtpapmpmjnhcheaaGreatDoorFactE
import Derived.Test.YtpapmpmjnhcheaaGreatDoorFactF
set_option linter.all false

namespace Go.Proofs.YtpapmpmjnhcheaaGreatDoor
open Go.ChangeShapes Go.WideShapes Go.ChangeAt Go.RowKit Go.Clock

theorem Sides_joined : joinedFacts Tryz.prog 3 Tryz.f3 Rows.fallbackSidesSpec Rows.fallbackSidesRow = true := by
  unfold joinedFacts
  rw [fact_laidOut, fact_maps, fact_heard, fact_enter, Sides_inPlace, Sides_unfollowed, Sides_recurses, Sides_varsNamed]
  kernel_rfl
theorem Sides_inst : Tryz.f3.isInstance Tryz.prog Rows.fallbackSidesRow.origin Rows.fallbackSidesRow.targs := of_decide_eq_true (by kernel_rfl)
theorem Sides_wrap : Tryz.f3.isWrapper Tryz.prog Rows.fallbackSidesRow.wrapper Rows.fallbackSidesRow.mainSum := by unfold Func.isWrapper; first | (rw [if_pos (by decide +kernel)]; kernel_rfl) | (rw [if_neg (by decide +kernel)]; exact ⟨rfl, rfl⟩)

theorem sides_holds : Rows.FallbackSidesSaid :=
  OpenClaim.holds_of_wide 3 Tryz.f3 rfl rfl rfl rfl rfl rfl rfl ⟨rfl, rfl, rfl, rfl, rfl⟩ rfl rfl rfl rfl rfl Sides_named Tryz.func3 Sides_joined Sides_inst Sides_wrap
    (fun os started H enc _ => sides_lifted os started H enc)
end Go.Proofs.YtpapmpmjnhcheaaGreatDoor
