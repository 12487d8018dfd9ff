/-
  RepoNone: the row holds: whatever the two arguments, the law returns true and leaves its arguments as they were.
-/
import Derived.Test.YtjaaedbbmgjppaaGreatDoorNoneA
import Derived.Test.YtjaaedbbmgjppaaGreatDoorNoneB
import Derived.Test.YtjaaedbbmgjppaaGreatDoorNoneC
import Derived.Test.YtjaaedbbmgjppaaGreatDoorNoneD
import Derived.Test.YtjaaedbbmgjppaaGreatDoorNoneE
import Derived.Test.YtjaaedbbmgjppaaGreatDoorNoneP
import Derived.Test.YtjaaedbbmgjppaaGreatDoorFactG
import Derived.Test.YtjaaedbbmgjppaaGreatDoorFactD
import Derived.Test.YtjaaedbbmgjppaaGreatDoorFactE
import Derived.Test.YtjaaedbbmgjppaaGreatDoorFactF
set_option linter.all false

namespace Go.Proofs.YtjaaedbbmgjppaaGreatDoor
open Go.ChangeShapes Go.WideShapes Go.ChangeAt Go.RowKit Go.Clock

theorem None_joined : joinedFacts Tryz.prog 4 Tryz.f4 Rows.repoNoneSpec Rows.repoNoneRow = true := by
  unfold joinedFacts
  rw [fact_laidOut, fact_maps, fact_heard, fact_enter, None_inPlace, None_unfollowed, None_recurses, None_varsNamed]
  kernel_rfl
theorem None_inst : Tryz.f4.isInstance Tryz.prog Rows.repoNoneRow.origin Rows.repoNoneRow.targs := of_decide_eq_true (by kernel_rfl)
theorem None_wrap : Tryz.f4.isWrapper Tryz.prog Rows.repoNoneRow.wrapper Rows.repoNoneRow.mainSum := by unfold Func.isWrapper; first | (rw [if_pos (by decide +kernel)]; kernel_rfl) | (rw [if_neg (by decide +kernel)]; exact ⟨rfl, rfl⟩)

theorem none_holds : Rows.RepoNoneSaid :=
  OpenClaim.holds_of_wide 4 Tryz.f4 rfl rfl rfl rfl rfl rfl rfl ⟨rfl, rfl, rfl, rfl, rfl⟩ rfl rfl rfl rfl rfl None_named Tryz.func4 None_joined None_inst None_wrap
    (fun os started H enc _ => none_lifted os started H enc)
end Go.Proofs.YtjaaedbbmgjppaaGreatDoor
