/-
  RepoLimits: the second loop's rounds from 0 to 130.
-/
import Derived.Test.YtjaaedbbmgjppaaGreatDoorLpA
set_option linter.all false

namespace Go.Ev
theorem f3p0 (es : List (CV × CV × Nat)) (clock : Nat) : lpFrom 130 0 (adv 0 tmL2 (startT es clock)) = List.replicate 131 (true, es, clock) := by kernel_rfl
end Go.Ev
