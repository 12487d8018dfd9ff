/-
  RepoLimits: the second loop's rounds from 130 to 225.
-/
import Derived.Test.YtjaaedbbmgjppaaGreatDoorLpA
set_option linter.all false

namespace Go.Ev
theorem f3p1 (es : List (CV × CV × Nat)) (clock : Nat) : lpFrom 95 130 (adv 130 tmL2 (startT es clock)) = List.replicate 96 (true, es, clock) := by kernel_rfl
end Go.Ev
