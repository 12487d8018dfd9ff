/-
  RepoLimits: the second loop's rounds from 225 to 300.
-/
import Derived.Test.YtjaaedbbmgjppaaGreatDoorLpA
set_option linter.all false

namespace Go.Ev
theorem f3p2 (es : List (CV × CV × Nat)) (clock : Nat) : lpFrom 75 225 (adv 225 tmL2 (startT es clock)) = List.replicate 76 (true, es, clock) := by kernel_rfl
end Go.Ev
