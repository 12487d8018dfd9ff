/-
  Part of the proof: What a law's row asks behind the call, where what it reads takes no memory.
-/
import Derived.Test.YtpdlpdkehminlaaGreatDoorEvS
import Derived.ChangeSame
import Derived.Below
set_option linter.all false
set_option maxRecDepth 100000
set_option maxHeartbeats 20000000
namespace Go.Ev
open Go.ChangeShapes Go.WideShapes Go.RowKit
end Go.Ev
