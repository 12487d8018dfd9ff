/-
  The function 'awake', over the stages.
-/
import Derived.Test.YtpapmpmjnhcheaaGreatDoorStB
import Derived.Test.YtpapmpmjnhcheaaGreatDoorStC
import Derived.Test.YtpapmpmjnhcheaaGreatDoorStD
import Derived.Test.YtpapmpmjnhcheaaGreatDoorStE
import Derived.Test.YtpapmpmjnhcheaaGreatDoorStF
set_option linter.all false

namespace Go.Ev
open Go.Proofs
noncomputable def prims1 : Prims := fun f => match prims0 f with
  | some p => some p
  | none => bif Nat.beq f 6 then some (stagesPrim [stage7]) else bif Nat.beq f 17 then some (stagesPrim [stage6]) else bif Nat.beq f 20 then some (stagesPrim [stage0, stage1, stage2]) else bif Nat.beq f 22 then some (stagesPrim [stage5]) else bif Nat.beq f 23 then some (stagesPrim [stage3, stage4]) else none
set_option maxRecDepth 100000 in
theorem awake_true : isTrue (callF Tryz.prog prims1 200 4 [] (stOf pre0 26 1)) = true := by kernel_rfl
end Go.Ev
