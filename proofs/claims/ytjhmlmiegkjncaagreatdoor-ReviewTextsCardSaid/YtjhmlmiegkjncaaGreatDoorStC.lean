/-
  What review.intents gives at the example's first two files. What review.hunks gives at the example's broken file.
-/
import Derived.Test.YtjhmlmiegkjncaaGreatDoorStB
import Derived.Test.YtjhmlmiegkjncaaGreatDoorStA
set_option linter.all false

namespace Go.Ev
open Go.Proofs
noncomputable def prims1 : Prims := fun f => match prims0 f with
  | some p => some p
  | none => bif Nat.beq f 52 then some (stagesPrim [stage0, stage1]) else none
noncomputable def intentsAB : Stage := ⟨15, [.agg [.str [97], .str [99, 111, 110, 115, 116, 32, 102, 32, 61, 32, 49, 59, 10], .str [99, 111, 110, 115, 116, 32, 103, 32, 61, 32, 49, 59, 10]]], 26, 1,
  pre0,
  .tup [.slice 5737 0 1 (.sy 129 1), .int .i64 (.ofNat 0)], 5738, 130,
  [(5735, .row [.str [45, 99, 111, 110, 115, 116, 32, 102, 32, 61, 32, 49, 59, 10], .str [43, 99, 111, 110, 115, 116, 32, 103, 32, 61, 32, 49, 59, 10]] true 128 1 10),
  (5737, .row [.str [97], .int .i64 (.ofNat 3), .str [], .str [102], .str [103], .int .i64 (.ofNat 1), .int .i64 (.ofNat 1), .slice 5735 0 2 (.sy 128 2)] true 129 8 29)]⟩
set_option maxRecDepth 100000 in
theorem intentsAB_ok : intentsAB.ok (callF Tryz.prog prims1 200 intentsAB.f intentsAB.args (stOf intentsAB.pre intentsAB.nx intentsAB.nk)) = true := by kernel_rfl
end Go.Ev

namespace Go.Ev
open Go.Proofs
noncomputable def hunksAC : Stage := ⟨16, [.agg [.str [97], .str [99, 111, 110, 115, 116, 32, 102, 32, 61, 32, 49, 59, 10], .str [99, 111, 110, 115, 116]]], 26, 1,
  pre0,
  .tup [.slice 151 0 1 (.sy 8 1), .int .i64 (.ofNat 0)], 152, 9,
  [(150, .row [.str [45, 99, 111, 110, 115, 116, 32, 102, 32, 61, 32, 49, 59, 10], .str [43, 99, 111, 110, 115, 116, 10]] true 7 1 10),
  (151, .row [.str [97], .int .i64 (.ofNat 0), .str [], .str [], .str [], .int .i64 (.ofNat 0), .int .i64 (.ofNat 0), .slice 150 0 2 (.sy 7 2)] true 8 8 29)]⟩
set_option maxRecDepth 100000 in
theorem hunksAC_ok : hunksAC.ok (callF Tryz.prog prims0 200 hunksAC.f hunksAC.args (stOf hunksAC.pre hunksAC.nx hunksAC.nk)) = true := by kernel_rfl
end Go.Ev
