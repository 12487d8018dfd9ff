/-
  A stage: newFile. A stage: newFile.
-/
import Derived.Test.YtjhmlmiegkjncaaGreatDoorStA
set_option linter.all false

namespace Go.Ev
open Go.Proofs
noncomputable def stage0 : Stage := ⟨52, [.agg [.int .i64 (.ofNat 1), .str [], .slice 645 0 1 (.sy 14 1), .slice 611 0 1 (.sy 13 1)]], 4260, 56,
  [(446, .row [.str [32]] true 0 0 0),
  (551, .row [.int .i64 (.ofNat 17), .str [49], .slice 446 0 1 (.ex 1), .nils] true 11 4 66),
  (601, .row [.str [], .str [32], .str [32], .str []] true 12 1 10),
  (611, .row [.int .i64 (.ofNat 9), .str [102], .slice 601 0 4 (.sy 12 4), .slice 551 0 1 (.sy 11 1)] true 13 4 66),
  (645, .row [.str [10]] true 14 1 10)],
  .ptr 4316 0, 4398, 63,
  [(446, .row [.str [32]] true 0 0 0),
  (551, .row [.int .i64 (.ofNat 17), .str [49], .slice 446 0 1 (.ex 1), .nils] true 11 4 66),
  (601, .row [.str [], .str [32], .str [32], .str []] true 12 1 10),
  (611, .row [.int .i64 (.ofNat 9), .str [102], .slice 601 0 4 (.sy 12 4), .slice 551 0 1 (.sy 11 1)] true 13 4 66),
  (645, .row [.str [10]] true 14 1 10),
  (4276, .row [.str [10]] true 0 0 0),
  (4278, .row [.int .i64 (.ofNat 1)] true 0 0 0),
  (4294, .row [.str [], .str [32], .str [32], .str []] true 0 0 0),
  (4296, .row [.int .i64 (.ofNat 2)] true 0 0 0),
  (4312, .row [.str [32]] true 0 0 0),
  (4313, .row [.int .i64 (.negSucc 0), .int .i64 (.ofNat 1), .str [], .slice 4276 0 1 (.ex 1), .slice 4278 0 1 (.ex 1), .int .i64 (.ofNat 0), .int .i64 (.ofNat 9), .str [102], .slice 4294 0 4 (.ex 4), .slice 4296 0 1 (.ex 1), .int .i64 (.ofNat 1), .int .i64 (.ofNat 17), .str [49], .slice 4312 0 1 (.ex 1), .nils] true 58 5 136),
  (4314, .map [(.int .i64 (.ofNat 1), .str [], 0)] 1),
  (4315, .map [] 0),
  (4316, .row [.slice 4313 0 3 (.sy 58 3), .slice 4362 0 3 (.sy 61 3), .slice 4386 0 1 (.sy 62 1), .map 4314, .map 4315] true 0 0 0),
  (4362, .row [.int .i64 (.ofNat 1), .str [], .slice 645 0 1 (.sy 14 1), .slice 611 0 1 (.sy 13 1), .int .i64 (.ofNat 9), .str [102], .slice 601 0 4 (.sy 12 4), .slice 551 0 1 (.sy 11 1), .int .i64 (.ofNat 17), .str [49], .slice 446 0 1 (.ex 1), .nils] true 61 4 66),
  (4386, .row [.int .i64 (.ofNat 1)] true 62 1 4)]⟩
set_option maxRecDepth 100000 in
theorem stage0_ok : stage0.ok (callF Tryz.prog primsT 200 stage0.f stage0.args (stOf stage0.pre stage0.nx stage0.nk)) = true := by kernel_rfl
end Go.Ev

namespace Go.Ev
open Go.Proofs
noncomputable def stage1 : Stage := ⟨52, [.agg [.int .i64 (.ofNat 1), .str [], .slice 1389 0 1 (.sy 30 1), .slice 1355 0 1 (.sy 29 1)]], 4398, 63,
  [(1190, .row [.str [32]] true 0 0 0),
  (1295, .row [.int .i64 (.ofNat 17), .str [49], .slice 1190 0 1 (.ex 1), .nils] true 27 4 66),
  (1345, .row [.str [], .str [32], .str [32], .str []] true 28 1 10),
  (1355, .row [.int .i64 (.ofNat 9), .str [103], .slice 1345 0 4 (.sy 28 4), .slice 1295 0 1 (.sy 27 1)] true 29 4 66),
  (1389, .row [.str [10]] true 30 1 10)],
  .ptr 4454 0, 4536, 70,
  [(1190, .row [.str [32]] true 0 0 0),
  (1295, .row [.int .i64 (.ofNat 17), .str [49], .slice 1190 0 1 (.ex 1), .nils] true 27 4 66),
  (1345, .row [.str [], .str [32], .str [32], .str []] true 28 1 10),
  (1355, .row [.int .i64 (.ofNat 9), .str [103], .slice 1345 0 4 (.sy 28 4), .slice 1295 0 1 (.sy 27 1)] true 29 4 66),
  (1389, .row [.str [10]] true 30 1 10),
  (4414, .row [.str [10]] true 0 0 0),
  (4416, .row [.int .i64 (.ofNat 1)] true 0 0 0),
  (4432, .row [.str [], .str [32], .str [32], .str []] true 0 0 0),
  (4434, .row [.int .i64 (.ofNat 2)] true 0 0 0),
  (4450, .row [.str [32]] true 0 0 0),
  (4451, .row [.int .i64 (.negSucc 0), .int .i64 (.ofNat 1), .str [], .slice 4414 0 1 (.ex 1), .slice 4416 0 1 (.ex 1), .int .i64 (.ofNat 0), .int .i64 (.ofNat 9), .str [103], .slice 4432 0 4 (.ex 4), .slice 4434 0 1 (.ex 1), .int .i64 (.ofNat 1), .int .i64 (.ofNat 17), .str [49], .slice 4450 0 1 (.ex 1), .nils] true 65 5 136),
  (4452, .map [(.int .i64 (.ofNat 1), .str [], 0)] 1),
  (4453, .map [] 0),
  (4454, .row [.slice 4451 0 3 (.sy 65 3), .slice 4500 0 3 (.sy 68 3), .slice 4524 0 1 (.sy 69 1), .map 4452, .map 4453] true 0 0 0),
  (4500, .row [.int .i64 (.ofNat 1), .str [], .slice 1389 0 1 (.sy 30 1), .slice 1355 0 1 (.sy 29 1), .int .i64 (.ofNat 9), .str [103], .slice 1345 0 4 (.sy 28 4), .slice 1295 0 1 (.sy 27 1), .int .i64 (.ofNat 17), .str [49], .slice 1190 0 1 (.ex 1), .nils] true 68 4 66),
  (4524, .row [.int .i64 (.ofNat 1)] true 69 1 4)]⟩
set_option maxRecDepth 100000 in
theorem stage1_ok : stage1.ok (callF Tryz.prog primsT 200 stage1.f stage1.args (stOf stage1.pre stage1.nx stage1.nk)) = true := by kernel_rfl
end Go.Ev
