/-
  The functions told by hand; the state with which the calls begin.
-/
import Derived.Test.YtjhmlmiegkjncaaGreatDoorProg
import Derived.Test.YtjhmlmiegkjncaaGreatDoorEvW
import Derived.Test.YtjhmlmiegkjncaaGreatDoorEvV
import Derived.KernelRfl
set_option linter.all false

namespace Go.Ev
open Go.Proofs

noncomputable section
def prims0 : Prims := fun f => bif Nat.beq f 286 then some indexBytePrim else bif Nat.beq f 174 then some countStringPrim else bif Nat.beq f 44 then some noEscapePrim else none
set_option maxRecDepth 100000
def cells0 : List CV := [.nils, .int .i64 (.ofNat 0), .int .i64 (.ofNat 0), .int .i64 (.ofNat 0), .nils, .int .i64 (.ofNat 0), .nils, .int .i64 (.ofNat 0), .int .i64 (.ofNat 1), .int .i64 (.ofNat 0), .nils, .int .i64 (.ofNat 1), .slice 7 0 3 (.ex 3), .int .i64 (.ofNat 0), .int .i64 (.ofNat 0), .int .i64 (.ofNat 1), .nils, .int .i64 (.ofNat 2), .nils, .int .i64 (.ofNat 4), .int .i64 (.ofNat 0), .int .i64 (.ofNat 0), .nils, .int .i64 (.ofNat 2), .slice 8 0 1 (.ex 1), .int .i64 (.ofNat 0), .int .i64 (.ofNat 0), .int .i64 (.ofNat 1), .nils, .int .i64 (.ofNat 1), .nils, .int .i64 (.ofNat 0), .int .i64 (.ofNat 0), .int .i64 (.ofNat 1), .nils, .int .i64 (.ofNat 1), .nils, .int .i64 (.ofNat 0), .int .i64 (.ofNat 2), .int .i64 (.ofNat 0), .nils, .int .i64 (.ofNat 2), .slice 9 0 1 (.ex 1), .int .i64 (.ofNat 2), .int .i64 (.ofNat 0), .int .i64 (.ofNat 1), .nils, .int .i64 (.ofNat 4), .nils, .int .i64 (.ofNat 0), .int .i64 (.ofNat 0), .int .i64 (.ofNat 2), .nils, .int .i64 (.ofNat 2), .slice 10 0 1 (.ex 1), .int .i64 (.ofNat 0), .int .i64 (.ofNat 0), .int .i64 (.ofNat 1), .nils, .int .i64 (.ofNat 4), .slice 11 0 1 (.ex 1), .int .i64 (.ofNat 0), .int .i64 (.ofNat 0), .int .i64 (.ofNat 1), .nils, .int .i64 (.ofNat 4), .slice 12 0 1 (.ex 1), .int .i64 (.ofNat 0), .int .i64 (.ofNat 0), .int .i64 (.ofNat 1), .nils, .int .i64 (.ofNat 3), .slice 13 0 1 (.ex 1), .int .i64 (.ofNat 0), .int .i64 (.ofNat 0), .int .i64 (.ofNat 0), .nils, .int .i64 (.ofNat 2), .slice 14 0 3 (.ex 3), .int .i64 (.ofNat 0), .int .i64 (.ofNat 0), .int .i64 (.ofNat 0), .nils, .int .i64 (.ofNat 1), .slice 15 0 1 (.ex 1), .int .i64 (.ofNat 0), .int .i64 (.ofNat 0), .int .i64 (.ofNat 0), .nils, .int .i64 (.ofNat 1), .slice 16 0 2 (.ex 2), .int .i64 (.ofNat 0), .int .i64 (.ofNat 0), .int .i64 (.ofNat 0), .nils, .int .i64 (.ofNat 1), .slice 17 0 1 (.ex 1), .int .i64 (.ofNat 0), .int .i64 (.ofNat 0), .int .i64 (.ofNat 0), .nils, .int .i64 (.ofNat 1), .nils, .int .i64 (.ofNat 0), .int .i64 (.ofNat 0), .int .i64 (.ofNat 3), .nils, .int .i64 (.ofNat 1), .nils, .int .i64 (.ofNat 0), .int .i64 (.ofNat 0), .int .i64 (.ofNat 4), .slice 18 0 2 (.ex 2), .int .i64 (.ofNat 1), .nils, .int .i64 (.ofNat 0), .int .i64 (.ofNat 0), .int .i64 (.ofNat 1), .nils, .int .i64 (.ofNat 1), .nils, .int .i64 (.ofNat 0), .int .i64 (.ofNat 3), .int .i64 (.ofNat 1), .nils, .int .i64 (.ofNat 3), .slice 19 0 1 (.ex 1), .int .i64 (.ofNat 0), .int .i64 (.ofNat 3), .int .i64 (.ofNat 1), .nils, .int .i64 (.ofNat 4), .nils, .int .i64 (.ofNat 0), .int .i64 (.ofNat 0), .int .i64 (.ofNat 1), .nils, .int .i64 (.ofNat 4), .nils, .int .i64 (.ofNat 0), .int .i64 (.ofNat 0), .int .i64 (.ofNat 4), .slice 20 0 1 (.ex 1), .int .i64 (.ofNat 1), .slice 21 0 2 (.ex 2), .int .i64 (.ofNat 0), .int .i64 (.ofNat 0), .int .i64 (.ofNat 4), .slice 22 0 8 (.ex 8), .int .i64 (.ofNat 1), .slice 23 0 1 (.ex 1), .int .i64 (.ofNat 0), .int .i64 (.ofNat 0), .int .i64 (.ofNat 4), .slice 24 0 2 (.ex 2), .int .i64 (.ofNat 1), .slice 25 0 1 (.ex 1), .int .i64 (.ofNat 0), .int .i64 (.ofNat 0), .int .i64 (.ofNat 0), .nils, .int .i64 (.ofNat 2)]
def rows0 : List (Nat × List CV) :=
  [(7, [.int .i64 (.ofNat 3), .int .i64 (.ofNat 0), .int .i64 (.ofNat 5), .int .i64 (.ofNat 0), .int .i64 (.ofNat 6), .int .i64 (.ofNat 0)]),
  (8, [.int .i64 (.ofNat 5), .int .i64 (.ofNat 0)]),
  (9, [.int .i64 (.ofNat 8), .int .i64 (.ofNat 0)]),
  (10, [.int .i64 (.ofNat 0), .int .i64 (.ofNat 3)]),
  (11, [.int .i64 (.ofNat 0), .int .i64 (.ofNat 3)]),
  (12, [.int .i64 (.ofNat 0), .int .i64 (.ofNat 3)]),
  (13, [.int .i64 (.ofNat 0), .int .i64 (.ofNat 3)]),
  (14, [.int .i64 (.ofNat 0), .int .i64 (.ofNat 3), .int .i64 (.ofNat 6), .int .i64 (.ofNat 0), .int .i64 (.ofNat 14), .int .i64 (.ofNat 0)]),
  (15, [.int .i64 (.ofNat 6), .int .i64 (.ofNat 0)]),
  (16, [.int .i64 (.ofNat 0), .int .i64 (.ofNat 3), .int .i64 (.ofNat 6), .int .i64 (.ofNat 0)]),
  (17, [.int .i64 (.ofNat 0), .int .i64 (.ofNat 3)]),
  (18, [.str [116, 114, 117, 101], .str [102, 97, 108, 115, 101]]),
  (19, [.int .i64 (.ofNat 0), .int .i64 (.ofNat 3)]),
  (20, [.str [115, 101, 108, 102]]),
  (21, [.int .i64 (.ofNat 0), .int .i64 (.ofNat 3), .int .i64 (.ofNat 0), .int .i64 (.ofNat 3)]),
  (22, [.str [124], .str [38], .str [61, 61], .str [60], .str [43], .str [45], .str [42], .str [47]]),
  (23, [.int .i64 (.ofNat 0), .int .i64 (.ofNat 3)]),
  (24, [.str [45], .str [33]]),
  (25, [.int .i64 (.ofNat 0), .int .i64 (.ofNat 3)])]
def pre0 : List (Nat × LObj) := initPre 1 cells0 rows0
/-- newFile's calls, with the function that tosses told by both its ways. -/
def primsT : Prims := fun g => bif Nat.beq g 91 then some (coinPrim Tryz.prog prims0 200 91 [1, 8] 5) else prims0 g
end
end Go.Ev
