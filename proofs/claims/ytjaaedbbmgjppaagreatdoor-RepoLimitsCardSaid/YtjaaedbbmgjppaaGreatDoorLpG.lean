/-
  RepoLimits: Branches and All.
-/
import Derived.Test.YtjaaedbbmgjppaaGreatDoorLpA
set_option linter.all false

namespace Go.Ev
open Go.Proofs

noncomputable def row10x (x : CV) : CObj := .row (.node (some x) (.node (some (.map 9)) .leaf .leaf) .leaf) 0 2 true 0 0
noncomputable def stU (x y : CV) (k : Nat) : St :=
  ⟨(Tr.leaf.set big 9 (some (map9 y (esK k) (clockK k)))).set big 10 (some (row10x x)), 100000, 10000⟩
/-- The length of the slice that comes out. -/
noncomputable def lenIs (n : Nat) : CV → Bool
  | .slice _ 0 m _ => Nat.beq n m
  | _ => false
noncomputable def brOne (x y : CV) (k : Nat) : Bool × Option CObj × Option CObj :=
  match cal 9 [.ptr 10 0] (stU x y k) with
  | .ok v S => (lenIs (least (k + 1) 32) v, S.heap.get 10, S.heap.get 9)
  | .fail => (false, none, none)
noncomputable def brAll (x y : CV) : Nat → List (Bool × Option CObj × Option CObj)
  | 0 => []
  | k + 1 => brOne x y k :: brAll x y k
noncomputable def brExp (x y : CV) : Nat → List (Bool × Option CObj × Option CObj)
  | 0 => []
  | k + 1 => (true, some (row10x x), some (map9 y (esK k) (clockK k))) :: brExp x y k
theorem f4 (x y : CV) : brAll x y 41 = brExp x y 41 := by kernel_rfl

noncomputable def c10 : Code := bodyOf Tryz.f10
noncomputable def aLoop : Code := sqR (sqL (sqR (sqR (sqR c10))))
noncomputable def aBody : Code := inB (inB aLoop)
noncomputable def a5 : Code := sqL aBody
noncomputable def aRest : Code := sqR (sqR aBody)
noncomputable def aBlk : Code := inB (sqL aRest)
noncomputable def a6 : Code := sqL aBlk
noncomputable def a7 : Code := sqR aBlk
noncomputable def a8 : Code := sqR aRest
noncomputable def nt10 : Nat := 25

/-- The names that a round of All uses: its first block; its first capacity; what has been gathered. -/
noncomputable def bs (i : Nat) : Nat := Nat.add 20 (Nat.mul 16 i)
noncomputable def kb (i : Nat) : Nat := Nat.add 2 (Nat.mul 4 i)
noncomputable def ob (i : Nat) : Nat := match i with
  | 0 => 0
  | 1 => 25
  | j + 2 => Nat.add 43 (Nat.mul 16 j)
noncomputable def oi (i : Nat) : Nat := match i with
  | 0 => 0
  | 1 => 3
  | j + 2 => Nat.add 8 (Nat.mul 4 j)
noncomputable def rowP (y : CV) (k : Nat) : CObj := .row (.node (some y) .leaf .leaf) 0 1 true k 1
noncomputable def parCV (i : Nat) : CV := match i with
  | 0 => .nils
  | _ + 1 => .slice (bs i) 0 1 (.sy (kb i) 1)
noncomputable def outCV (i : Nat) : CV := match i with
  | 0 => .nils
  | j + 1 => .slice (ob (j + 1)) 0 (j + 1) (.sy (oi (j + 1)) (j + 1))
noncomputable def stA (y : CV) (oc : Tr CV) (i : Nat) : St := match i with
  | 0 => ⟨.leaf, bs 0 + 1, kb 0 + 1⟩
  | j + 1 => ⟨(Tr.leaf.set big (bs (j + 1)) (some (rowP y (kb (j + 1))))).set big (ob (j + 1)) (some (.row oc 0 (Nat.mul (j + 1) 5) true (oi (j + 1)) 5)), bs (j + 1) + 1, kb (j + 1) + 1⟩
noncomputable def tmA (n cap : Nat) (z s : CV) (i : Nat) : Tm :=
  setT 3 (outCV i) (setT 12 (.slice 11 0 n (.ex cap)) (setT 13 (.int .i64 (.ofNat n)) (setT 14 (.int .i64 (.ofNat i)) (setT 17 (.agg [z, parCV i, .nils, s, .nils]) .empty))))
noncomputable def outIs (i : Nat) (tm : Tm) (S : St) : Bool :=
  match getT 3 tm with
  | some (.slice b 0 m (.sy id m')) => Nat.beq m i && Nat.beq m' i && Nat.beq b (ob i) && Nat.beq id (oi i) && (match S.heap.get b with
    | some (.row _ 0 hi true id' 5) => Nat.beq hi (Nat.mul i 5) && Nat.beq id id'
    | _ => false)
  | _ => false
noncomputable def itRun (n cap : Nat) (z s y : CV) (oc : Tr CV) (i : Nat) : Res :=
  runC (opsCC Tryz.prog nt10 (opsOf a6).toList ((opsOf a6).toList.drop 2) (codeCC Tryz.prog nt10 a7 .fin)) cal (tmA n cap z s i) (stA y oc i)
noncomputable def itOne (n cap : Nat) (z s y : CV) (oc : Tr CV) (i : Nat) : Bool × Option CObj × Option CV × Option CV :=
  match itRun n cap z s y oc i with
  | .normal tm1 S1 => (match runC (codeCC Tryz.prog nt10 a8 .fin) cal tm1 S1 with
    | .normal tm2 S2 => (outIs (i + 1) tm2 S2 && isI .i64 (i + 1) (getT 14 tm2) && Nat.ble S2.next (bs (i + 1)) && Nat.ble S2.nk (kb (i + 1)), S2.heap.get (bs i), getT 12 tm2, getT 13 tm2)
    | _ => (false, none, none, none))
  | _ => (false, none, none, none)
noncomputable def itAll (n cap : Nat) (z s y : CV) (oc : Tr CV) : Nat → List (Bool × Option CObj × Option CV × Option CV)
  | 0 => []
  | i + 1 => itOne n cap z s y oc i :: itAll n cap z s y oc i
noncomputable def parObj (y : CV) (i : Nat) : Option CObj := match i with
  | 0 => none
  | j + 1 => some (rowP y (kb (j + 1)))
noncomputable def itExp (n cap : Nat) (y : CV) : Nat → List (Bool × Option CObj × Option CV × Option CV)
  | 0 => []
  | i + 1 => (true, parObj y i, some (.slice 11 0 n (.ex cap)), some (.int .i64 (.ofNat n))) :: itExp n cap y i
theorem shape10 : c10 = .seq (sqL c10) (.seq (sqL (sqR c10)) (.seq (sqL (sqR (sqR c10))) (.seq (.seq (sqL (sqL (sqR (sqR (sqR c10))))) (.block 0 (.loop (.seq a5 (.seq (sqL (sqR aBody)) (.seq (.block 1 (.seq a6 a7)) a8)))))) (sqR (sqR (sqR (sqR c10))))))) := by kernel_rfl
theorem f5 (n cap : Nat) (z y : Int) (s : List Nat) (oc : Tr CV) : itAll n cap (.int .i64 z) (.str s) (.int .i64 y) oc 256 = itExp n cap (.int .i64 y) 256 := by kernel_rfl
end Go.Ev
