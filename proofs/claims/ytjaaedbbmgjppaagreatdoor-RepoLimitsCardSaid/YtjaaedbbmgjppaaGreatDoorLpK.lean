/-
  RepoLimits: facts on its beginning and its loops.
-/
import Derived.Test.YtjaaedbbmgjppaaGreatDoorLpI
import Derived.Test.YtjaaedbbmgjppaaGreatDoorLpD
import Derived.Test.YtjaaedbbmgjppaaGreatDoorLpE
import Derived.Test.YtjaaedbbmgjppaaGreatDoorLpF
set_option linter.all false

namespace Go.Ev
open Go.Proofs Go.RowKit

theorem body3 : Tryz.f3.body = some c3 := by kernel_rfl
theorem ntmps3 : Tryz.f3.ntmps = nt3 := by kernel_rfl
theorem func3' : Tryz.prog.funcs[3]? = some Tryz.f3 := Tryz.func3

/-! The beginning. -/
noncomputable def tmA0 : Tm := layT .empty 0 [.opq 0, .opq 1]
theorem run0 : runN rounds (codeCC Tryz.prog nt3 cR0 .fin) cal tmA0 S0 = .normal (setT 4 (.bool false) tmA0) S0 := by kernel_rfl
theorem tmA0_0 : getT 0 (setT 4 (.bool false) tmA0) = some (.opq 0) := by kernel_rfl
theorem tmA0_1 : getT 1 (setT 4 (.bool false) tmA0) = some (.opq 1) := by kernel_rfl

noncomputable def ops1 : Array Oper := opsOf (sqL cS1)
noncomputable def cYes : Code := match sqR cS1 with
  | .cond _ a _ => a
  | c => c
theorem cS1_eq : cS1 = .seq (.region 1 ops1 false) (.cond (.tmp 17) cYes .skip) := by kernel_rfl
theorem size1 : ops1.size = 6 := by kernel_rfl
noncomputable def seg1 (i n : Nat) : List Oper := (ops1.toList.drop i).take n
theorem seg1_split (i n : Nat) : ops1.toList.drop i = seg1 i n ++ (ops1.toList.drop i).drop n := (List.take_append_drop n _).symm
theorem seg1_len0 : (seg1 0 2).length = 2 := by kernel_rfl
theorem seg1_len2 : (seg1 2 4).length = 4 := by kernel_rfl
noncomputable def tm01 : Tm := setT 1 (.opq 1) (setT 0 (.opq 0) .empty)
theorem seg1_free0 : freeB tm01 (seg1 0 2) = true := by kernel_rfl
theorem seg1_free2 : freeB tm01 (seg1 2 4) = true := by kernel_rfl
theorem tm01_0 : getT 0 tm01 = some (.opq 0) := by kernel_rfl
theorem tm01_1 : getT 1 tm01 = some (.opq 1) := by kernel_rfl
noncomputable def runS1a (k : Nat) : Option Tm := runQ Tryz.prog nt3 ops1.toList (seg1 0 2) (setT 0 (.int .u8 (.ofNat k)) .empty)
theorem runS1a_eq (k : Nat) : tget 13 (runS1a k) = some (.bool (Nat.blt 40 k)) := by kernel_rfl
noncomputable def runS1b (m : Nat) (b : Bool) : Option Tm := runQ Tryz.prog nt3 ops1.toList (seg1 2 4) (setT 1 (.int .u16 (.ofNat m)) (setT 13 (.bool b) .empty))
theorem runS1b_true (m : Nat) : tget 17 (runS1b m true) = some (.bool true) := by kernel_rfl
theorem runS1b_false (m : Nat) : tget 17 (runS1b m false) = some (.bool (Nat.blt 300 m)) := by kernel_rfl
noncomputable def retT (r : Res) : Option (Tm × St) := match r with
  | .ret tm S => some (tm, S)
  | _ => none
noncomputable def runYes : Res := runN rounds (codeCC Tryz.prog nt3 cYes .fin) cal .empty S0
noncomputable def yesT : Tm := match runYes with
  | .ret tm _ => tm
  | _ => .empty
noncomputable def yesS : St := match runYes with
  | .ret _ S => S
  | _ => S0
theorem runYes_eq : runYes = .ret yesT yesS := by kernel_rfl
theorem yesT4 : getT 4 yesT = some (.bool true) := by kernel_rfl

noncomputable def cR6 : Code := sqL cL1
noncomputable def runB : Res := runN rounds (codeCC Tryz.prog nt3 cR3 (codeCC Tryz.prog nt3 cS4 (codeCC Tryz.prog nt3 cR6 .fin))) cal tm01 S0
theorem runB_eq : runB = .normal (resT runB) SN := by kernel_rfl
theorem runB_0 : getT 0 (resT runB) = some (.opq 0) := by kernel_rfl
theorem runB_1 : getT 1 (resT runB) = some (.opq 1) := by kernel_rfl
theorem runB_5 : getT 5 (resT runB) = some (.ptr 10 0) := by kernel_rfl
theorem runB_7 : getT 7 (resT runB) = some (.int .i64 (.ofNat 0)) := by kernel_rfl

/-! The loops. -/
noncomputable def ops7 : Array Oper := opsOf (testOf (lpB cL1))
noncomputable def ops13 : Array Oper := opsOf (testOf (lpB cL2))
theorem cL1_eq : cL1 = .seq cR6 (.block 0 (.loop (.seq (.seq (.region 7 ops7 false) (.cond (.tmp 32) .skip (.exit 0))) (restOf (lpB cL1))))) := by kernel_rfl
noncomputable def cR12 : Code := sqL cL2
theorem cL2_eq : cL2 = .seq cR12 (.block 2 (.loop (.seq (.seq (.region 13 ops13 false) (.cond (.tmp 71) .skip (.exit 2))) (restOf (lpB cL2))))) := by kernel_rfl
theorem size7 : ops7.size = 4 := by kernel_rfl
theorem size13 : ops13.size = 4 := by kernel_rfl
noncomputable def run7 (i k : Nat) : Option Tm := runQ Tryz.prog nt3 ops7.toList ops7.toList (setT 0 (.int .u8 (.ofNat k)) (setT 7 (.int .i64 (.ofNat i)) .empty))
theorem run7_eq (i k : Nat) : tget 32 (run7 i k) = some (.bool (intLt (.ofNat i) (wr .i64 (.ofNat k)))) := by kernel_rfl
noncomputable def run13 (j m : Nat) : Option Tm := runQ Tryz.prog nt3 ops13.toList ops13.toList (setT 1 (.int .u16 (.ofNat m)) (setT 9 (.int .i64 (.ofNat j)) .empty))
theorem run13_eq (j m : Nat) : tget 71 (run13 j m) = some (.bool (intLt (.ofNat j) (wr .i64 (.ofNat m)))) := by kernel_rfl
noncomputable def dsts (l : List Oper) : List (Option Tmp) := l.map (·.dst)
theorem dsts7 : dsts ops7.toList = [some 29, some 30, some 31, some 32] := by kernel_rfl
theorem dsts13 : dsts ops13.toList = [some 68, some 69, some 70, some 71] := by kernel_rfl
noncomputable def tm015 : Tm := setT 5 (.ptr 10 0) tm01
theorem run12 (S : St) : runN rounds (codeCC Tryz.prog nt3 cR12 .fin) cal tm015 S = .normal (setT 9 (.int .i64 (.ofNat 0)) tm015) S := by kernel_rfl
theorem tmL2_eq : setT 9 (.int .i64 (.ofNat 0)) tm015 = tmL2 := by kernel_rfl
theorem op32 (b : Bool) : (opd Tryz.prog (.tmp 32)).eval (setT 32 (.bool b) .empty) = some (.bool b) := by kernel_rfl
theorem op71 (b : Bool) : (opd Tryz.prog (.tmp 71)).eval (setT 71 (.bool b) .empty) = some (.bool b) := by kernel_rfl
theorem op17 (b : Bool) : (opd Tryz.prog (.tmp 17)).eval (setT 17 (.bool b) .empty) = some (.bool b) := by kernel_rfl

end Go.Ev
