/-
  No function of the translation starts a goroutine: the first half. No function of the translation starts a goroutine: the second half. The card's cell on goroutines.
-/
import Derived.Test.YtlkfgnknkoeepaaGreatDoorRows
import Derived.Clock
import Derived.SevenTiedAt
import Derived.Test.YtlkfgnknkoeepaaGreatDoorIndB
set_option linter.all false

namespace Go.Proofs.YtlkfgnknkoeepaaGreatDoor
theorem Ind_quiet0 : ((Tryz.prog.funcs.toList.take 224).any Func.goes) = false := by kernel_rfl
end Go.Proofs.YtlkfgnknkoeepaaGreatDoor

namespace Go.Proofs.YtlkfgnknkoeepaaGreatDoor
theorem Ind_quiet1 : ((Tryz.prog.funcs.toList.drop 224).any Func.goes) = false := by kernel_rfl
end Go.Proofs.YtlkfgnknkoeepaaGreatDoor

namespace Go.Proofs.YtlkfgnknkoeepaaGreatDoor
theorem Ind_quietL : (Tryz.prog.funcs.toList.any Func.goes) = false := by
  rw [← List.take_append_drop 224 Tryz.prog.funcs.toList, List.any_append, Ind_quiet0, Ind_quiet1]
  rfl
theorem Ind_quietF (g : FuncId) : ((Tryz.prog.funcs[g]?).any Func.goes) = false := by
  cases h : Tryz.prog.funcs[g]? with
  | none => rfl
  | some fn =>
    have hm : fn ∈ Tryz.prog.funcs.toList := by
      have : Tryz.prog.funcs.toList[g]? = some fn := by simpa using h
      exact List.mem_of_getElem? this
    have := List.any_eq_false.1 Ind_quietL fn hm
    simpa using this
theorem Ind_quiet (f : FuncId) : Tryz.prog.goes f = false := by
  unfold Program.goes
  rw [Bool.or_eq_false_iff]
  refine ⟨List.any_eq_false.2 fun g _ => by rw [Ind_quietF g]; simp, ?_⟩
  rw [Bool.and_eq_false_iff]
  refine .inr ?_
  rw [← Array.any_toList]
  exact Ind_quietL
theorem Ind_start : Rows.combineIndependentRow.start = .entering := rfl
theorem Ind_goes : false = Rows.combineIndependentRow.goesBy Tryz.prog := by
  unfold OpenClaim.goesBy Program.goesAt Program.goesFrom
  rw [Ind_named, Ind_start, Option.any_some, Ind_quiet]
  rfl
end Go.Proofs.YtlkfgnknkoeepaaGreatDoor
