/-
  No function of the translation starts a goroutine: the first half. No function of the translation starts a goroutine: the second half. The card's cell on goroutines.
-/
import Derived.Test.YtlkfgnknkoeepaaGreatDoorRows
import Derived.Clock
import Derived.SevenTiedAt
import Derived.Test.YtlkfgnknkoeepaaGreatDoorRowB
set_option linter.all false

namespace Go.Proofs.YtlkfgnknkoeepaaGreatDoor
theorem Sds_quiet0 : ((Tryz.prog.funcs.toList.take 224).any Func.goes) = false := by kernel_rfl
end Go.Proofs.YtlkfgnknkoeepaaGreatDoor

namespace Go.Proofs.YtlkfgnknkoeepaaGreatDoor
theorem Sds_quiet1 : ((Tryz.prog.funcs.toList.drop 224).any Func.goes) = false := by kernel_rfl
end Go.Proofs.YtlkfgnknkoeepaaGreatDoor

namespace Go.Proofs.YtlkfgnknkoeepaaGreatDoor
theorem Sds_quietL : (Tryz.prog.funcs.toList.any Func.goes) = false := by
  rw [← List.take_append_drop 224 Tryz.prog.funcs.toList, List.any_append, Sds_quiet0, Sds_quiet1]
  rfl
theorem Sds_quietF (g : FuncId) : ((Tryz.prog.funcs[g]?).any Func.goes) = false := by
  cases h : Tryz.prog.funcs[g]? with
  | none => rfl
  | some fn =>
    have hm : fn ∈ Tryz.prog.funcs.toList := by
      have : Tryz.prog.funcs.toList[g]? = some fn := by simpa using h
      exact List.mem_of_getElem? this
    have := List.any_eq_false.1 Sds_quietL fn hm
    simpa using this
theorem Sds_quiet (f : FuncId) : Tryz.prog.goes f = false := by
  unfold Program.goes
  rw [Bool.or_eq_false_iff]
  refine ⟨List.any_eq_false.2 fun g _ => by rw [Sds_quietF g]; simp, ?_⟩
  rw [Bool.and_eq_false_iff]
  refine .inr ?_
  rw [← Array.any_toList]
  exact Sds_quietL
theorem Sds_start : Rows.combineSidesRow.start = .entering := rfl
theorem Sds_goes : false = Rows.combineSidesRow.goesBy Tryz.prog := by
  unfold OpenClaim.goesBy Program.goesAt Program.goesFrom
  rw [Sds_named, Sds_start, Option.any_some, Sds_quiet]
  rfl
end Go.Proofs.YtlkfgnknkoeepaaGreatDoor
