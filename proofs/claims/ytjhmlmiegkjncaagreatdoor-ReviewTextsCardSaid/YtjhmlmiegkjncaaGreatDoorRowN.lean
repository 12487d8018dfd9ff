/-
  No function of the translation starts a goroutine: the first half. No function of the translation starts a goroutine: the second half. The card's cell on goroutines.
-/
import Derived.Test.YtjhmlmiegkjncaaGreatDoorRows
import Derived.Clock
import Derived.SevenTiedAt
import Derived.Test.YtjhmlmiegkjncaaGreatDoorRowB
set_option linter.all false

namespace Go.Proofs.YtjhmlmiegkjncaaGreatDoor
theorem Rvw_quiet0 : ((Tryz.prog.funcs.toList.take 173).any Func.goes) = false := by kernel_rfl
end Go.Proofs.YtjhmlmiegkjncaaGreatDoor

namespace Go.Proofs.YtjhmlmiegkjncaaGreatDoor
theorem Rvw_quiet1 : ((Tryz.prog.funcs.toList.drop 173).any Func.goes) = false := by kernel_rfl
end Go.Proofs.YtjhmlmiegkjncaaGreatDoor

namespace Go.Proofs.YtjhmlmiegkjncaaGreatDoor
theorem Rvw_quietL : (Tryz.prog.funcs.toList.any Func.goes) = false := by
  rw [← List.take_append_drop 173 Tryz.prog.funcs.toList, List.any_append, Rvw_quiet0, Rvw_quiet1]
  rfl
theorem Rvw_quietF (g : FuncId) : ((Tryz.prog.funcs[g]?).any Func.goes) = false := by
  cases h : Tryz.prog.funcs[g]? with
  | none => rfl
  | some fn =>
    have hm : fn ∈ Tryz.prog.funcs.toList := by
      have : Tryz.prog.funcs.toList[g]? = some fn := by simpa using h
      exact List.mem_of_getElem? this
    have := List.any_eq_false.1 Rvw_quietL fn hm
    simpa using this
theorem Rvw_quiet (f : FuncId) : Tryz.prog.goes f = false := by
  unfold Program.goes
  rw [Bool.or_eq_false_iff]
  refine ⟨List.any_eq_false.2 fun g _ => by rw [Rvw_quietF g]; simp, ?_⟩
  rw [Bool.and_eq_false_iff]
  refine .inr ?_
  rw [← Array.any_toList]
  exact Rvw_quietL
theorem Rvw_start : Rows.reviewTextsRow.start = .entering := rfl
theorem Rvw_goes : false = Rows.reviewTextsRow.goesBy Tryz.prog := by
  unfold OpenClaim.goesBy Program.goesAt Program.goesFrom
  rw [Rvw_named, Rvw_start, Option.any_some, Rvw_quiet]
  rfl
end Go.Proofs.YtjhmlmiegkjncaaGreatDoor
