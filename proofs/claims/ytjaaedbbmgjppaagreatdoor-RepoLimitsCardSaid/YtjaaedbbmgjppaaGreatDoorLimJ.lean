/-
  No function of the translation starts a goroutine: the first half. No function of the translation starts a goroutine: the second half. The card's cell on goroutines.
-/
import Derived.Test.YtjaaedbbmgjppaaGreatDoorRows
import Derived.Clock
import Derived.SevenTiedAt
import Derived.Test.YtjaaedbbmgjppaaGreatDoorLimB
set_option linter.all false

namespace Go.Proofs.YtjaaedbbmgjppaaGreatDoor
theorem Lim_quiet0 : ((Tryz.prog.funcs.toList.take 300).any Func.goes) = false := by kernel_rfl
end Go.Proofs.YtjaaedbbmgjppaaGreatDoor

namespace Go.Proofs.YtjaaedbbmgjppaaGreatDoor
theorem Lim_quiet1 : ((Tryz.prog.funcs.toList.drop 300).any Func.goes) = false := by kernel_rfl
end Go.Proofs.YtjaaedbbmgjppaaGreatDoor

namespace Go.Proofs.YtjaaedbbmgjppaaGreatDoor
theorem Lim_quietL : (Tryz.prog.funcs.toList.any Func.goes) = false := by
  rw [← List.take_append_drop 300 Tryz.prog.funcs.toList, List.any_append, Lim_quiet0, Lim_quiet1]
  rfl
theorem Lim_quietF (g : FuncId) : ((Tryz.prog.funcs[g]?).any Func.goes) = false := by
  cases h : Tryz.prog.funcs[g]? with
  | none => rfl
  | some fn =>
    have hm : fn ∈ Tryz.prog.funcs.toList := by
      have : Tryz.prog.funcs.toList[g]? = some fn := by simpa using h
      exact List.mem_of_getElem? this
    have := List.any_eq_false.1 Lim_quietL fn hm
    simpa using this
theorem Lim_quiet (f : FuncId) : Tryz.prog.goes f = false := by
  unfold Program.goes
  rw [Bool.or_eq_false_iff]
  refine ⟨List.any_eq_false.2 fun g _ => by rw [Lim_quietF g]; simp, ?_⟩
  rw [Bool.and_eq_false_iff]
  refine .inr ?_
  rw [← Array.any_toList]
  exact Lim_quietL
theorem Lim_start : Rows.repoLimitsRow.start = .entering := rfl
theorem Lim_goes : false = Rows.repoLimitsRow.goesBy Tryz.prog := by
  unfold OpenClaim.goesBy Program.goesAt Program.goesFrom
  rw [Lim_named, Lim_start, Option.any_some, Lim_quiet]
  rfl
end Go.Proofs.YtjaaedbbmgjppaaGreatDoor
