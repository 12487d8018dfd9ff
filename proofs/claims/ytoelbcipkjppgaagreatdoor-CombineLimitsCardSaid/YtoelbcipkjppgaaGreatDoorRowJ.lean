/-
  The card's cell on goroutines.
-/
import Derived.Test.YtoelbcipkjppgaaGreatDoorRowB
import Derived.Test.YtoelbcipkjppgaaGreatDoorRowN
import Derived.Test.YtoelbcipkjppgaaGreatDoorRowO
set_option linter.all false

namespace Go.Proofs.YtoelbcipkjppgaaGreatDoor
theorem Lm_quietL : (Tryz.prog.funcs.toList.any Func.goes) = false := by
  rw [← List.take_append_drop 325 Tryz.prog.funcs.toList, List.any_append, Lm_quiet0, Lm_quiet1]
  rfl
theorem Lm_quietF (g : FuncId) : ((Tryz.prog.funcs[g]?).any Func.goes) = false := by
  cases h : Tryz.prog.funcs[g]? with
  | none => rfl
  | some fn =>
    have hm : fn ∈ Tryz.prog.funcs.toList := by
      have : Tryz.prog.funcs.toList[g]? = some fn := by simpa using h
      exact List.mem_of_getElem? this
    have := List.any_eq_false.1 Lm_quietL fn hm
    simpa using this
theorem Lm_quiet (f : FuncId) : Tryz.prog.goes f = false := by
  unfold Program.goes
  rw [Bool.or_eq_false_iff]
  refine ⟨List.any_eq_false.2 fun g _ => by rw [Lm_quietF g]; simp, ?_⟩
  rw [Bool.and_eq_false_iff]
  refine .inr ?_
  rw [← Array.any_toList]
  exact Lm_quietL
theorem Lm_start : Rows.combineLimitsRow.start = .entering := rfl
theorem Lm_goes : false = Rows.combineLimitsRow.goesBy Tryz.prog := by
  unfold OpenClaim.goesBy Program.goesAt Program.goesFrom
  rw [Lm_named, Lm_start, Option.any_some, Lm_quiet]
  rfl
end Go.Proofs.YtoelbcipkjppgaaGreatDoor
