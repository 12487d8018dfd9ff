/-
  No function of the translation starts a goroutine: the first half. No function of the translation starts a goroutine: the second half. The card's cell on goroutines.
-/
import Derived.Test.YtpapmpmjnhcheaaGreatDoorRows
import Derived.Clock
import Derived.SevenTiedAt
import Derived.Test.YtpapmpmjnhcheaaGreatDoorRowB
set_option linter.all false

namespace Go.Proofs.YtpapmpmjnhcheaaGreatDoor
theorem Sides_quiet0 : ((Tryz.prog.funcs.toList.take 200).any Func.goes) = false := by kernel_rfl
end Go.Proofs.YtpapmpmjnhcheaaGreatDoor

namespace Go.Proofs.YtpapmpmjnhcheaaGreatDoor
theorem Sides_quiet1 : ((Tryz.prog.funcs.toList.drop 200).any Func.goes) = false := by kernel_rfl
end Go.Proofs.YtpapmpmjnhcheaaGreatDoor

namespace Go.Proofs.YtpapmpmjnhcheaaGreatDoor
theorem Sides_quietL : (Tryz.prog.funcs.toList.any Func.goes) = false := by
  rw [← List.take_append_drop 200 Tryz.prog.funcs.toList, List.any_append, Sides_quiet0, Sides_quiet1]
  rfl
theorem Sides_quietF (g : FuncId) : ((Tryz.prog.funcs[g]?).any Func.goes) = false := by
  cases h : Tryz.prog.funcs[g]? with
  | none => rfl
  | some fn =>
    have hm : fn ∈ Tryz.prog.funcs.toList := by
      have : Tryz.prog.funcs.toList[g]? = some fn := by simpa using h
      exact List.mem_of_getElem? this
    have := List.any_eq_false.1 Sides_quietL fn hm
    simpa using this
theorem Sides_quiet (f : FuncId) : Tryz.prog.goes f = false := by
  unfold Program.goes
  rw [Bool.or_eq_false_iff]
  refine ⟨List.any_eq_false.2 fun g _ => by rw [Sides_quietF g]; simp, ?_⟩
  rw [Bool.and_eq_false_iff]
  refine .inr ?_
  rw [← Array.any_toList]
  exact Sides_quietL
theorem Sides_start : Rows.fallbackSidesRow.start = .entering := rfl
theorem Sides_goes : false = Rows.fallbackSidesRow.goesBy Tryz.prog := by
  unfold OpenClaim.goesBy Program.goesAt Program.goesFrom
  rw [Sides_named, Sides_start, Option.any_some, Sides_quiet]
  rfl
end Go.Proofs.YtpapmpmjnhcheaaGreatDoor
