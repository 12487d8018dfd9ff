/-
  The card's cell on goroutines.
-/
import Derived.Test.YtjaaedbbmgjppaaGreatDoorNoneB
import Derived.Test.YtjaaedbbmgjppaaGreatDoorNoneN
import Derived.Test.YtjaaedbbmgjppaaGreatDoorNoneO
set_option linter.all false

namespace Go.Proofs.YtjaaedbbmgjppaaGreatDoor
theorem None_quietL : (Tryz.prog.funcs.toList.any Func.goes) = false := by
  rw [← List.take_append_drop 300 Tryz.prog.funcs.toList, List.any_append, None_quiet0, None_quiet1]
  rfl
theorem None_quietF (g : FuncId) : ((Tryz.prog.funcs[g]?).any Func.goes) = false := by
  cases h : Tryz.prog.funcs[g]? with
  | none => rfl
  | some fn =>
    have hm : fn ∈ Tryz.prog.funcs.toList := by
      have : Tryz.prog.funcs.toList[g]? = some fn := by simpa using h
      exact List.mem_of_getElem? this
    have := List.any_eq_false.1 None_quietL fn hm
    simpa using this
theorem None_quiet (f : FuncId) : Tryz.prog.goes f = false := by
  unfold Program.goes
  rw [Bool.or_eq_false_iff]
  refine ⟨List.any_eq_false.2 fun g _ => by rw [None_quietF g]; simp, ?_⟩
  rw [Bool.and_eq_false_iff]
  refine .inr ?_
  rw [← Array.any_toList]
  exact None_quietL
theorem None_start : Rows.repoNoneRow.start = .entering := rfl
theorem None_goes : false = Rows.repoNoneRow.goesBy Tryz.prog := by
  unfold OpenClaim.goesBy Program.goesAt Program.goesFrom
  rw [None_named, None_start, Option.any_some, None_quiet]
  rfl
end Go.Proofs.YtjaaedbbmgjppaaGreatDoor
