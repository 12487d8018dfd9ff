/-
  CombineIndependent: the tied card: for any three versions of Few files of which left and right change different paths the merge returns the stated files, and the examples of the chapter hold; the card ties the listed variables to the program's text. Conditions: those of the given row and card (the listed variables as the text lays them).
-/
import Derived.Test.YtlkfgnknkoeepaaGreatDoorIndF
import Derived.Test.YtlkfgnknkoeepaaGreatDoorIndG
import Derived.Test.YtlkfgnknkoeepaaGreatDoorIndJ
import Derived.Test.YtlkfgnknkoeepaaGreatDoorTie
set_option linter.all false

namespace Go.Proofs.YtlkfgnknkoeepaaGreatDoor
open Go

theorem combineIndependent_card : Rows.CombineIndependentCardSaid :=
  Claim7.holds_tied_plain_at .later [] [.data, .data, .data, .sentinel, .sentinel, .widerDeep] true (true, "a13b7a715b8ee4a6361570343f13115ebd915bb51a992586aa32c6a2cf14b4bb") true
    indep_holds (fun _ h => by cases h) Ind_wfText (fun _ h => by cases h) combineIndependent_row_tie rfl ⟨rfl, rfl⟩ Ind_main rfl
    (fun f fn hf hfn => by
      obtain rfl : f = 4 := Option.some.inj (Ind_named.symm.trans hf) |>.symm
      obtain rfl : fn = Tryz.f4 := (Option.some.inj (Tryz.func4.symm.trans hfn)).symm
      exact ⟨Ind_looks, fun j t ht => by
        rw [Tryz.params4] at ht
        have hm : t ∈ [32] := by simpa using Array.mem_of_getElem? ht
        exact (show Tryz.prog.wantsStandIn t = false by simpa using List.all_eq_true.1 Ind_noStandIn t hm)⟩)
    Ind_goes
#print axioms combineIndependent_card
end Go.Proofs.YtlkfgnknkoeepaaGreatDoor
