/-
  CombineSides: the tied card: for any two versions of Few files the merge of a version with the version itself and another one is the other one's, and the examples of the chapter hold; the card ties the listed variables to the program's text. Conditions: those of the given row and card (the listed variables as the text lays them).
-/
import Derived.Test.YtlkfgnknkoeepaaGreatDoorRowF
import Derived.Test.YtlkfgnknkoeepaaGreatDoorRowG
import Derived.Test.YtlkfgnknkoeepaaGreatDoorRowJ
import Derived.Test.YtlkfgnknkoeepaaGreatDoorTie
set_option linter.all false

namespace Go.Proofs.YtlkfgnknkoeepaaGreatDoor
open Go

theorem combineSides_card : Rows.CombineSidesCardSaid :=
  Claim7.holds_tied_plain_at .later [] [.data, .data, .data, .sentinel, .sentinel, .widerDeep] true (true, "a13b7a715b8ee4a6361570343f13115ebd915bb51a992586aa32c6a2cf14b4bb") true
    sides_holds (fun _ h => by cases h) Sds_wfText (fun _ h => by cases h) combineSides_row_tie rfl ⟨rfl, rfl⟩ Sds_main rfl
    (fun f fn hf hfn => by
      obtain rfl : f = 3 := Option.some.inj (Sds_named.symm.trans hf) |>.symm
      obtain rfl : fn = Tryz.f3 := (Option.some.inj (Tryz.func3.symm.trans hfn)).symm
      exact ⟨Sds_looks, fun j t ht => by
        rw [Tryz.params3] at ht
        have hm : t ∈ [22, 22] := by simpa using Array.mem_of_getElem? ht
        exact (show Tryz.prog.wantsStandIn t = false by simpa using List.all_eq_true.1 Sds_noStandIn t hm)⟩)
    Sds_goes
#print axioms combineSides_card
end Go.Proofs.YtlkfgnknkoeepaaGreatDoor
