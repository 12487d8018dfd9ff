/-
  RepoNone: the tied card: for every name and every number the methods of a nil repository return ErrNone or zero values, and the first example of the chapter holds; the card ties the listed variables to the program's text. Conditions: those of the given row and card (the listed variables as the text lays them).
-/
import Derived.Test.YtjaaedbbmgjppaaGreatDoorNoneF
import Derived.Test.YtjaaedbbmgjppaaGreatDoorNoneG
import Derived.Test.YtjaaedbbmgjppaaGreatDoorNoneI
import Derived.Test.YtjaaedbbmgjppaaGreatDoorNoneJ
import Derived.Test.YtjaaedbbmgjppaaGreatDoorTieF
set_option linter.all false

namespace Go.Proofs.YtjaaedbbmgjppaaGreatDoor
open Go

theorem repoNone_card : Rows.RepoNoneCardSaid :=
  Claim7.holds_tied_plain_at .later [] [.sentinel, .sentinel, .data, .data, .data, .pinned, .data] true (true, "c2e77a9d7a468f7ed77e222a647116ab4e9982722a1560e37b79b312bc22b25f") true
    none_holds (fun _ h => by cases h) None_wfText (fun _ h => by cases h) repoNone_row_tie rfl ⟨rfl, rfl⟩ None_main rfl
    (fun f fn hf hfn => by
      obtain rfl : f = 4 := Option.some.inj (None_named.symm.trans hf) |>.symm
      obtain rfl : fn = Tryz.f4 := (Option.some.inj (Tryz.func4.symm.trans hfn)).symm
      exact ⟨None_looks, fun j t ht => by
        rw [Tryz.params4] at ht
        have hm : t ∈ [9, 3] := by simpa using Array.mem_of_getElem? ht
        exact (show Tryz.prog.wantsStandIn t = false by simpa using List.all_eq_true.1 None_noStandIn t hm)⟩)
    None_goes
#print axioms repoNone_card
end Go.Proofs.YtjaaedbbmgjppaaGreatDoor
