/-
  RepoLimits: the tied card: for any numbers of calls up to 40 and 300 Branch and Commit return the specified errors at the limits of branches and commits, and one below them; the card ties the listed variables to the program's text. Conditions: those of the given row and card (the listed variables as the text lays them).
-/
import Derived.Test.YtjaaedbbmgjppaaGreatDoorLimF
import Derived.Test.YtjaaedbbmgjppaaGreatDoorLimG
import Derived.Test.YtjaaedbbmgjppaaGreatDoorLimJ
import Derived.Test.YtjaaedbbmgjppaaGreatDoorTieF
set_option linter.all false

namespace Go.Proofs.YtjaaedbbmgjppaaGreatDoor
open Go

theorem repoLimits_card : Rows.RepoLimitsCardSaid :=
  Claim7.holds_tied_plain_at .later [] [.sentinel, .sentinel, .data, .data, .data, .pinned, .data] true (true, "c2e77a9d7a468f7ed77e222a647116ab4e9982722a1560e37b79b312bc22b25f") true
    limits_holds (fun _ h => by cases h) Lim_wfText (fun _ h => by cases h) repoLimits_row_tie rfl ⟨rfl, rfl⟩ Lim_main rfl
    (fun f fn hf hfn => by
      obtain rfl : f = 3 := Option.some.inj (Lim_named.symm.trans hf) |>.symm
      obtain rfl : fn = Tryz.f3 := (Option.some.inj (Tryz.func3.symm.trans hfn)).symm
      exact ⟨Lim_looks, fun j t ht => by
        rw [Tryz.params3] at ht
        have hm : t ∈ [5, 22] := by simpa using Array.mem_of_getElem? ht
        exact (show Tryz.prog.wantsStandIn t = false by simpa using List.all_eq_true.1 Lim_noStandIn t hm)⟩)
    Lim_goes
#print axioms repoLimits_card
end Go.Proofs.YtjaaedbbmgjppaaGreatDoor
