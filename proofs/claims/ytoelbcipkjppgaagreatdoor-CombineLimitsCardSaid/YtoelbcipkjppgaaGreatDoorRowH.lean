/-
  CombineLimits: the tied card: for any numbers of empty files up to 70 in each version Merge and Independent return the specified results, and the examples of the chapter hold; the card ties the listed variables to the program's text. Conditions: those of the given row and card (the listed variables as the text lays them).
-/
import Derived.Test.YtoelbcipkjppgaaGreatDoorRowF
import Derived.Test.YtoelbcipkjppgaaGreatDoorRowG
import Derived.Test.YtoelbcipkjppgaaGreatDoorRowI
import Derived.Test.YtoelbcipkjppgaaGreatDoorRowJ
import Derived.Test.YtoelbcipkjppgaaGreatDoorTieF
set_option linter.all false

namespace Go.Proofs.YtoelbcipkjppgaaGreatDoor
open Go

theorem combineLimits_card : Rows.CombineLimitsCardSaid :=
  Claim7.holds_tied_plain_at .later [] [.sentinel, .sentinel, .data, .data, .data] true (true, "16411863653c22c4469e530611372951e98ad48c9a96c50d043de7d11e22f603") true
    limits_holds (fun _ h => by cases h) Lm_wfText (fun _ h => by cases h) combineLimits_row_tie rfl ⟨rfl, rfl⟩ Lm_main rfl
    (fun f fn hf hfn => by
      obtain rfl : f = 3 := Option.some.inj (Lm_named.symm.trans hf) |>.symm
      obtain rfl : fn = Tryz.f3 := (Option.some.inj (Tryz.func3.symm.trans hfn)).symm
      exact ⟨Lm_looks, fun j t ht => by
        rw [Tryz.params3] at ht
        have hm : t ∈ [5, 5, 5] := by simpa using Array.mem_of_getElem? ht
        exact (show Tryz.prog.wantsStandIn t = false by simpa using List.all_eq_true.1 Lm_noStandIn t hm)⟩)
    Lm_goes
#print axioms combineLimits_card
end Go.Proofs.YtoelbcipkjppgaaGreatDoor
