/-
  ReviewTexts: the tied card: for any at most 30 views of at most 20 lines of at most 100 bytes, and names of at most 100 bytes, Text and Totals return what is described, and the examples of the chapter hold; the card ties the listed variables to the program's text. Conditions: those of the given row and card (the listed variables as the text lays them).
-/
import Derived.Test.YtjhmlmiegkjncaaGreatDoorRowF
import Derived.Test.YtjhmlmiegkjncaaGreatDoorRowB
import Derived.Test.YtjhmlmiegkjncaaGreatDoorRowN
import Derived.Test.YtjhmlmiegkjncaaGreatDoorTie
set_option linter.all false

namespace Go.Proofs.YtjhmlmiegkjncaaGreatDoor
open Go

theorem reviewTexts_card : Rows.ReviewTextsCardSaid :=
  Claim7.holds_tied_plain_at .later [] [.data, .data, .data, .sentinel, .sentinel, .widerDeep] true (true, "9438fd6122016442cb4077950ad39bd5e9ed9dfbc06dc1f21b40a4bbeb565974") true
    texts_holds (fun _ h => by cases h) Rvw_wfText (fun _ h => by cases h) reviewTexts_row_tie rfl ⟨rfl, rfl⟩ Rvw_main rfl
    (fun f fn hf hfn => by
      obtain rfl : f = 3 := Option.some.inj (Rvw_named.symm.trans hf) |>.symm
      obtain rfl : fn = Tryz.f3 := (Option.some.inj (Tryz.func3.symm.trans hfn)).symm
      exact ⟨Rvw_looks, fun j t ht => by
        rw [Tryz.params3] at ht
        have hm : t ∈ [22] := by simpa using Array.mem_of_getElem? ht
        exact (show Tryz.prog.wantsStandIn t = false by simpa using List.all_eq_true.1 Rvw_noStandIn t hm)⟩)
    Rvw_goes
#print axioms reviewTexts_card
end Go.Proofs.YtjhmlmiegkjncaaGreatDoor
