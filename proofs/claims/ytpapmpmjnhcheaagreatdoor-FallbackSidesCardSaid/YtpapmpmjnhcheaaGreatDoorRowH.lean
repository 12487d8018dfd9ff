/-
  FallbackSides: the tied card: for any version of at most MaxText bytes, a side that is equal to the base, or to the other side, leaves the other side as the merged text, cleanly, and the example of the chapter holds; the card ties the listed variables to the program's text. Conditions: those of the given row and card (the listed variables as the text lays them).
-/
import Derived.Test.YtpapmpmjnhcheaaGreatDoorRowF
import Derived.Test.YtpapmpmjnhcheaaGreatDoorRowG
import Derived.Test.YtpapmpmjnhcheaaGreatDoorRowJ
import Derived.Test.YtpapmpmjnhcheaaGreatDoorTie
set_option linter.all false

namespace Go.Proofs.YtpapmpmjnhcheaaGreatDoor
open Go

theorem fallbackSides_card : Rows.FallbackSidesCardSaid :=
  Claim7.holds_tied_plain_at .later [] [.data, .data, .data, .sentinel, .sentinel, .widerDeep] true (true, "172b5b3c5faaf6302ba701a36303900951c338db3938a0b027983daae103581d") true
    sides_holds (fun _ h => by cases h) Sides_wfText (fun _ h => by cases h) fallbackSides_row_tie rfl ⟨rfl, rfl⟩ Sides_main rfl
    (fun f fn hf hfn => by
      obtain rfl : f = 3 := Option.some.inj (Sides_named.symm.trans hf) |>.symm
      obtain rfl : fn = Tryz.f3 := (Option.some.inj (Tryz.func3.symm.trans hfn)).symm
      exact ⟨Sides_looks, fun j t ht => by
        rw [Tryz.params3] at ht
        have hm : t ∈ [9, 9] := by simpa using Array.mem_of_getElem? ht
        exact (show Tryz.prog.wantsStandIn t = false by simpa using List.all_eq_true.1 Sides_noStandIn t hm)⟩)
    Sides_goes
#print axioms fallbackSides_card
end Go.Proofs.YtpapmpmjnhcheaaGreatDoor
