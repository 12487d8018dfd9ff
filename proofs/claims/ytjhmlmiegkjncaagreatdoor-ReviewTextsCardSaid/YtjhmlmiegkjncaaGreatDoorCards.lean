/-
  DERIVED. GIVEN WITH THE SEED: THE CARDS: each row of YtjhmlmiegkjncaaGreatDoorRows.lean that lists a variable, with what it lists TIED to the program's text (the seventh form; the later family's looks); each row that meets fmt, with fmt's text TOLD by the authors' own Lean function (tested against real Go, not proved from fmt's source: count such statements apart). THE CARD IS WHAT COUNTS. Prove the row's statement (the work); the ties are given (YtjhmlmiegkjncaaGreatDoorTie.lean); close each card by the builder's one call (the guide's Derived/Test/ToyasCard.lean, 'card_holds'). Laid BY PROGRAM, IN A SANDBOX (cutbox-door.mjs). By AI agents, Wed Nov 11 2026. No macro, syntax, notation, axiom, sorry.
-/
import Derived.Test.YtjhmlmiegkjncaaGreatDoorRows
import GoSem.ClaimSeven
namespace Go.Proofs.YtjhmlmiegkjncaaGreatDoor
namespace Rows

/-- THE TIED CARD OF 'treemergelaw56.ReviewTexts'. -/
def reviewTextsCard : Claim7 := { stood := { row := reviewTextsRow, standIns := [], harness := (true, "9438fd6122016442cb4077950ad39bd5e9ed9dfbc06dc1f21b40a4bbeb565974"), looks := true }, kinds := [], alts := [], laidByText := true, laidKinds := [.data, .data, .data, .sentinel, .sentinel, .widerDeep], laidTests := true, laidLooks := .later }
def ReviewTextsCardSaid : Prop := Claim7.holds Tryz.pinned (.plain (OpenSpec.ofChange reviewTextsSpec)) reviewTextsCard

/-- THE SECOND FORM's CARD OF 'treemergelaw56.ReviewTexts'. -/
def reviewTextsUptoCard : Claim7 := { stood := { row := reviewTextsUptoRow, standIns := [], harness := (true, "9438fd6122016442cb4077950ad39bd5e9ed9dfbc06dc1f21b40a4bbeb565974"), looks := true }, kinds := [], alts := [], laidByText := true, laidKinds := [.data, .data, .data, .sentinel, .sentinel, .widerDeep], laidTests := true, laidLooks := .later }
def ReviewTextsUptoCardSaid : Prop := Claim7.holds Tryz.pinned (.plain (OpenSpec.upto reviewTextsSpec)) reviewTextsUptoCard
end Rows
end Go.Proofs.YtjhmlmiegkjncaaGreatDoor
