/-
  DERIVED. GIVEN WITH THE SEED: THE CARDS: each row of YtlkfgnknkoeepaaGreatDoorRows.lean that lists a variable, with what it lists TIED to the program's text (the seventh form; the later family's looks); each row that meets fmt, with fmt's text TOLD by the authors' own Lean function (tested against real Go, not proved from fmt's source: count such statements apart). THE CARD IS WHAT COUNTS. Prove the row's statement (the work); the ties are given (YtlkfgnknkoeepaaGreatDoorTie.lean); close each card by the builder's one call (the guide's Derived/Test/ToyasCard.lean, 'card_holds'). Laid BY PROGRAM, IN A SANDBOX (cutbox-door.mjs). By AI agents, Wed Nov 11 2026. No macro, syntax, notation, axiom, sorry.
-/
import Derived.Test.YtlkfgnknkoeepaaGreatDoorRows
import GoSem.ClaimSeven
namespace Go.Proofs.YtlkfgnknkoeepaaGreatDoor
namespace Rows

/-- THE TIED CARD OF 'treemergelaw38.CombineSides'. -/
def combineSidesCard : Claim7 := { stood := { row := combineSidesRow, standIns := [], harness := (true, "a13b7a715b8ee4a6361570343f13115ebd915bb51a992586aa32c6a2cf14b4bb"), looks := true }, kinds := [], alts := [], laidByText := true, laidKinds := [.data, .data, .data, .sentinel, .sentinel, .widerDeep], laidTests := true, laidLooks := .later }
def CombineSidesCardSaid : Prop := Claim7.holds Tryz.pinned (.plain (OpenSpec.ofChange combineSidesSpec)) combineSidesCard

/-- THE TIED CARD OF 'treemergelaw38.CombineIndependent'. -/
def combineIndependentCard : Claim7 := { stood := { row := combineIndependentRow, standIns := [], harness := (true, "a13b7a715b8ee4a6361570343f13115ebd915bb51a992586aa32c6a2cf14b4bb"), looks := true }, kinds := [], alts := [], laidByText := true, laidKinds := [.data, .data, .data, .sentinel, .sentinel, .widerDeep], laidTests := true, laidLooks := .later }
def CombineIndependentCardSaid : Prop := Claim7.holds Tryz.pinned (.plain (OpenSpec.ofChange combineIndependentSpec)) combineIndependentCard

/-- THE SECOND FORM's CARD OF 'treemergelaw38.CombineSides'. -/
def combineSidesUptoCard : Claim7 := { stood := { row := combineSidesUptoRow, standIns := [], harness := (true, "a13b7a715b8ee4a6361570343f13115ebd915bb51a992586aa32c6a2cf14b4bb"), looks := true }, kinds := [], alts := [], laidByText := true, laidKinds := [.data, .data, .data, .sentinel, .sentinel, .widerDeep], laidTests := true, laidLooks := .later }
def CombineSidesUptoCardSaid : Prop := Claim7.holds Tryz.pinned (.plain (OpenSpec.upto combineSidesSpec)) combineSidesUptoCard

/-- THE SECOND FORM's CARD OF 'treemergelaw38.CombineIndependent'. -/
def combineIndependentUptoCard : Claim7 := { stood := { row := combineIndependentUptoRow, standIns := [], harness := (true, "a13b7a715b8ee4a6361570343f13115ebd915bb51a992586aa32c6a2cf14b4bb"), looks := true }, kinds := [], alts := [], laidByText := true, laidKinds := [.data, .data, .data, .sentinel, .sentinel, .widerDeep], laidTests := true, laidLooks := .later }
def CombineIndependentUptoCardSaid : Prop := Claim7.holds Tryz.pinned (.plain (OpenSpec.upto combineIndependentSpec)) combineIndependentUptoCard
end Rows
end Go.Proofs.YtlkfgnknkoeepaaGreatDoor
