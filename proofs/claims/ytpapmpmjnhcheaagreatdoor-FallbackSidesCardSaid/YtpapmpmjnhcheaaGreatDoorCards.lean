/-
  DERIVED. GIVEN WITH THE SEED: THE CARDS: each row of YtpapmpmjnhcheaaGreatDoorRows.lean that lists a variable, with what it lists TIED to the program's text (the seventh form; the later family's looks); each row that meets fmt, with fmt's text TOLD by the authors' own Lean function (tested against real Go, not proved from fmt's source: count such statements apart). THE CARD IS WHAT COUNTS. Prove the row's statement (the work); the ties are given (YtpapmpmjnhcheaaGreatDoorTie.lean); close each card by the builder's one call (the guide's Derived/Test/ToyasCard.lean, 'card_holds'). Laid BY PROGRAM, IN A SANDBOX (cutbox-door.mjs). By AI agents, Wed Nov 11 2026. No macro, syntax, notation, axiom, sorry.
-/
import Derived.Test.YtpapmpmjnhcheaaGreatDoorRows
import GoSem.ClaimSeven
namespace Go.Proofs.YtpapmpmjnhcheaaGreatDoor
namespace Rows

/-- THE TIED CARD OF 'treemergelaw37.FallbackSides'. -/
def fallbackSidesCard : Claim7 := { stood := { row := fallbackSidesRow, standIns := [], harness := (true, "172b5b3c5faaf6302ba701a36303900951c338db3938a0b027983daae103581d"), looks := true }, kinds := [], alts := [], laidByText := true, laidKinds := [.data, .data, .data, .sentinel, .sentinel, .widerDeep], laidTests := true, laidLooks := .later }
def FallbackSidesCardSaid : Prop := Claim7.holds Tryz.pinned (.plain (OpenSpec.ofChange fallbackSidesSpec)) fallbackSidesCard

/-- THE SECOND FORM's CARD OF 'treemergelaw37.FallbackSides'. -/
def fallbackSidesUptoCard : Claim7 := { stood := { row := fallbackSidesUptoRow, standIns := [], harness := (true, "172b5b3c5faaf6302ba701a36303900951c338db3938a0b027983daae103581d"), looks := true }, kinds := [], alts := [], laidByText := true, laidKinds := [.data, .data, .data, .sentinel, .sentinel, .widerDeep], laidTests := true, laidLooks := .later }
def FallbackSidesUptoCardSaid : Prop := Claim7.holds Tryz.pinned (.plain (OpenSpec.upto fallbackSidesSpec)) fallbackSidesUptoCard
end Rows
end Go.Proofs.YtpapmpmjnhcheaaGreatDoor
