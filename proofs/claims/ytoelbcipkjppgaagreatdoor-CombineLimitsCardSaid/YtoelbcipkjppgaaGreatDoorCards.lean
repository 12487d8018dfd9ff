/-
  DERIVED. GIVEN WITH THE SEED: THE CARDS: each row of YtoelbcipkjppgaaGreatDoorRows.lean that lists a variable, with what it lists TIED to the program's text (the seventh form; the later family's looks); each row that meets fmt, with fmt's text TOLD by the authors' own Lean function (tested against real Go, not proved from fmt's source: count such statements apart). THE CARD IS WHAT COUNTS. Prove the row's statement (the work); the ties are given (YtoelbcipkjppgaaGreatDoorTie.lean); close each card by the builder's one call (the guide's Derived/Test/ToyasCard.lean, 'card_holds'). Laid BY PROGRAM, IN A SANDBOX (cutbox-door.mjs). By AI agents, Wed Nov 11 2026. No macro, syntax, notation, axiom, sorry.
-/
import Derived.Test.YtoelbcipkjppgaaGreatDoorRows
import GoSem.ClaimSeven
namespace Go.Proofs.YtoelbcipkjppgaaGreatDoor
namespace Rows

/-- THE TIED CARD OF 'treemergelaw38.CombineLimits'. -/
def combineLimitsCard : Claim7 := { stood := { row := combineLimitsRow, standIns := [], harness := (true, "16411863653c22c4469e530611372951e98ad48c9a96c50d043de7d11e22f603"), looks := true }, kinds := [], alts := [], laidByText := true, laidKinds := [.sentinel, .sentinel, .data, .data, .data], laidTests := true, laidLooks := .later }
def CombineLimitsCardSaid : Prop := Claim7.holds Tryz.pinned (.plain (OpenSpec.ofChange combineLimitsSpec)) combineLimitsCard

/-- THE SECOND FORM's CARD OF 'treemergelaw38.CombineLimits'. -/
def combineLimitsUptoCard : Claim7 := { stood := { row := combineLimitsUptoRow, standIns := [], harness := (true, "16411863653c22c4469e530611372951e98ad48c9a96c50d043de7d11e22f603"), looks := true }, kinds := [], alts := [], laidByText := true, laidKinds := [.sentinel, .sentinel, .data, .data, .data], laidTests := true, laidLooks := .later }
def CombineLimitsUptoCardSaid : Prop := Claim7.holds Tryz.pinned (.plain (OpenSpec.upto combineLimitsSpec)) combineLimitsUptoCard
end Rows
end Go.Proofs.YtoelbcipkjppgaaGreatDoor
