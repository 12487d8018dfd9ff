/-
  DERIVED. GIVEN WITH THE SEED: THE CARDS: each row of YtjaaedbbmgjppaaGreatDoorRows.lean that lists a variable, with what it lists TIED to the program's text (the seventh form; the later family's looks); each row that meets fmt, with fmt's text TOLD by the authors' own Lean function (tested against real Go, not proved from fmt's source: count such statements apart). THE CARD IS WHAT COUNTS. Prove the row's statement (the work); the ties are given (YtjaaedbbmgjppaaGreatDoorTie.lean); close each card by the builder's one call (the guide's Derived/Test/ToyasCard.lean, 'card_holds'). Laid BY PROGRAM, IN A SANDBOX (cutbox-door.mjs). By AI agents, Wed Nov 11 2026. No macro, syntax, notation, axiom, sorry.
-/
import Derived.Test.YtjaaedbbmgjppaaGreatDoorRows
import GoSem.ClaimSeven
namespace Go.Proofs.YtjaaedbbmgjppaaGreatDoor
namespace Rows

/-- THE TIED CARD OF 'treemergelaw53.RepoLimits'. -/
def repoLimitsCard : Claim7 := { stood := { row := repoLimitsRow, standIns := [], harness := (true, "c2e77a9d7a468f7ed77e222a647116ab4e9982722a1560e37b79b312bc22b25f"), looks := true }, kinds := [], alts := [], laidByText := true, laidKinds := [.sentinel, .sentinel, .data, .data, .data, .pinned, .data], laidTests := true, laidLooks := .later }
def RepoLimitsCardSaid : Prop := Claim7.holds Tryz.pinned (.plain (OpenSpec.ofChange repoLimitsSpec)) repoLimitsCard

/-- THE TIED CARD OF 'treemergelaw53.RepoNone'. -/
def repoNoneCard : Claim7 := { stood := { row := repoNoneRow, standIns := [], harness := (true, "c2e77a9d7a468f7ed77e222a647116ab4e9982722a1560e37b79b312bc22b25f"), looks := true }, kinds := [], alts := [], laidByText := true, laidKinds := [.sentinel, .sentinel, .data, .data, .data, .pinned, .data], laidTests := true, laidLooks := .later }
def RepoNoneCardSaid : Prop := Claim7.holds Tryz.pinned (.plain (OpenSpec.ofChange repoNoneSpec)) repoNoneCard

/-- THE SECOND FORM's CARD OF 'treemergelaw53.RepoLimits'. -/
def repoLimitsUptoCard : Claim7 := { stood := { row := repoLimitsUptoRow, standIns := [], harness := (true, "c2e77a9d7a468f7ed77e222a647116ab4e9982722a1560e37b79b312bc22b25f"), looks := true }, kinds := [], alts := [], laidByText := true, laidKinds := [.sentinel, .sentinel, .data, .data, .data, .pinned, .data], laidTests := true, laidLooks := .later }
def RepoLimitsUptoCardSaid : Prop := Claim7.holds Tryz.pinned (.plain (OpenSpec.upto repoLimitsSpec)) repoLimitsUptoCard

/-- THE SECOND FORM's CARD OF 'treemergelaw53.RepoNone'. -/
def repoNoneUptoCard : Claim7 := { stood := { row := repoNoneUptoRow, standIns := [], harness := (true, "c2e77a9d7a468f7ed77e222a647116ab4e9982722a1560e37b79b312bc22b25f"), looks := true }, kinds := [], alts := [], laidByText := true, laidKinds := [.sentinel, .sentinel, .data, .data, .data, .pinned, .data], laidTests := true, laidLooks := .later }
def RepoNoneUptoCardSaid : Prop := Claim7.holds Tryz.pinned (.plain (OpenSpec.upto repoNoneSpec)) repoNoneUptoCard
end Rows
end Go.Proofs.YtjaaedbbmgjppaaGreatDoor
