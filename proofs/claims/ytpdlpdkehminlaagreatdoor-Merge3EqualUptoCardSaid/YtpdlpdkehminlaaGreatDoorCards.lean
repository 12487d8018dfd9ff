/-
  DERIVED. GIVEN WITH THE SEED: THE CARDS: each row of YtpdlpdkehminlaaGreatDoorRows.lean that lists a variable, with what it lists TIED to the program's text (the seventh form; the later family's looks); each row that meets fmt, with fmt's text TOLD by the authors' own Lean function (tested against real Go, not proved from fmt's source: count such statements apart). THE CARD IS WHAT COUNTS. Prove the row's statement (the work); the ties are given (YtpdlpdkehminlaaGreatDoorTie.lean); close each card by the builder's one call (the guide's Derived/Test/ToyasCard.lean, 'card_holds'). Laid BY PROGRAM, IN A SANDBOX (cutbox-door.mjs). By AI agents, Wed Nov 11 2026. No macro, syntax, notation, axiom, sorry.
-/
import Derived.Test.YtpdlpdkehminlaaGreatDoorRows
import GoSem.ClaimSeven
namespace Go.Proofs.YtpdlpdkehminlaaGreatDoor
namespace Rows

/-- THE TIED CARD OF 'treemergelaw35.Merge3Sides'. -/
def merge3SidesCard : Claim7 := { stood := { row := merge3SidesRow, standIns := [], harness := (true, "34953b61fd6bef1d0058f3a0ff564a405bf5b06f25c401ac38416270161e9e26"), looks := false }, kinds := [], alts := [], laidByText := true, laidKinds := [.data, .data, .data, .widerDeep], laidTests := true, laidLooks := .later }
def Merge3SidesCardSaid : Prop := Claim7.holds Tryz.pinned (.plain (OpenSpec.ofChange merge3SidesSpec)) merge3SidesCard

/-- THE TIED CARD OF 'treemergelaw35.Merge3Equal'. -/
def merge3EqualCard : Claim7 := { stood := { row := merge3EqualRow, standIns := [], harness := (true, "34953b61fd6bef1d0058f3a0ff564a405bf5b06f25c401ac38416270161e9e26"), looks := false }, kinds := [], alts := [], laidByText := true, laidKinds := [.data, .data, .data, .widerDeep], laidTests := true, laidLooks := .later }
def Merge3EqualCardSaid : Prop := Claim7.holds Tryz.pinned (.plain (OpenSpec.ofChange merge3EqualSpec)) merge3EqualCard

/-- THE TIED CARD OF 'treemergelaw35.Merge3Picks'. -/
def merge3PicksCard : Claim7 := { stood := { row := merge3PicksRow, standIns := [], harness := (true, "34953b61fd6bef1d0058f3a0ff564a405bf5b06f25c401ac38416270161e9e26"), looks := false }, kinds := [], alts := [], laidByText := true, laidKinds := [.data, .data, .data, .widerDeep], laidTests := true, laidLooks := .later }
def Merge3PicksCardSaid : Prop := Claim7.holds Tryz.pinned (.plain (OpenSpec.ofChange merge3PicksSpec)) merge3PicksCard

/-- THE SECOND FORM's CARD OF 'treemergelaw35.Merge3Sides'. -/
def merge3SidesUptoCard : Claim7 := { stood := { row := merge3SidesUptoRow, standIns := [], harness := (true, "34953b61fd6bef1d0058f3a0ff564a405bf5b06f25c401ac38416270161e9e26"), looks := false }, kinds := [], alts := [], laidByText := true, laidKinds := [.data, .data, .data, .widerDeep], laidTests := true, laidLooks := .later }
def Merge3SidesUptoCardSaid : Prop := Claim7.holds Tryz.pinned (.plain (OpenSpec.upto merge3SidesSpec)) merge3SidesUptoCard

/-- THE SECOND FORM's CARD OF 'treemergelaw35.Merge3Equal'. -/
def merge3EqualUptoCard : Claim7 := { stood := { row := merge3EqualUptoRow, standIns := [], harness := (true, "34953b61fd6bef1d0058f3a0ff564a405bf5b06f25c401ac38416270161e9e26"), looks := false }, kinds := [], alts := [], laidByText := true, laidKinds := [.data, .data, .data, .widerDeep], laidTests := true, laidLooks := .later }
def Merge3EqualUptoCardSaid : Prop := Claim7.holds Tryz.pinned (.plain (OpenSpec.upto merge3EqualSpec)) merge3EqualUptoCard

/-- THE SECOND FORM's CARD OF 'treemergelaw35.Merge3Picks'. -/
def merge3PicksUptoCard : Claim7 := { stood := { row := merge3PicksUptoRow, standIns := [], harness := (true, "34953b61fd6bef1d0058f3a0ff564a405bf5b06f25c401ac38416270161e9e26"), looks := false }, kinds := [], alts := [], laidByText := true, laidKinds := [.data, .data, .data, .widerDeep], laidTests := true, laidLooks := .later }
def Merge3PicksUptoCardSaid : Prop := Claim7.holds Tryz.pinned (.plain (OpenSpec.upto merge3PicksSpec)) merge3PicksUptoCard
end Rows
end Go.Proofs.YtpdlpdkehminlaaGreatDoor
