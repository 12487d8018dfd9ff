/-
  Part of the proof: Merge3Equal: the card's smaller facts.
-/
import Derived.Test.YtpdlpdkehminlaaGreatDoorCards
import Derived.Clock
import Derived.SevenTiedAt
set_option linter.all false
set_option maxRecDepth 100000
set_option maxHeartbeats 20000000
open Go.Proofs.YtpdlpdkehminlaaGreatDoor.Rows.OpenSpec renaming upto->lI
namespace Go.Proofs.YtpdlpdkehminlaaGreatDoor
theorem Tn:Rows.merge3EqualUptoRow.wfByText (lI Rows.merge3EqualSpec)=true:=by kernel_rfl
theorem VH:Tryz.prog.mainIs=some (true,("34953b61fd6bef1d0058f3a0ff564a405bf5b06f25c401ac38416270161e9e26" :String).toList):=by kernel_rfl
theorem Mr:([25,25,26].all λu=> !Tryz.prog.wantsStandIn u)=true:=by kernel_rfl
theorem Us:false=Tryz.prog.looks []:=by kernel_rfl
end Go.Proofs.YtpdlpdkehminlaaGreatDoor
