/-
  Part of the proof: Merge3Equal: the row holds: whatever the two trees and the pairs, of bulk at most 1048576, the law returns true and leaves its arguments as they were.
-/
import Derived.Test.YtpdlpdkehminlaaGreatDoorRowA
import Derived.Test.YtpdlpdkehminlaaGreatDoorRowB
import Derived.Test.YtpdlpdkehminlaaGreatDoorRowE
import Derived.Test.YtpdlpdkehminlaaGreatDoorFactD
import Derived.Test.YtpdlpdkehminlaaGreatDoorFactF
import Derived.JoinedCond
set_option linter.all false
set_option maxRecDepth 100000
set_option maxHeartbeats 20000000
open Go.Proofs.YtpdlpdkehminlaaGreatDoor.Rows renaming merge3EqualUptoRow->eA
open Go.Proofs.YtpdlpdkehminlaaGreatDoor.Rows.OpenSpec renaming upto->lI
namespace Go.Proofs.YtpdlpdkehminlaaGreatDoor
open Go.ChangeShapes Go.WideShapes Go.ChangeAt Go.RowKit Go.Clock
theorem Tz:joinedFacts Tryz.prog 4 Tryz.f4 (lI Rows.merge3EqualSpec).bare eA=true:=by unfold joinedFacts;rw[Dt,Sx,RZ,Se,QK,LJ,PF,Nn];kernel_rfl
theorem V8:Tryz.f4.isInstance Tryz.prog eA.origin eA.targs:=of_decide_eq_true (by kernel_rfl)
theorem VW:Tryz.f4.isWrapper Tryz.prog eA.wrapper eA.mainSum:=by unfold Func.isWrapper;first|(rw[if_pos (by decide+kernel)];kernel_rfl)|(rw[if_neg (by decide+kernel)];exact⟨rfl,rfl⟩)
theorem Ui:Rows.Merge3EqualUptoSaid:=OpenClaim.holds_of_cond 4 Tryz.f4 rfl rfl rfl rfl rfl rfl rfl ⟨rfl,rfl,rfl,rfl,rfl⟩ rfl rfl rfl rfl rfl Lz Tryz.func4 Tz V8 VW (λos started H enc _ F=>by rw[OpenClaim.pre_eq_preRow];exact SF os started H enc F)
end Go.Proofs.YtpdlpdkehminlaaGreatDoor
