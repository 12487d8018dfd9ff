/-
  Part of the proof: The translation's types are laid out in order: the first third.
-/
import Derived.Test.YtpdlpdkehminlaaGreatDoorRows
import Derived.Clock
set_option linter.all false
set_option maxRecDepth 100000
set_option maxHeartbeats 20000000
open List renaming range'->oS
namespace Go.Proofs.YtpdlpdkehminlaaGreatDoor
set_option maxRecDepth 100000
theorem Rk:((oS 0 96).all (rowFine Tryz.prog))=true:=by kernel_rfl
theorem RD:((oS 96 96).all (rowFine Tryz.prog))=true:=by kernel_rfl
end Go.Proofs.YtpdlpdkehminlaaGreatDoor
