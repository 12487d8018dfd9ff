/-
  Part of the proof: The translation's types are laid out in order: the last third, and the variables and parameters.
-/
import Derived.Test.YtpdlpdkehminlaaGreatDoorFactA
set_option linter.all false
set_option maxRecDepth 100000
set_option maxHeartbeats 20000000
open List renaming all_append->zdl,range'->oS
namespace Go.Proofs.YtpdlpdkehminlaaGreatDoor
set_option maxRecDepth 100000
theorem Rp:((oS 192 96).all (rowFine Tryz.prog))=true:=by kernel_rfl
theorem Rh:Tryz.prog.types.size=288:=by kernel_rfl
theorem R6:List.range 288=oS 0 96++(oS 96 96++oS 192 96):=by kernel_rfl
theorem NX:(Tryz.prog.globals.all λg=>decide (g.type<Tryz.prog.types.size))=true:=by kernel_rfl
theorem OI:(Tryz.prog.funcs.all λf=>f.params.all λt=>decide (t<Tryz.prog.types.size))=true:=by kernel_rfl
theorem Dt:laidOutB Tryz.prog=true:=by unfold laidOutB;rw[NX,OI,Rh,R6,zdl,zdl,Rk,RD,Rp];rfl
end Go.Proofs.YtpdlpdkehminlaaGreatDoor
