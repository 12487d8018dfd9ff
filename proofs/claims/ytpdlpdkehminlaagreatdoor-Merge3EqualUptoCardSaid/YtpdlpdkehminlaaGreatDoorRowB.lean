/-
  Part of the proof: Merge3Equal: which function of the translation the row speaks of; the row's cells on calls through values and on recursion.
-/
import Derived.Test.YtpdlpdkehminlaaGreatDoorRows
import Derived.Clock
import Derived.SevenTiedAt
set_option linter.all false
set_option maxRecDepth 100000
set_option maxHeartbeats 20000000
open Go.Func renaming goes->zbZ
open Go.Proofs.YtpdlpdkehminlaaGreatDoor.Rows renaming merge3EqualUptoRow->eA
open List renaming any_eq_false->zcR
namespace Go.Proofs.YtpdlpdkehminlaaGreatDoor
theorem Lz:Tryz.prog.funcNamed eA.func=some 4:=by kernel_rfl
theorem LJ:(eA.unfollowed==Tryz.prog.unfollowed 4)=true:=by kernel_rfl
theorem PF:(eA.recurses==Tryz.prog.recurses 4)=true:=by kernel_rfl
theorem T7:((Tryz.prog.funcs.toList.take 140).any zbZ)=false:=by kernel_rfl
theorem Sp:((Tryz.prog.funcs.toList.drop 140).any zbZ)=false:=by kernel_rfl
theorem MN:(Tryz.prog.funcs.toList.any zbZ)=false:=by rw[<-List.take_append_drop 140 Tryz.prog.funcs.toList,List.any_append,T7,Sp];rfl
theorem S9(g:FuncId):((Tryz.prog.funcs[g]?).any zbZ)=false:=by
 cases h:Tryz.prog.funcs[g]?with
 |none=>rfl
 |some fn=>
  have a:fn∈Tryz.prog.funcs.toList:=by
   have:Tryz.prog.funcs.toList[g]?=some fn:=by simpa using h
   exact List.mem_of_getElem? this
  have:=zcR.1 MN fn a;simpa using this
theorem Va(f:FuncId):Tryz.prog.goes f=false:=by unfold Program.goes;rw[Bool.or_eq_false_iff];refine⟨zcR.2 λg _=>by rw[S9 g];simp,?_⟩;rw[Bool.and_eq_false_iff];refine .inr ?_;rw[<-Array.any_toList];exact MN
theorem U3:eA.start=.entering:=rfl
theorem Wh:false=eA.goesBy Tryz.prog:=by unfold OpenClaim.goesBy Program.goesAt Program.goesFrom;rw[Lz,U3,Option.any_some,Va];rfl
end Go.Proofs.YtpdlpdkehminlaaGreatDoor
