/-
  Part of the proof: The functions told by hand are rightly told; the example run, made in any state.
-/
import Derived.Test.YtpdlpdkehminlaaGreatDoorStC
import Derived.Shelf.Abstract
set_option linter.all false
set_option maxRecDepth 100000
set_option maxHeartbeats 20000000
open Go renaming Program->zZ
open Nat renaming beq->zD
open Option.some renaming injEq->zb
namespace Go.Ev
open Go.Proofs Go.RowKit
set_option maxRecDepth 100000
theorem Tw{r:N6}(h:TQ r=true):∃S,r=.ok (.bool true) S:=by
 unfold TQ at h;split at h
 .exact⟨_,rfl⟩
 .cases h
theorem mixed:Tryz.prog.follows .mixedOrders=true:=by kernel_rfl
theorem Xx:(Tryz.prog.funcs.toList.all λfn=>fn.body.isNone|| !(fn.name== "runtime.NumGoroutine"))=true:=by kernel_rfl
theorem WN:∀(f:FuncId)(fn:Func),Tryz.prog.funcs[f]?=some fn->fn.body.isSome=true->(fn.name== "runtime.NumGoroutine")=false:=by
 intro f fn hf hb;have hmem:fn∈Tryz.prog.funcs.toList:=by
  have:Tryz.prog.funcs.toList[f]?=some fn:=by simpa using hf
  exact List.mem_of_getElem? this
 have:=List.all_eq_true.1 Xx fn hmem;cases hbd:fn.body with
 |none=>rw[hbd]at hb;cases hb
 |some c=>rw[hbd]at this;simpa using this
theorem Xc:Tryz.prog.globals.size=5:=by kernel_rfl
theorem Wd:∀args w,(callFunc 22 args).run Tryz.prog w=.ok (.enter 22 args) w:=enters_of Tryz.func22 (by kernel_rfl) rfl
theorem Ut{P:zZ}{prims:QS}(h:Ha P prims){f:FuncId}{p:List CV->St->N6}(hp:Vu P f p):Ha P (λg=>bif zD g f then some p else prims g):=by
 intro g q a;change(bif zD g f then some p else prims g)=some q at a;cases hb:zD g f with
 |true=>rw[hb,cond_true]at a;cases a;obtain rfl:=Nat.eq_of_beq_eq_true hb;exact hp
 |false=>rw[hb,cond_false]at a;exact h g q a
theorem QR{P:zZ}:Ha P (λ_=>none):=λ_ _ h=>by cases h
theorem TG:Ha Tryz.prog VB:=Ut QR (O9 Tryz.underlying3 Wd RY)
theorem UK{P:zZ}(hm:P.follows .mixedOrders=true)(hn:∀(f:FuncId)(fn:Func),P.funcs[f]?=some fn->fn.body.isSome=true->(fn.name== "runtime.NumGoroutine")=false){prims:QS}(hp:Ha P prims){n:Nat}{f:FuncId}(hf:prims f=none){args:List CV}{S S':St}{v:CV}(h:Pe P prims (n+1) f args S=.ok v S'){ρ:Ren}{w:World}{L:List Value}(hr:Rel ρ S w)(hg:FE P ρ)(hL:yG ρ args=some L):Calls P f L.toArray w λe w'=>∃ρ' V,e=.returned V/\Stp ρ S w ρ' S' w'/\yx ρ' v=some V:=by have e:Pe P prims (n+1) f args S=(match prims f with|some p=>p args S|none=>TH (fnC P f) (Pe P prims n) args S):=rfl;rw[e,hf]at h;exact(QE hm (S8 P) (Qj hm (S8 P) hn hp n) h hr hg hL).2
theorem OQ{ρ:Ren}{w:World}(hr:Rel ρ (SW VE 24 1) w)(hg:FE Tryz.prog ρ)(noW:∀b,¬(SW VE 24 1).hasW b):Calls Tryz.prog 7 #[] w λe w'=>e=.returned (.bool true)/\Below w.heap.size w w':=by obtain⟨d,h⟩:=Tw RH;have:=UK mixed WN TG (n:=199) (f:=7) rfl h hr hg (L:=[]) rfl;refine Calls.mono this (λe w' he=>?_);obtain⟨ρ',V,rfl,a,c⟩:=he;simp only[yx,zb]at c;subst c;exact⟨rfl,a.os,a.tape,a.output,a.size,λx hx=>a.keep x hx (λb D hb=>(noW b hb).elim)⟩
end Go.Ev
