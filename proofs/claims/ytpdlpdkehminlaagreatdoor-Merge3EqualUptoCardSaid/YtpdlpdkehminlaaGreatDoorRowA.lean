/-
  Part of the proof: Merge3Equal: the row's step: whatever the two trees and the pairs, of bulk at most 1048576, the law returns true and leaves its arguments as they were.
-/
import Derived.Test.YtpdlpdkehminlaaGreatDoorRowQ
import Derived.Test.YtpdlpdkehminlaaGreatDoorWP
import Derived.Test.YtpdlpdkehminlaaGreatDoorEvY
import Derived.Test.YtpdlpdkehminlaaGreatDoorFactC
import Derived.WideKeyArgs
set_option linter.all false
set_option maxRecDepth 100000
set_option maxHeartbeats 20000000
open Go renaming trodAll_cons_mk->zaN
open Go.ChangeShapes renaming trodAll_cons->zc9
open Go.MakeChecks renaming laidMetH_plain->zd0
open Go.Proofs.YtpdlpdkehminlaaGreatDoor.Rows renaming merge3EqualSpec->lc,merge3EqualUptoRow->eA,uptoBulkAll->oW
open Go.Proofs.YtpdlpdkehminlaaGreatDoor.Rows.OpenSpec renaming upto->lI
open Go.WideElems renaming Trod_stays->zar
namespace Go.Proofs.YtpdlpdkehminlaaGreatDoor
open Go.ChangeShapes Go.WideShapes Go.ChangeAt Go.RowKit Go.Clock
open Go.ChangeMaps (open_string shut_string)
open Go.Proofs
theorem Pg(H:Type)(enc:TypeId×Value->H)(W:World)(base:Nat)(args:Array Value)(ds gs:List (DataW H))(before:List MemPlace)(hval:∀(j:Nat) t v,Tryz.f4.params[j]?=some t->args[j]?=some v->Value.okWide Tryz.prog W .any base t v)(hW:DataW.Whole enc Tryz.prog Tryz.f4.params.toList lc.vars false W args.toList ds gs before)(hc:Rows.uptoSmall H (ds++gs)=true)(hX:laidMetH Tryz.prog eA.laid W):Calls Tryz.prog 4 args W λe W'=>∃v,e=.returned v/\lc.post enc Tryz.prog Tryz.f4 false true false false W args v W':=by
 have c:=hW;obtain⟨p,q,d,I,rfl,_,_⟩:=hW;have w:DataW.TrodAll enc Tryz.prog W 0 (λ_=>true) true Tryz.f4.params.toList args.toList ds p:=d;rw[Tryz.params4]at w hval;obtain⟨r,U,R,z,p0,V,f,rfl,rfl,n,S⟩:=zc9 w;obtain⟨o,y,O,P,Y,Z,rfl,rfl,rfl,m,D⟩:=zc9 S;obtain⟨k,M,A,C,p2,X,rfl,rfl,rfl,s,N⟩:=zc9 D;obtain⟨rfl,rfl,rfl⟩:=trodAll_nil N;obtain rfl:args=#[r,o,k]:=by cases args;simp_all
 obtain⟨rfl,rfl⟩:=trodVars_none I;have a:=λx hx=>c.lt x hx;obtain⟨T,E,L,rfl,J,b0⟩:=GK (hval 0 25 r rfl rfl) n;obtain⟨B,h,g,rfl,G,b1⟩:=GK (hval 1 25 o rfl rfl) m;obtain⟨l,F,b2,Q⟩:=JV (hval 2 26 k rfl rfl) s;rw[zd0 _ _ _ QD]at hX;have b:oW [R,O,A]<=1048576:=of_decide_eq_true hc;rw[oW,oW,oW,oW]at b;clear d hval;refine(SN (laid:=DQ) (List.mem_of_getElem? (i:=3) rfl) T B E L h g k l W J G F (by omega) (by omega) Q (by omega) hX).mono λe W' ⟨he,hb⟩=>?_;subst he;exact⟨_,rfl,LR c (λ_ _ _=>(zaN (shut_bool Tryz.underlying4 _) trodAll_mk0)) (λsp hsp=>zaN (zar Dt (by kernel_rfl) (of_decide_eq_true (by kernel_rfl)) n (λx hx=>hb.same (a x (by simp[hx]))) (λx hx=>hsp x (by simp[hx]))) (zaN (zar Dt (by kernel_rfl) (of_decide_eq_true (by kernel_rfl)) m (λx hx=>hb.same (a x (by simp[hx]))) (λx hx=>hsp x (by simp[hx]))) (zaN (zar Dt (by kernel_rfl) (of_decide_eq_true (by kernel_rfl)) s (λx hx=>hb.same (a x (by simp[hx]))) (λx hx=>hsp x (by simp[hx]))) trodAll_mk0))) (λ_ _=>rfl) rfl hb (ok_one (by kernel_rfl) rfl (okWide_bool_mk Tryz.underlying4 _))⟩
theorem SF(os:Os)(started:os.Started)(H:Type)(enc:TypeId×Value->H)(F:Stop.Interp):ReturnsInHanded {} Tryz.checked os 4 .any ((lI lc).preRow enc Tryz.prog Tryz.f4 eA.domain false eA.laid) (((lI lc).at F).post enc Tryz.prog Tryz.f4 false true false false):=by refine returnsInHanded_of_row (C:=Tryz.checked) (s:=(lI lc)) WJ started Sq Tryz.func4 (Rj enc os) ?_;intro W d c j i a f g _ b _ h _ _;exact Pg H enc W d c j i a f g (b _ rfl) h
end Go.Proofs.YtpdlpdkehminlaaGreatDoor
