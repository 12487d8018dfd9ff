/-
  Part of the proof: Operations that look at no memory, the last: binary operators, composites, lengths.
-/
import Derived.Test.YtpdlpdkehminlaaGreatDoorEvH
set_option linter.all false
set_option maxRecDepth 100000
set_option maxHeartbeats 20000000
open Array renaming ext'->iq,toArray_toList->zch
open Bool renaming false_eq_true->zH
open Go renaming Call->zaR,IntKind->iB,Operand->eo,Program->zZ,TypeId->zL,Value->zg,World->ze
open Go.Builtin renaming len_->ot,max2->zdp,max_->zdo
open Go.ByteArray renaming toList_eq->iQ
open Go.Instr renaming build->zdS,fill->zd3
open Go.Op renaming equal->zbM,intArith->zaH,intBits->zbU,intCmp->l5,maxDepth->zdH,stringOp->lZ
open Go.Result renaming andThen_ok->zr
open Go.Sem renaming run_bind->zK,run_pure->zP
open Go.Value renaming cells->zao
open Nat renaming beq->zD,ble->ic
open Option renaming bind_eq_some_iff->zu,map_eq_some_iff->zh
open Option.some renaming injEq->zb
namespace Go.Ev
section
variable{P:zZ} {o:Oper}
theorem FC(op:BinOp)(t:zL)(x y:eo)(k k':iB)(a b:Int)(w:ze):(eqGuard op t x y (.int k a) (.int k' b)).run P w=.ok () w:=by unfold eqGuard;split<;>rfl
theorem Cn(a b:Int):(!decide (b<a))=decide (a<=b):=by rw[<-decide_not];congr 1;simp[Int.not_lt]
theorem UR{op:BinOp}{f:iB->Int->Int->Option CV}(hf:Xo op=some f){k:iB}{a b:Int}{v:CV}(h:f k a b=some v)(ρ:Ren)(t:zL):∃V,yx ρ v=some V/\∀w,(binOp op t (.int k a) (.int k b)).run P w=.ok V w:=by
 cases op<;>simp only[Xo,zb,reduceCtorEq]at hf<;>subst hf
 .simp only[XK,EM,zb,Ns]at h;subst h;exact⟨_,rfl,λw=>by simp[binOp,zaH]<;>rfl⟩
 .simp only[XM,EM,zb,Ns]at h;subst h;exact⟨_,rfl,λw=>by simp[binOp,zaH]<;>rfl⟩
 .simp only[eqI,zb,B4]at h;subst h;exact⟨_,rfl,λw=>by simp[binOp,l5]⟩
 .simp only[neI,zb,B4]at h;subst h;exact⟨_,rfl,λw=>by simp[binOp,l5,bne]⟩
 .simp only[ltI,zb,Bw]at h;subst h;exact⟨_,rfl,λw=>by simp[binOp,l5]⟩
 .simp only[leI,zb,Bw]at h;subst h;exact⟨_,rfl,λw=>by simp[binOp,l5]<;>simp[Cn]⟩
 .simp only[gtI,zb,Bw]at h;subst h;exact⟨_,rfl,λw=>by simp[binOp,l5]⟩
 .simp only[geI,zb,Bw]at h;subst h;exact⟨_,rfl,λw=>by simp[binOp,l5]<;>simp[Cn]⟩
theorem Oi{op:BinOp}{t t':zL}{x y:eo}{f:iB->Int->Int->Option CV}(hf':Xo op=some f)(ho:o.op=.binOp op t x y t'):Ax P o (Ca (opd P x) (opd P y) (Xl op f)):=by
 intro ρ nt tm a v hf hg h;obtain⟨u,z,r,B,q⟩:=Bj h;have d:=ym hf hg x _ r;have i:=ym hf hg y _ B;rcases Td q with⟨k,m,n,rfl,rfl,b⟩|⟨c,A,p,rfl,b⟩;rotate_left
 .unfold Oh at b;split at b
  .rename_i kk;simp only[yx,zh]at d;obtain⟨s,j,d⟩:=d;obtain⟨_,_,E,D⟩:=Ren.ustr_some j;simp only[yx,zb]at i;have g:v=.bool (decide ((kk:Int)<s.size)):=by
    cases hb:ic p kk with
    |true=>rw[hb,cond_true]at b;cases b;have:=A9 hb;congr 1;exact(decide_eq_false (by omega)).symm
    |false=>
     rw[hb,cond_false]at b;cases hb2:Nat.blt kk A with
     |true=>rw[hb2,cond_true]at b;cases b;have:=yF hb2;congr 1;exact(decide_eq_true (by omega)).symm
     |false=>rw[hb2]at b;cases b
   subst g;refine⟨.bool (decide ((kk:Int)<s.size)),rfl,λw=>?_⟩;simp only[execOp,ho,<-d,<-i,zK,FC,zr];simp[binOp,l5]
  .cases b
 simp only[yx,zb]at d i;obtain⟨V,C,l⟩:=UR (P:=P) hf' b ρ t;refine⟨V,C,λw=>?_⟩;simp only[execOp,ho,<-d,<-i,zK,FC,zr,l,zP]
theorem Rz{op:BinOp}{k:iB}{a b:Int}{v:CV}(hs1:op≠ .shl)(hs2:op≠ .shr)(h:Qa op k a b=some v)(ρ:Ren)(t:zL):∃V,yx ρ v=some V/\∀w,(binOp op t (.int k a) (.int k b)).run P w=.ok V w:=by
 cases op<;>simp only[Qa,reduceCtorEq]at h
 .simp only[EM,zb,Ns]at h;subst h;exact⟨_,rfl,λw=>by simp[binOp,zaH]<;>rfl⟩
 .simp only[EM,zb,Ns]at h;subst h;exact⟨_,rfl,λw=>by simp[binOp,zaH]<;>rfl⟩
 .simp only[EM,zb,Ns]at h;subst h;exact⟨_,rfl,λw=>by simp[binOp,zaH]<;>rfl⟩
 .cases hb:Gh b 0 with
  |true=>rw[hb]at h;cases h
  |false=>
   rw[hb,cond_false]at h;simp only[zb,Ns]at h;subst h;rw[B4]at hb;have:b≠0:=by simpa using hb
   exact⟨_,rfl,λw=>by simp[binOp,Op.intDiv,this]⟩
 .cases hb:Gh b 0 with
  |true=>rw[hb]at h;cases h
  |false=>
   rw[hb,cond_false]at h;simp only[zb]at h;subst h;rw[B4]at hb;have:b≠0:=by simpa using hb
   exact⟨_,rfl,λw=>by simp[binOp,Op.intDiv,this]⟩
 .cases h;exact⟨_,rfl,λw=>by simp[binOp,zbU]⟩
 .cases h;exact⟨_,rfl,λw=>by simp[binOp,zbU]⟩
 .cases h;exact⟨_,rfl,λw=>by simp[binOp,zbU]⟩
 .cases h;exact⟨_,rfl,λw=>by simp[binOp,zbU]⟩
 .simp only[zb,B4]at h;subst h;exact⟨_,rfl,λw=>by simp[binOp,l5]<;>simp[Cn]⟩
 .simp only[zb,B4]at h;subst h;exact⟨_,rfl,λw=>by simp[binOp,l5,bne]⟩
 .simp only[zb,Bw]at h;subst h;exact⟨_,rfl,λw=>by simp[binOp,l5]<;>simp[Cn]⟩
 .simp only[zb,Bw]at h;subst h;exact⟨_,rfl,λw=>by simp[binOp,l5]<;>simp[Cn]⟩
 .simp only[zb,Bw]at h;subst h;exact⟨_,rfl,λw=>by simp[binOp,l5]<;>simp[Cn]⟩
 .simp only[zb,Bw]at h;subst h;exact⟨_,rfl,λw=>by simp[binOp,l5]<;>simp[Cn]⟩
def Wp(P:zZ)(op:BinOp)(t:zL):Prop:=JZ op=true->∀i,Ac P t=some i->Bs i.desc=true->P.eqGuardType P.depth t=false
theorem UN{d:Nat}{t:zL}{xs:List CV}{y:CV}{r:Bool}(h:DX (FV P d t) (.agg xs) y=some r):∃i,Ac P t=some i/\Bs i.desc=true:=by
 cases d with
 |zero=>simp[FV,DX]at h
 |succ d=>
  simp only[FV]at h;cases ht:Ac P t with
  |none=>rw[ht]at h;simp[DX]at h
  |some i=>rw[ht]at h;simp only at h;refine⟨i,rfl,?_⟩;cases hd:i.desc<;>rw[hd]at h<;>first|rfl|(simp only at h;split at h<;>cases y<;>simp[DX]at h;done)|(cases y<;>simp[DX]at h)
theorem Jf{t:zL}{X Y:zg}{r:Bool}(hr:∀w,(zbM t X Y).run P w=.ok r w)(hX:∀k n,X≠ .int k n)(hXf:∀k n,X≠ .float k n)(hXc:∀k n m,X≠ .complex k n m)(hXs:∀s,X≠ .string s)(w:ze):(binOp .eql t X Y).run P w=.ok (.bool r) w/\(binOp .neq t X Y).run P w=.ok (.bool (!r)) w:=by cases X<;>first|(exact absurd rfl (hX _ _))|(exact absurd rfl (hXf _ _))|(exact absurd rfl (hXc _ _ _))|(exact absurd rfl (hXs _))|(constructor<;>simp[binOp,hr])
theorem Ry{ρ:Ren}{u:CV}{V:zg}(hu:∀i,u≠ .opq i)(hs:∀c lo hi,u≠ .ustr c lo hi)(hl:∀c lo hi,u≠ .ulen c lo hi)(h:yx ρ u=some V):(∀k n,V=.int k n->u=.int k n)/\(∀k n,V≠ .float k n)/\(∀k n m,V≠ .complex k n m)/\(∀s,V=.string s->∃s',u=.str s')/\(V=.nilIface->u=.nili)/\(∀l,V=.agg l->∃l',u=.agg l'):=by
 cases u<;>simp only[yx,zb,zh,zu]at h
 case opq i=>exact(hu i rfl).elim
 case ustr c lo hi=>exact(hs c lo hi rfl).elim
 case ulen c lo hi=>exact(hl c lo hi rfl).elim
 all_goals
  first
   |subst h
   |(obtain⟨x,a,rfl⟩:=h)
   |(obtain⟨x,a,y,b,rfl⟩:=h)
 all_goals(refine⟨λk n e=>?_,λk n e=>?_,λk n m e=>?_,λs e=>?_,λe=>?_,λl e=>?_⟩<;>first|(cases e;done)|(cases e;rfl)|(cases e;exact⟨_,rfl⟩))
theorem Tl{op:BinOp}{t t':zL}{x y:eo}(hgd:Wp P op t)(ho:o.op=.binOp op t x y t'):Ax P o (Ca (opd P x) (opd P y) (Xu op (bif JZ op then FV P EF t else .no))):=by
 intro ρ nt tm a v hf hg h;obtain⟨u,z,hu,hz,b⟩:=Bj h;have p:=ym hf hg x _ hu;have l:=ym hf hg y _ hz;clear hu hz h;have Z:(∀c I D,u≠ .ustr c I D)->(∀k n,u≠ .int k n)->(∀s,u≠ .str s)->u≠ .nili->z≠ .nili->ON op (bif JZ op then FV P EF t else .no) u z=some v->∃V,yx ρ v=some V/\∀w,(execOp a.eval o).run P w=.ok (.value V) w:=by
  intro n0 n1 n2 n3 n4 h;have ae:∀i,u≠ .opq i:=by
   rintro i rfl;cases op<;>simp only[ON,reduceCtorEq]at h
   .obtain⟨r,d,_⟩:=Db h;simp[DX]at d
   .obtain⟨r,d,_⟩:=Da h;simp[DX]at d
  have S:∀c I D,u≠ .ulen c I D:=by
   rintro c I D rfl;cases op<;>simp only[ON,reduceCtorEq]at h
   .obtain⟨r,d,_⟩:=Db h;simp[DX]at d
   .obtain⟨r,d,_⟩:=Da h;simp[DX]at d
  obtain⟨W,O,Q,af,T,ab⟩:=Ry ae n0 S p;have hX:∀k n,a.eval x≠ .int k n:=λk n e=>n1 _ _ (W _ _ e);have N:∀s,a.eval x≠ .string s:=λs e=>by obtain⟨R,e'⟩:=af _ e;exact n2 _ e'
  have ac:a.eval x≠ .nilIface:=λe=>n3 (T e);have A:∀r,JZ op=true->DX (FV P EF t) u z=some r->∀w,(eqGuard op t x y (a.eval x) (a.eval y)).run P w=.ok () w:=by
   intro r ad F w;unfold eqGuard;cases op<;>simp only[JZ,zH]at ad;all_goals
    cases ex:a.eval x<;>simp only[Bool.not_true,zH,if_false,zP]
    case nilIface=>exact absurd ex ac
    case agg cs=>cases ey:a.eval y<;>simp only[zP];rw[ex]at p;obtain⟨xs,rfl⟩:=ab _ ex;obtain⟨i,D,ag⟩:=UN F;have:=hgd rfl i D ag;simp[this]
  cases op<;>simp only[ON,reduceCtorEq]at h
  .obtain⟨r,d,rfl⟩:=Db h;simp only[JZ,cond_true]at d;have F:∀w,(zbM t (a.eval x) (a.eval y)).run P w=.ok r w:=λw=>E1 EF zdH (by decide) t u z _ _ r d p l w;refine⟨_,rfl,λw=>?_⟩;simp only[execOp,ho,zK,A r rfl d w,zr,(Jf F hX O Q N w).1,zP]
  .obtain⟨r,d,rfl⟩:=Da h;simp only[JZ,cond_true]at d;have F:∀w,(zbM t (a.eval x) (a.eval y)).run P w=.ok r w:=λw=>E1 EF zdH (by decide) t u z _ _ r d p l w;refine⟨_,rfl,λw=>?_⟩;simp only[execOp,ho,zK,A r rfl d w,zr,(Jf F hX O Q N w).2,zP]
 unfold Xu at b;cases u with
 |int k m=>
  cases z<;>simp only[reduceCtorEq]at b;rename_i k' n;simp only[yx,zb]at p l;have Y:(∃V,yx ρ v=some V/\∀w,(binOp op t (.int k m) (.int k' n)).run P w=.ok V w)->∃V,yx ρ v=some V/\∀w,(execOp a.eval o).run P w=.ok (.value V) w:=by rintro⟨V,X,H⟩;refine⟨V,X,λw=>?_⟩;simp only[execOp,ho,<-p,<-l,zK,FC,zr,H,zP]
  apply Y;by_cases q:op=.shl
  .subst q;simp only at b;cases g:Fi n 0 with
   |true=>rw[g]at b;cases b
   |false=>
    rw[g,cond_false]at b;cases b;rw[Bw]at g;have:¬n<0:=by simpa using g
    exact⟨_,rfl,λw=>by simp[binOp,Op.shift,this]⟩
  .by_cases f:op=.shr
   .subst f;simp only at b;cases g:Fi n 0 with
    |true=>rw[g]at b;cases b
    |false=>
     rw[g,cond_false]at b;cases b;rw[Bw]at g;have:¬n<0:=by simpa using g
     exact⟨_,rfl,λw=>by simp[binOp,Op.shift,this]⟩
   .have U:(if k=k' then Qa op k m n else none)=some v:=by cases op<;>first|exact b|exact absurd rfl q|exact absurd rfl f
    split at U
    .rename_i hk;subst hk;exact Rz q f U ρ t
    .cases U
 |str s=>
  cases z<;>simp only[reduceCtorEq]at b;rename_i R;simp only[yx,zb]at p l;obtain⟨V,X,H⟩:=ME (P:=P) b ρ;refine⟨V,X,λw=>?_⟩;have j:(eqGuard op t x y (.string (yH s)) (.string (yH R))).run P w=.ok () w:=by unfold eqGuard;split<;>rfl
  have g:binOp op t (.string (yH s)) (.string (yH R))=lZ op (yH s) (yH R):=by cases op<;>rfl
  simp only[execOp,ho,<-p,<-l,zK,j,zr,g,H,zP]
 |nili=>cases b
 |ustr c I D=>
  simp only[yx,zh]at p;obtain⟨C,q,p⟩:=p;have b:ON op (bif JZ op then FV P EF t else .no) (.ustr c I D) z=some v:=by cases z<;>first|(cases b;done)|exact b
  have M:∀E r,DX E (.ustr c I D) z=some r->∃L G J,z=.ustr L G J/\r=zD c L:=by intro E r F;cases E<;>cases z<;>simp[DX]at F;exact⟨_,_,_,rfl,F.symm⟩
  have j:∀(C B:ByteArray)(w:ze),(eqGuard op t x y (.string C) (.string B)).run P w=.ok () w:=by intro C B w;unfold eqGuard;split<;>rfl
  have g:∀C B:ByteArray,binOp op t (.string C) (.string B)=lZ op C B:=by intro C B;cases op<;>rfl
  cases op<;>simp only[ON,reduceCtorEq]at b
  .obtain⟨r,d,rfl⟩:=Db b;obtain⟨L,G,J,rfl,rfl⟩:=M _ r d;simp only[yx,zh]at l;obtain⟨B,f,l⟩:=l;have hq:(C.toList==B.toList)=zD c L:=by rw[iQ,iQ,<-C9];exact O8 q f
   refine⟨_,rfl,λw=>?_⟩;simp only[execOp,ho,<-p,<-l,zK,j,zr,g,lZ,hq,zP]
  .obtain⟨r,d,rfl⟩:=Da b;obtain⟨L,G,J,rfl,rfl⟩:=M _ r d;simp only[yx,zh]at l;obtain⟨B,f,l⟩:=l;have hq:(C.toList==B.toList)=zD c L:=by rw[iQ,iQ,<-C9];exact O8 q f
   refine⟨_,rfl,λw=>?_⟩;simp only[execOp,ho,<-p,<-l,zK,j,zr,g,lZ,hq,zP]
 |_=>
  cases z with
  |nili=>cases b
  |_=>exact Z (by simp) (by simp) (by simp) (by simp) (by simp) b
end
section
variable{P:zZ} {o:Oper}
theorem Bk{ρ:Ren}{v:CV}{V:zg}(h:yx ρ v=some V):yG ρ v.cells=some V.cells.toList:=by
 cases v<;>simp only[yx,zb,zh,zu]at h
 case agg l=>obtain⟨L,b,rfl⟩:=h;simpa[CV.cells,zao]using b
 case opq i=>obtain⟨x,a,rfl⟩:=h;cases x<;>simp[CV.cells,zao,yG,yx,a,Wi.val]
 all_goals
  first
   |(subst h;simp[CV.cells,zao,yG,yx];done)
   |(obtain⟨x,a,rfl⟩:=h;simp[CV.cells,zao,yG,yx,a];done)
   |(obtain⟨x,a,y,c,rfl⟩:=h;simp[CV.cells,zao,yG,yx,a,c];done)
theorem MC{ρ:Ren}:∀{l:List CV}{L:List zg}{v:CV}{V:zg}(n:Nat),yG ρ l=some L->yx ρ v=some V->yG ρ (l.set n v)=some (L.set n V)
 |[],L,v,V,n,e,hv=>by simp[yG]at e;subst e;simp[yG]
 |u::l,L,v,V,n,e,hv=>by
  simp only[yG,zu,zh]at e;obtain⟨x,hx,y,hy,rfl⟩:=e;cases n with
  |zero=>simpa using BM hv hy
  |succ n=>simpa using BM hx (MC n hy hv)
def I0:List zg->Nat->List zg->List zg
 |cs,_,[]=>cs
 |cs,i,v::vs=>I0 (cs.set i v) (i+1) vs
theorem Fw{ρ:Ren}:∀{vs:List CV}{Vs:List zg}{l:List CV}{L:List zg}(i:Nat),yG ρ vs=some Vs->yG ρ l=some L->yG ρ (setCells l i vs)=some (I0 L i Vs)
 |[],Vs,l,L,i,e,hl=>by simp[yG]at e;subst e;simpa[setCells,I0]using hl
 |v::vs,Vs,l,L,i,e,hl=>by simp only[yG,zu,zh]at e;obtain⟨x,hx,y,hy,rfl⟩:=e;exact Fw (i+1) hy (MC i hl hx)
theorem NT(off:Nat):∀(vs:List zg)(k:Nat)(L:List zg),(vs.zipIdx k).foldl (λ(cs:Array zg)(x:zg×Nat)=>cs.setIfInBounds (off+x.2) x.1) L.toArray=(I0 L (off+k) vs).toArray
 |[],k,L=>rfl
 |v::vs,k,L=>by
  rw[List.zipIdx_cons,List.foldl_cons];have:L.toArray.setIfInBounds (off+k) v=(L.set (off+k) v).toArray:=by apply iq;simp
  rw[this,NT off vs (k+1),I0,Nat.add_assoc]
theorem Ir{ρ:Ren}{nt:Nat}{tm:Tm}{a:Act}(hf:A6 ρ nt tm a)(hg:FE P ρ)(place:Nat->Option (Nat×Nat)):∀(ps:List (Nat×eo))(l:List (Nat×Nat×Opd))(vs:List (Nat×Nat×CV))(zs cs:List CV)(Z:List zg),DH P place ps=some l->Fp l tm=some vs->Pb zs vs=some cs->yG ρ zs=some Z->∃C,yG ρ cs=some C/\zd3 place Z.toArray (ps.map λx=>(x.1,a.eval x.2))=some C.toArray
 |[],l,vs,zs,cs,Z,h1,h2,h3,h4=>by simp only[DH,zb]at h1;subst h1;simp only[Fp,zb]at h2;subst h2;simp only[Pb,zb]at h3;subst h3;exact⟨Z,h4,rfl⟩
 |(i,x)::ps,l,vs,zs,cs,Z,h1,h2,h3,h4=>by
  simp only[DH]at h1;split at h1
  .rename_i off size l' hp hl;cases h1;simp only[Fp]at h2;split at h2
   .cases h2
   .rename_i v hv;split at h2
    .cases h2
    .rename_i us hus;cases h2;simp only[Pb]at h3;cases hc:(zD v.cells.length size&&ic (off+v.cells.length) zs.length)with
     |false=>rw[hc]at h3;cases h3
     |true=>rw[hc,cond_true]at h3;simp only[Bool.and_eq_true]at hc;have c1:=yZ hc.1;have j:=A9 hc.2;have d:=ym hf hg x v hv;have c:=Bk d;have b:=Af c;have h:=Af h4;obtain⟨C,g,f⟩:=Ir hf hg place ps l' us _ cs _ hl hus h3 (Fw off c h4);refine⟨C,g,?_⟩;simp only[List.map_cons,zd3,hp];simp only[Array.length_toList]at b;rw[if_neg (by simp;omega)];have:=NT off (a.eval x).cells.toList 0 Z;simp only[Nat.add_zero]at this;rw[<-f,<-this,<-Array.foldl_toList,Array.toList_zipIdx]
  .cases h1
theorem Kh:∀(fs:List Field)(pl:List (Nat×Nat)),KI P fs=some pl->∀w,((fs.mapM λf=>do pure (f.offset,<-sizeOf f.type):Sem (List (Nat×Nat)))).run P w=.ok pl w
 |[],pl,h,w=>by simp only[KI,zb]at h;subst h;rfl
 |f::fs,pl,h,w=>by
  simp only[KI]at h;split at h
  .rename_i i l hi hl;cases h;rw[List.mapM_cons];simp only[zK,yW hi w,zr,zP,Kh fs l hl w]
  .cases h
theorem JP{zs:List CV}{l:List (Nat×Nat×Opd)}{tm:Tm}{v:CV}(h:Ej zs l tm=some v):∃vs cs,Fp l tm=some vs/\Pb zs vs=some cs/\v=.agg cs:=by
 unfold Ej at h;split at h
 .rename_i vs hvs;split at h
  .rename_i cs hcs;cases h;exact⟨vs,cs,hvs,hcs,rfl⟩
  .cases h
 .cases h
theorem Ig{t:zL}{ps:Array (Nat×eo)}{i:TyE}{z:CV}{fields:Array Field}{pl:List (Nat×Nat)}{l:List (Nat×Nat×Opd)}(ht:Ac P t=some i)(hz:BW P t=some z)(hi:i.desc=.struct fields)(hpl:KI P fields.toList=some pl)(hl:DH P (pl[·]?) ps.toList=some l)(ho:o.op=.build t ps):Ax P o (Ej z.cells l):=by
 intro ρ nt tm a v hf hg h;obtain⟨k,p,m,s,rfl⟩:=JP h;obtain⟨Z,A,d⟩:=AD hz (ρ:=ρ) default;obtain⟨C,n,f⟩:=Ir hf hg (pl[·]?) ps.toList l k z.cells p _ hl m s (Bk d);refine⟨.agg C.toArray,by simp[yx,n],λw=>?_⟩;obtain⟨y,g,b⟩:=AD hz (ρ:=ρ) w;rw[d]at b;cases b;have c:=yg ht w;rw[hi]at c;have j:=Kh _ _ hpl w;simp only[execOp,ho,zdS,zK,g,zr,c];rw[Array.mapM_eq_mapM_toList];simp only[Sem.run_map,j,zr];have r:(λx:Nat=>pl.toArray[x]?)=(λx:Nat=>pl[x]?):=by funext x;simp
 have q:(ps.map λx=>(x.1,a.eval x.2)).toList=ps.toList.map λx=>(x.1,a.eval x.2):=by simp
 rw[r,q];simp only[zch]at f;rw[f];rfl
theorem Lr{t:zL}{ps:Array (Nat×eo)}{i:TyE}{z:CV}{n:Nat}{e:zL}{ei:TyE}{l:List (Nat×Nat×Opd)}(ht:Ac P t=some i)(hz:BW P t=some z)(hi:i.desc=.array n e)(he:Ac P e=some ei)(hl:DH P (λi=>some (i*ei.size,ei.size)) ps.toList=some l)(ho:o.op=.build t ps):Ax P o (Ej z.cells l):=by
 intro ρ nt tm a v hf hg h;obtain⟨k,q,m,s,rfl⟩:=JP h;obtain⟨Z,A,d⟩:=AD hz (ρ:=ρ) default;obtain⟨C,p,f⟩:=Ir hf hg _ ps.toList l k z.cells q _ hl m s (Bk d);refine⟨.agg C.toArray,by simp[yx,p],λw=>?_⟩;obtain⟨y,g,b⟩:=AD hz (ρ:=ρ) w;rw[d]at b;cases b;have c:=yg ht w;rw[hi]at c;have j:=yW he w;have r:(ps.map λx=>(x.1,a.eval x.2)).toList=ps.toList.map λx=>(x.1,a.eval x.2):=by simp
 simp only[execOp,ho,zdS,zK,g,zr,c,j];rw[r];simp only[zch]at f;rw[f];rfl
theorem Aq{c:zaR}{b:Builtin}(hc:c.callee=.builtin b)(ho:o.op=.call c)(a:Act)(w:ze):∃cs,(execOp a.eval o).run P w=(builtin b c.argTypes o.type cs (c.args.map a.eval)).run P w:=by simp only[execOp,ho,resolve,hc,zK,zP,zr,invoke];exact⟨_,rfl⟩
theorem Lm{xs:Array eo}{x:eo}(h:xs.toList=[x]):xs=#[x]:=by apply iq;simpa using h
theorem Gu{xs:Array eo}{x y:eo}(h:xs.toList=[x,y]):xs=#[x,y]:=by apply iq;simpa using h
theorem IR{xs:Array zL}{x:zL}(h:xs.toList=[x]):xs=#[x]:=by apply iq;simpa using h
theorem JT{xs:Array zL}{x y:zL}(h:xs.toList=[x,y]):xs=#[x,y]:=by apply iq;simpa using h
def Vm(k:Xv)(d:TypeDesc):Prop:=
 match k,d with
 |.str,.string=>True
 |.sl,.slice _=>True
 |.arr n,.array m _=>n=m
 |_,_=>False
theorem K6 {c : zaR} {t : zL} {x : eo} {i : TyE} {k : Xv} (hc : c.callee = .builtin .len) (hts : c.argTypes.toList = [t]) (has : c.args.toList = [x]) (ht : Ac P t = some i) (hk : Vm k i.desc)
    (ho : o.op = .call c) : Ax P o (BE (opd P x) (VV k)) := by
  intro ρ nt tm a v hf hg h
  obtain ⟨u, p, j⟩ := AJ h
  have f := ym hf hg x u p
  have hts := IR hts
  have has := Lm has
  have g : ∀ n : Nat, v = .int .i64 n → (∀ w, (ot #[t] o.type #[a.eval x]).run P w = .ok (goInt n) w) → ∃ V, yx ρ v = some V ∧ ∀ w, (execOp a.eval o).run P w = .ok (.value V) w := by
    intro n q m
    subst q
    refine ⟨_, rfl, fun w => ?_⟩
    obtain ⟨l, e⟩ := Aq (P := P) hc ho a w
    rw [e, hts, has]
    simp [builtin, m, goInt]
  cases k with
  | str =>
    cases hd : i.desc <;> rw [hd] at hk <;> simp only [Vm] at hk
    cases u <;> simp only [VV, reduceCtorEq, zb] at j
    · rename_i s
      refine g s.length j.symm fun w => ?_
      have d := yg ht w
      rw [hd] at d
      simp only [yx, zb] at f
      simp [ot, d, ← f, AL]
    · rename_i c lo hi
      subst j
      simp only [yx, zh] at f
      obtain ⟨s, j, f⟩ := f
      refine ⟨.int .i64 s.size, by simp [yx, j], fun w => ?_⟩
      have d := yg ht w
      rw [hd] at d
      obtain ⟨l, e⟩ := Aq (P := P) hc ho a w
      rw [e, hts, has]
      simp [builtin, ot, d, ← f, goInt]
  | sl =>
    cases hd : i.desc <;> rw [hd] at hk <;> simp only [Vm] at hk
    cases u <;> simp only [VV, reduceCtorEq, zb] at j
    · refine g 0 j.symm fun w => ?_
      have d := yg ht w
      rw [hd] at d
      simp only [yx, zb] at f
      simp [ot, d, ← f]
    · rename_i b off n c'
      refine g n j.symm fun w => ?_
      have d := yg ht w
      rw [hd] at d
      simp only [yx, zu, zh] at f
      obtain ⟨y, A, z, r, f⟩ := f
      simp [ot, d, ← f]
    · refine g 0 j.symm fun w => ?_
      have d := yg ht w
      rw [hd] at d
      simp only [yx, zu, zh] at f
      obtain ⟨y, A, z, r, f⟩ := f
      simp [ot, d, ← f]
  | arr n =>
    cases hd : i.desc <;> rw [hd] at hk <;> simp only [Vm] at hk
    subst hk
    refine g n ?_ fun w => ?_
    · cases u <;> simp only [VV, zb] at j <;> exact j.symm
    · have d := yg ht w
      rw [hd] at d
      simp [ot, d]
theorem SM{x y v:CV}(h:Xq x y=some v):∃k a b,x=.int k a/\y=.int k b/\v=.int k (if b<a then b else a):=by
 unfold Xq at h;split at h
 .rename_i k a k' b;split at h
  .rename_i hk;subst hk;cases h;refine⟨k,a,b,rfl,rfl,?_⟩;rw[Bw];by_cases c:b<a<;>simp[c]
  .cases h
 .cases h
theorem Jn{x y v:CV}(h:VU x y=some v):∃k a b,x=.int k a/\y=.int k b/\v=.int k (if b>a then b else a):=by
 unfold VU at h;split at h
 .rename_i k a k' b;split at h
  .rename_i hk;subst hk;cases h;refine⟨k,a,b,rfl,rfl,?_⟩;rw[Bw];by_cases c:a<b<;>simp[c]
  .cases h
 .cases h
theorem UG{c:zaR}{x y:eo}(hc:c.callee=.builtin .min)(has:c.args.toList=[x,y])(ho:o.op=.call c):Ax P o (Ca (opd P x) (opd P y) Xq):=by intro ρ nt tm a v hf hg h;obtain⟨u,z,g,i,f⟩:=Bj h;have b:=ym hf hg x _ g;have d:=ym hf hg y _ i;have has:=Gu has;obtain⟨k,m,n,rfl,rfl,rfl⟩:=SM f;simp only[yx,zb]at b d;refine⟨_,rfl,λw=>?_⟩;obtain⟨j,e⟩:=Aq (P:=P) hc ho a w;rw[e,has];simp[builtin,Builtin.min_,<-b,<-d,Builtin.min2]
theorem Vd{c:zaR}{x y:eo}(hc:c.callee=.builtin .max)(has:c.args.toList=[x,y])(ho:o.op=.call c):Ax P o (Ca (opd P x) (opd P y) VU):=by intro ρ nt tm a v hf hg h;obtain⟨u,z,g,i,f⟩:=Bj h;have b:=ym hf hg x _ g;have d:=ym hf hg y _ i;have has:=Gu has;obtain⟨k,m,n,rfl,rfl,rfl⟩:=Jn f;simp only[yx,zb]at b d;refine⟨_,rfl,λw=>?_⟩;obtain⟨j,e⟩:=Aq (P:=P) hc ho a w;rw[e,has];simp[builtin,zdo,<-b,<-d,zdp]
theorem Su{c:zaR}{x y z:eo}(hc:c.callee=.builtin .max)(has:c.args.toList=[x,y,z])(ho:o.op=.call c):Ax P o (Wv (opd P x) (opd P y) (opd P z)):=by
 intro ρ nt tm a v hf hg h;unfold Wv at h;split at h
 .rename_i m t hm ht;obtain⟨u,r,j,l,i⟩:=Bj hm;have b:=ym hf hg x _ j;have d:=ym hf hg y _ l;have f:=ym hf hg z _ ht;have has:c.args=#[x,y,z]:=by apply iq;simpa using has
  obtain⟨k,p,q,rfl,rfl,rfl⟩:=Jn i;obtain⟨s,A,B,g,rfl,rfl⟩:=Jn h;cases g;simp only[yx,zb]at b d f;refine⟨_,rfl,λw=>?_⟩;obtain⟨n,e⟩:=Aq (P:=P) hc ho a w;rw[e,has];simp[builtin,zdo,<-b,<-d,<-f,zdp]
 .cases h
end
end Go.Ev
