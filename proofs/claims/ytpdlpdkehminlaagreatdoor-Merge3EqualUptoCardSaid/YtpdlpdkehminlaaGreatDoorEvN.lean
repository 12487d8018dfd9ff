/-
  Part of the proof: Appends.
-/
import Derived.Test.YtpdlpdkehminlaaGreatDoorEvL
import Derived.ArgAppend
import Derived.Laws.RangeString
import Derived.Laws.IdiomStrings
set_option linter.all false
set_option maxRecDepth 100000
set_option maxHeartbeats 20000000
open Array renaming ext'->iq,getElem?_append_left->zbx,getElem?_append_right->zbp,getElem?_eq_getElem->zU,length_toList->oH,replicate->eD
open Bool renaming and_eq_true->zo
open Go renaming Operand->eo,Program->zZ,TypeId->zL,Value->zg,World->ze,grownCap_ge->zds,growslice_fits->zep,run_underlying->eT,size_zeroCells->zeq
open Go.Addr renaming add_lit->zcC
open Go.Addr.mk renaming injEq->zby
open Go.Builtin renaming append_->lG,firstCells->eK,lenOf->iJ,nextslicecap->zb3,zeroCells->zae
open Go.Instr renaming next->zbJ
open Go.Next renaming value->zee
open Go.Sem renaming run_bind->zK,run_pure->zP
open Go.Value renaming int->zX
open Go.Value.slice renaming injEq->lg
open Int renaming ofNat_eq_natCast->zaW
open List renaming getElem?_eq_getElem->zc,getElem?_eq_some_iff->zm,size_toArray->zbh,take_length->zY
open Nat renaming add_mul->zcD,add_zero->oT,beq->zD,ble->ic,ble_eq_true_of_le->zcp,blt->zB,le_refl->zn,mul_le_mul_right->zcE,sub_zero->zcZ,zero_add->eV,zero_le->zbN
open Option renaming bind_eq_some_iff->zu,bind_some->iG,map_eq_some_iff->zh,map_some->zQ
open Option.some renaming injEq->zb
open Prod.mk renaming injEq->eH
open UInt8 renaming toNat_ofNat'->zcB
namespace Go.Ev
section
variable{P:zZ} (w:ze)
theorem CP(t u ty e:zL)(i:TyE)(d:TypeDesc)(ht:P.underlying t=some (.slice e))(hu:P.underlying u=some d)(hd:∀k,d≠ .int k)(hi:Ac P e=some i)(base:Option Addr)(sLen sCap:Nat)(X:zg)(n:Nat)(news:List zg)(hlen:(iJ X).run P w=.ok n w)(hf:(eK i.size n X).run P w=.ok news.toArray w)(hroom:sLen+n<=sCap):(lG #[t,u] ty #[.slice base sLen sCap,X]).run P w=match base with
   |none=>.ok (.slice none (sLen+n) sCap) w
   |some a=>((storeCells (a.add (sLen*i.size)) news).run P w).andThen λ_ w'=>.ok (.slice (some a) (sLen+n) sCap) w':=by
 have b:=yW hi w;cases base<;>simp[lG,eT ht,eT hu,b,hd,hlen,hroom,hf]
theorem Fo(t u ty e:zL)(i:TyE)(d:TypeDesc)(z:zg)(ht:P.underlying t=some (.slice e))(hu:P.underlying u=some d)(hd:∀k,d≠ .int k)(hi:Ac P e=some i)(hz:i.zero=some z)(base:Option Addr)(sLen sCap:Nat)(X:zg)(n:Nat)(olds news:List zg)(hlen:(iJ X).run P w=.ok n w)(hf:(eK i.size n X).run P w.drew=.ok news.toArray w.drew)(hfo:(eK i.size sLen (.slice base sLen sCap)).run P w.drew=.ok olds.toArray w.drew)(hg:sCap<sLen+n)(h63:((sLen+n:Nat):Int)<=9223372036854775807)(hfit:zb3 (sLen+n) sCap*i.bytes<=281474976710656):(lG #[t,u] ty #[.slice base sLen sCap,X]).run P w=.ok (.slice (some ⟨w.heap.size,0,none⟩) (sLen+n) (grownCap w (sLen+n) sCap e)) (w.drew.alloc (.cells (olds.toArray++news.toArray++zae z.cells (grownCap w (sLen+n) sCap e-(sLen+n))) e)):=by
 obtain⟨c,f,l,g,h,j⟩:=Be hi;rw[<-j]at hz;rw[<-g]at hf hfo;rw[<-h]at hfit;have m:¬(sLen+n<=sCap):=by omega
 have b:¬(9223372036854775807<((sLen:Int)+(n:Int))):=by omega
 have a:¬(281474976710656<zb3 (sLen+n) sCap*c.bytes):=by omega
 simp[lG,eT ht,eT hu,sizeOf,typeInfo,zeroValue,f,hz,hd,hlen,m,b,a,Question.forced,hf,hfo,newRow,grownCap];congr 2;apply iq;simp[List.append_assoc]
end
theorem EK:∀(s:List Nat),Do s=true->∀n,n∈s->n<256
 |[],_,n,hn=>by cases hn
 |b::s,h,n,hn=>by
  simp only[Do,zo]at h;rcases List.mem_cons.1 hn with rfl|hn
  .exact yF h.1
  .exact EK s h.2 n hn
theorem Ef:∀(s:List Nat),Cm s=s.map λn=>CV.int .u8 (.ofNat n)
 |[]=>rfl
 |b::s=>by simp[Cm,Ef s]
theorem NJ(s:List Nat)(h:∀n,n∈s->n<256):((yH s).data.map λb=>zX .u8 b.toNat)=(s.map λn=>zX .u8 (.ofNat n)).toArray:=by apply iq;simp only[Array.toList_map,BP,List.map_map];apply List.map_congr_left;intro n a;have:=h n a;simp[zcB,Nat.mod_eq_of_lt this]
theorem JQ(s:List Nat)(n:Nat):(yH s).extract 0 n=yH (s.take n):=by apply ByteArray.ext;simp[yH]
section
variable{P:zZ} {ρ:Ren} {S:St} {w:ze}
theorem DC(h:Has ρ S w){size n:Nat}{x:CV}{X:zg}{new:List CV}(hx:yx ρ x=some X)(hl:lenOf x=some n)(hf:firstCells S size n x=some new):∃news,yG ρ new=some news/\∀w':ze,w'.heap=w.heap->(iJ X).run P w'=.ok n w'/\(eK size n X).run P w'=.ok news.toArray w':=by
 cases x<;>simp only[lenOf,reduceCtorEq,zb]at hl
 case str s=>
  subst hl;simp only[firstCells,zY]at hf;cases d:Do s with
  |false=>rw[d]at hf;cases hf
  |true=>rw[d,cond_true]at hf;cases hf;simp only[yx,zb]at hx;subst hx;rw[Ef];refine⟨_,FJ s,λw' _=>⟨by simp[iJ,AL],?_⟩⟩;simp only[eK,zP,Result.ok.injEq,and_true];rw[JQ,zY,NJ s (EK s d)]
 case nils=>subst hl;simp only[firstCells,zb]at hf;subst hf;simp only[yx,zb]at hx;subst hx;exact⟨[],rfl,λw' _=>⟨by simp[iJ],by simp[eK]⟩⟩
 case slice b o len c=>
  subst hl;simp only[yx,zu,zh]at hx;obtain⟨⟨B,D⟩,d,C,m,rfl⟩:=hx;simp only[firstCells]at hf;cases f:zD (len*size) 0 with
  |true=>rw[f,cond_true]at hf;cases hf;have f:=yZ f;refine⟨[],rfl,λw' _=>⟨by simp[iJ],?_⟩⟩;simp[eK,f,loadCells,loadCellsFrom]
  |false=>rw[f,cond_false]at hf;obtain⟨l,k,L,_,g,_,_,_⟩:=DL (P:=P) h hf;refine⟨L,g,λw' hw'=>⟨by simp[iJ],?_⟩⟩;obtain⟨l,k,p,i,a,r,q,j⟩:=DL (P:=P) (h.heap hw') hf;rw[g]at a;cases a;rw[d]at i;cases i;simpa[eK]using j
theorem NG{cells:Tr CV}{sh hi id sz x ty:Nat}{L:List zg}{Z:Array zg}{e:zL}(hty:ty≠0->e+1=ty)(hL:L.length=hi)(hc:∀i,i<hi->∃v V,cells.get (i+sh)=some v/\yx ρ v=some V/\L[i]?=some V)(hk:ρ.k id=some x)(hz:Z.size=x*sz)(hnz:sz≠0):Bt ρ 0 (.row cells sh hi true id sz ty) (.cells (L.toArray++Z) e):=by
 refine⟨λi hi'=>?_,.inr ⟨hnz,x,hk,λj hj=>⟨?_,λ_=>by simp⟩⟩,hty⟩
 .obtain⟨v,V,a,b,c⟩:=hc i hi';refine⟨v,V,a,b,?_,λ_=>by simp⟩;rw[zbx (by simp;omega)];simpa using c
 .refine⟨Z[j]'(by omega),?_⟩;rw[zbp (by simp;omega)];simp only[zbh];rw[show hi+0+j-L.length=j by omega,zU (by omega)]
def Ren.ext(ρ:Ren)(nx:Nat)(x:Nat×Nat)(k:Nat)(y:Nat):Ren:=⟨λi=>if i=nx then some x else ρ.b i,λi=>if i=k then some y else ρ.k i,ρ.v⟩
theorem EN(h:Rel ρ S w)(x:Nat×Nat)(y:Nat):ρ.Le (ρ.ext S.next x S.nk y):=by
 refine⟨λi z hz=>?_,λi z hz=>?_,rfl⟩
 .have:i≠S.next:=λe=>by have:=h.fresh i (by omega);rw[hz]at this;cases this
  simp[Ren.ext,this,hz]
 .have:i≠S.nk:=λe=>by have:=h.freshk i (by omega);rw[hz]at this;cases this
  simp[Ren.ext,this,hz]
theorem Li(h:Has ρ S w){b:Nat}{c:Tr CV}{sh hi:Nat}{wr:Bool}{id sz ty:Nat}(hb:S.heap.get b=some (.row c sh hi wr id sz ty)):∃B D cs t fz,ρ.b b=some (B,D)/\w.heap[B]?=some (.cells cs t fz)/\(∀i,i<hi->∃v V,c.get (i+sh)=some v/\yx ρ v=some V/\cs[i+D]?=some V/\(wr=true->¬(fz.1<=i+D/\i+D<fz.2)))/\((sz=0/\D=0)\/(sz≠0/\∃x,ρ.k id=some x/\∀j,j<x*sz->(∃V,cs[hi+D+j]?=some V)/\(wr=true->¬(fz.1<=hi+D+j/\hi+D+j<fz.2))))/\(ty≠0->t+1=ty):=by
 obtain⟨B,D,O,d,f,a⟩:=h b _ hb;cases O with
 |cells cs t fz=>exact⟨B,D,cs,t,fz,d,f,a⟩
 |_=>exact a.elim
theorem Th(c:Tr CV):∀(n i:Nat),(∀j,j<n->∃v,c.get (i+j)=some v)->∃l,Vx c i n=some l
 |0,i,_=>⟨[],rfl⟩
 |n+1,i,h=>by obtain⟨v,hv⟩:=h 0 (by omega);obtain⟨l,a⟩:=Th c n (i+1) (λj hj=>by rw[show i+1+j=i+(j+1) by omega];exact h (j+1) (by omega));exact⟨v::l,by simp only[Vx];rw[show c.get i=some v from hv,a]⟩
theorem Jc{c:Cap}{n C:Nat}(h:Il n c=true)(hC:ρ.cap c=some C):n<=C:=by
 cases c with
 |ex m=>simp only[Ren.cap,zb]at hC;subst hC;exact A9 h
 |sy id base=>simp only[Ren.cap,zh]at hC;obtain⟨x,_,rfl⟩:=hC;have:=A9 h;omega
theorem Sy{n m:Nat}(h:ic n m=false):m<n:=by
 rcases Nat.lt_or_ge m n with h'|h'
 .exact h'
 .have:=zcp h';rw[h]at this;cases this
end
section
variable{P:zZ} {o:Oper}
theorem Nd{c:Go.Call}{t u:zL}{s x:eo}{i j:TyE}{e:zL}{ei:TyE}{z:CV}(hc:c.callee=.builtin .append)(hts:c.argTypes.toList=[t,u])(has:c.args.toList=[s,x])(ht:Ac P t=some i)(hi:i.desc=.slice e)(hu:Ac P u=some j)(hj:∀k,j.desc≠ .int k)(he:Ac P e=some ei)(hz:BW P e=some z)(hzl:z.cells.length=ei.size)(hs0:0<ei.size)(ho:o.op=.call c):Bn P o (Mh ei.size ei.bytes e (opd P s) (opd P x)):=by
 intro ρ nt tm a r S S' w hf hg hr h;have hts:=JT hts;have has:=Gu has;have W:P.underlying t=some (.slice e):=by obtain⟨_,_,h2,_⟩:=Be ht;rw[h2,hi]
 have X:P.underlying u=some j.desc:=by obtain⟨_,_,h2,_⟩:=Be hu;exact h2
 obtain⟨zz,bv,bw⟩:∃zz:zg,ei.zero=some zz/\zz.cells.size=ei.size:=by
  unfold BW at hz;rw[he]at hz;simp only at hz;cases I:ei.zero with
  |none=>rw[I]at hz;cases hz
  |some zz=>rw[I]at hz;simp only at hz;have:=Bk (E8 (ρ:=ρ) _ _ _ hz);have:=Af this;exact⟨zz,rfl,by rw[<-hzl,<-this,oH]⟩
 obtain⟨cs,aq⟩:=Aq (P:=P) hc ho a w;rw[hts,has]at aq;have aq:(execOp a.eval o).run P w=((lG #[t,u] o.type #[a.eval s,a.eval x]).run P w).andThen λv w'=>.ok (.value v) w':=by rw[aq];simp[builtin]
 rw[aq];unfold Mh at h;split at h
 .rename_i sv xv g A;have g:=ym hf hg s sv g;have A:=ym hf hg x xv A;split at h
  .
   rename_i hl;obtain⟨d,hn,f⟩:∃d:List zg,d=[]/\((iJ (a.eval x)).run P w=.ok 0 w/\(eK ei.size 0 (a.eval x)).run P w=.ok d.toArray w):=by
    refine⟨[],rfl,?_⟩;cases xv<;>simp only[lenOf,reduceCtorEq,zb]at hl
    .have:_=[]:=List.length_eq_zero_iff.1 hl;subst this;simp only[yx,zb]at A;rw[<-A];simp[iJ,eK,yH];rfl
    .simp only[yx,zb]at A;rw[<-A];simp[iJ,eK]
    .subst hl;simp only[yx,zu,zh]at A;obtain⟨_,_,_,_,A⟩:=A;rw[<-A];simp[iJ,eK,loadCells,loadCellsFrom]
   subst hn;split at h
   .cases h;simp only[yx,zb]at g;refine⟨ρ,w,_,Stp.refl hr,rfl,?_⟩;rw[<-g];rw[CP w t u o.type e ei j.desc W X hj he none 0 0 (a.eval x) 0 [] f.1 f.2 (by omega)];rfl
   .rename_i b off l cap _;cases hc:Il l cap with
    |false=>rw[hc]at h;cases h
    |true=>rw[hc,cond_true]at h;cases h;have av:=g;simp only[yx,zu,zh]at g;obtain⟨⟨B,D⟩,T,C,hC,g⟩:=g;refine⟨ρ,w,_,Stp.refl hr,av,?_⟩;rw[<-g];rw[CP w t u o.type e ei j.desc W X hj he _ l C (a.eval x) 0 [] f.1 f.2 (by have:=Jc hc hC;omega)];simp[storeCells]
   .cases h
  .rename_i n hn0 hl;split at h
   .rename_i new hnew;cases hcc:(zB (n*ei.bytes) lim&&zB n lim&&zB 0 ei.bytes&&zD new.length (n*ei.size))with
    |false=>rw[hcc]at h;cases h
    |true=>
     rw[hcc,cond_true]at h;simp only[zo]at hcc;obtain⟨⟨⟨a7,bg⟩,bl⟩,bc⟩:=hcc;have a7:=yF a7;have bg:=yF bg;have bl:=yF bl;have bc:=yZ bc;have cl:0<n:=by
      rcases Nat.eq_zero_or_pos n with h0|h0
      .subst h0;exact(hn0 rfl).elim
      .exact h0
     obtain⟨d,ak,f⟩:=DC (P:=P) hr.has A hl hnew;have bt:=Af ak;cases hac:Pk S ei.size ei.bytes e sv n new with
     |none=>rw[hac]at h;simp[XI]at h
     |some q=>
      obtain⟨v,S1⟩:=q;rw[hac]at h;simp only[XI,zb,eH]at h;obtain⟨rfl,rfl⟩:=h;obtain⟨H,E,F⟩:=S;unfold Pk at hac;split at hac
      .
       simp only at hac;cases hc2:(zB E lim&&zB new.length lim)with
       |false=>rw[hc2]at hac;cases hac
       |true=>
        rw[hc2,cond_true]at hac;cases hac;simp only[zo]at hc2;have cf:=yF hc2.1;have bu:=yF hc2.2;simp only[yx,zb]at g;rw[<-g];have bj:=zds w (0+n) 0 e;have ag:=zep (need:=0+n) (old:=0) (bytes:=ei.bytes) (by omega) (by unfold lim at a7;rw[eV];omega);rw[Fo w t u o.type e ei j.desc zz W X hj he bv none 0 0 (a.eval x) n [] d (f w rfl).1 (f w.drew rfl).2 (by simp[eK]) (by omega) (by unfold lim at bg;omega) ag];refine⟨ρ.ext E (w.heap.size,0) F (grownCap w (0+n) 0 e-(0+n)),w.drew.alloc _,_,?_,?_,rfl⟩
        .refine Stp.fresh (S:=⟨H,E,F⟩) hr (O:=.cells ([].toArray++d.toArray++zae zz.cells (grownCap w (0+n) 0 e-(0+n))) e) (o:=KS new F ei.size (e+1)) rfl rfl rfl rfl (EN hr _ _) (by simp[Ren.ext]) (λi hi=>by simp only[Ren.ext];rw[if_neg hi]) (by simp) (λi hi=>?_) ?_ ?_ (λb T o' p=>?_)
         .have hi:F+1<=i:=hi;simp only[Ren.ext];rw[if_neg (by omega)];exact hr.freshk i (by simp;omega)
         .have:=NG (ρ:=ρ.ext E (w.heap.size,0) F (grownCap w (0+n) 0 e-(0+n))) (cells:=lay .leaf 0 new) (sh:=0) (hi:=new.length) (id:=F) (sz:=ei.size) (x:=grownCap w (0+n) 0 e-(0+n)) (L:=d) (Z:=zae zz.cells (grownCap w (0+n) 0 e-(0+n))) (e:=e) (ty:=e+1) (λ_=>rfl) bt (λq I=>?_) (by simp[Ren.ext]) (by rw[zeq,bw]) (by omega)
          .simpa[KS]using this
          .have N:=ED new .leaf 0 q (by unfold lim at bu;omega);rw[if_pos ⟨zbN _,by omega⟩,zcZ]at N;have ai:new[q]?=some new[q]:=zc I;obtain⟨V,hV,bd⟩:=AX (G6 (EN hr (w.heap.size,0) (grownCap w (0+n) 0 e-(0+n))) _ _ ak) q _ ai;exact⟨_,V,by rw[oT,N,ai],hV,bd⟩
         .exact Tr.get_set_eq _ _ _ _ (by unfold lim at cf;simp[big];omega)
         .rw[Tr.get_set_ne _ _ _ _ _ (λe=>T e.symm)]at p;exact p
        .simp only[yx,Ren.ext,if_true,iG,Ren.cap,zQ,zb,lg,eV,true_and];rw[eV]at bj;omega
      .rename_i b off len cap _;have av:=g;simp only[yx,zu,zh]at g;obtain⟨⟨B,D⟩,T,C,hC,g⟩:=g;rw[<-g];cases hcl2:Il (len+n) cap with
       |true=>
        rw[hcl2,cond_true]at hac;cases aj:Aa new with
        |false=>rw[aj]at hac;cases hac
        |true=>
         rw[aj,cond_true]at hac;split at hac
         .rename_i S2 ba;cases hac;obtain⟨B',D',e1,e2,e3⟩:=G8 (P:=P) hr ba ak aj;rw[T]at e1;cases e1;refine⟨ρ,_,.slice (some ⟨B,off+D,none⟩) (len+n) C,e3,by simp[yx,T,hC],?_⟩;rw[CP w t u o.type e ei j.desc W X hj he _ len C (a.eval x) n d (f w rfl).1 (f w rfl).2 (Jc hcl2 hC)];have e2:=e2 w rfl;have:(⟨B,off+D,none⟩:Addr).add (len*ei.size)=⟨B,off+len*ei.size+D,none⟩:=by rw[zcC];simp only[zby,and_true,true_and];omega
          simp[this,e2]
         .cases hac
       |false=>
        rw[hcl2,cond_false]at hac;simp only at hac;split at hac
        .rename_i cs0 sh hi0 wr id sz ty hbrow;cases hcc:(ic (off+len*ei.size) hi0&&zB (sh+off+(len+n)*ei.size) lim&&zB b lim&&zB E lim&&zB ((len+n)*ei.bytes) lim&&zB (len+n) lim)with
         |false=>rw[hcc]at hac;cases hac
         |true=>
          rw[hcc,cond_true]at hac;simp only[zo]at hcc;obtain⟨⟨⟨⟨⟨bh,az⟩,a6⟩,ar⟩,a9⟩,bb⟩:=hcc;have bh:=A9 bh;have az:=yF az;have a6:=yF a6;have ar:=yF ar;have a9:=yF a9;have bb:=yF bb;have bs:(len+n)*ei.size=len*ei.size+n*ei.size:=zcD _ _ _;obtain⟨B',D',a0,tt,fz,f1,f2,f3,f4,f5⟩:=Li hr.has hbrow;rw[T]at f1;cases f1;obtain⟨ol,bm⟩:=Th cs0 (len*ei.size) (off+sh) (λq I=>by obtain⟨v,V,M,_⟩:=f3 (off+q) (by omega);exact⟨v,by rw[show off+sh+q=off+q+sh by omega];exact M⟩);have ce:L8 ⟨H,E,F⟩ b off (len*ei.size)=some ol:=by simp only[L8,hbrow];rw[zcp bh,cond_true];exact bm
          have bp:=Gm bm;have ay:∀q,q<(len+n)*ei.size->∃v V,(lay cs0 (sh+off+len*ei.size) new).get (q+(sh+off))=some v/\yx ρ v=some V/\(q<len*ei.size->a0[off+q+D]?=some V/\ol[q]?=some v)/\(len*ei.size<=q->d[q-len*ei.size]?=some V):=by
           intro q I;have N:=ED new cs0 (sh+off+len*ei.size) (q+(sh+off)) (by unfold lim at az;omega);by_cases Q:q<len*ei.size
           .rw[if_neg (by omega)]at N;obtain⟨v,V,M,R,g3,_⟩:=f3 (off+q) (by omega);refine⟨v,V,by rw[N,show q+(sh+off)=off+q+sh by omega,M],R,λ_=>⟨g3,?_⟩,λh=>by omega⟩;have:=bp.2 q Q;rw[show off+sh+q=off+q+sh by omega,M]at this;exact this.symm
           .rw[if_pos (by omega),show q+(sh+off) -(sh+off+len*ei.size)=q-len*ei.size by omega]at N;have cc:q-len*ei.size<new.length:=by omega
            have ai:new[q-len*ei.size]?=some new[q-len*ei.size]:=zc cc;obtain⟨V,hV,bd⟩:=AX ak _ _ ai;exact⟨_,V,by rw[N,ai],hV,λh=>by omega,λ_=>bd⟩
          have ab:∀ae:Nat,(ae≠0->e+1=ae)->C<len+n->∀G:Tr Bp,G.get E=some (.row (lay cs0 (sh+off+len*ei.size) new) (sh+off) ((len+n)*ei.size) true F ei.size ae)->(∀Y,Y≠E->∀o',G.get Y=some o'->H.get Y=some o')->∃ρ' w' V,Stp ρ ⟨H,E,F⟩ w ρ' ⟨G,E+1,F+1⟩ w'/\yx ρ' (.slice E 0 (len+n) (.sy F (len+n)))=some V/\((lG #[t,u] o.type #[.slice (some ⟨B,off+D,none⟩) len C,a.eval x]).run P w).andThen (λv w'=>Result.ok (zee v) w')=.ok (zee V) w':=by
           intro ae bk an G a8 bq;obtain⟨B',D',L,M,R,g3,g4,g5⟩:=DL (P:=P) (hr.has.heap (w':=w.drew) rfl) ce;rw[T]at M;cases M;have ag:=zep (need:=len+n) (old:=C) (bytes:=ei.bytes) an (by unfold lim at a9;omega);have bj:=zds w (len+n) C e;rw[Fo w t u o.type e ei j.desc zz W X hj he bv _ len C (a.eval x) n L d (f w rfl).1 (f w.drew rfl).2 (by simpa[eK]using g5) an (by unfold lim at bb;omega) ag];refine⟨ρ.ext E (w.heap.size,0) F (grownCap w (len+n) C e-(len+n)),w.drew.alloc _,_,?_,?_,rfl⟩
           .refine Stp.fresh (S:=⟨H,E,F⟩) hr rfl rfl rfl rfl (EN hr _ _) (by simp[Ren.ext]) (λi hi=>by simp only[Ren.ext];rw[if_neg hi]) (by simp) (λi hi=>?_) ?_ a8 (λb T o' p=>bq b T o' p)
            .have hi:F+1<=i:=hi;simp only[Ren.ext];rw[if_neg (by omega)];exact hr.freshk i (by simp;omega)
            .have ca:(L++d).length=(len+n)*ei.size:=by rw[List.length_append,g3,bt,bc,bs]
             have:=NG (ρ:=ρ.ext E (w.heap.size,0) F (grownCap w (len+n) C e-(len+n))) (cells:=lay cs0 (sh+off+len*ei.size) new) (sh:=sh+off) (hi:=(len+n)*ei.size) (id:=F) (sz:=ei.size) (x:=grownCap w (len+n) C e-(len+n)) (L:=L++d) (Z:=zae zz.cells (grownCap w (len+n) C e-(len+n))) (e:=e) (ty:=ae) bk ca (λq I=>?_) (by simp[Ren.ext]) (by rw[zeq,bw]) (by omega)
             .simpa using this
             .obtain⟨v,V,a1,a2,a3,a4⟩:=ay q I;refine⟨v,V,a1,AS (EN hr _ _) _ _ a2,?_⟩;by_cases Q:q<len*ei.size
              .rw[List.getElem?_append_left (by omega)];obtain⟨U,hU,b7⟩:=AX R q v (a3 Q).2;rw[a2]at hU;cases hU;exact b7
              .rw[List.getElem?_append_right (by omega),g3];exact a4 (by omega)
           .simp only[yx,Ren.ext,if_true,iG,Ren.cap,zQ,zb,lg,eV,true_and];omega
          cases cap with
          |ex m=>simp only[zb,eH]at hac;obtain⟨rfl,rfl⟩:=hac;simp only[Ren.cap,zb]at hC;subst hC;exact ab (e+1) (λ_=>rfl) (Sy hcl2) _ (Tr.get_set_eq _ _ _ _ (by unfold lim at ar;simp[big];omega)) (λY af o' p=>by rw[Tr.get_set_ne _ _ _ _ _ (λe=>af e.symm)]at p;exact p)
          |sy id' base=>
           simp only at hac;cases hcc:(wr&&zD id id'&&zD sz ei.size&&zD (off+base*ei.size) hi0&&ic len base&&Aa new)with
           |false=>rw[hcc]at hac;cases hac
           |true=>
            rw[hcc,cond_true]at hac;simp only[zo]at hcc;obtain⟨⟨⟨⟨⟨cg,be⟩,ao⟩,bn⟩,br⟩,aj⟩:=hcc;have be:=yZ be;have ao:=yZ ao;have bn:=yZ bn;have br:=A9 br;subst be ao;subst cg;simp only[zb,eH]at hac;obtain⟨rfl,rfl⟩:=hac;have cj:b≠E:=λe0=>by have:=hr.fresh E (zn _);rw[<-e0,T]at this;cases this
            have ac:∀Y,Y≠E->∀o',((H.set big b none).set big E (some (Bp.row (lay cs0 (sh+off+len*ei.size) new) (sh+off) ((len+n)*ei.size) true F ei.size (bif zD ty (e+1)then ty else 0)))).get Y=some o'->H.get Y=some o'/\Y≠b:=by
             intro Y af o' p;rw[Tr.get_set_ne _ _ _ _ _ (λe=>af e.symm)]at p;by_cases a5:Y=b
             .subst a5;rw[Tr.get_set_eq _ _ _ _ (by unfold lim at a6;simp[big];omega)]at p;cases p
             .rw[Tr.get_set_ne _ _ _ _ _ (λe=>a5 e.symm)]at p;exact⟨p,a5⟩
            have J:((H.set big b none).set big E (some (Bp.row (lay cs0 (sh+off+len*ei.size) new) (sh+off) ((len+n)*ei.size) true F ei.size (bif zD ty (e+1)then ty else 0)))).get E=some (Bp.row (lay cs0 (sh+off+len*ei.size) new) (sh+off) ((len+n)*ei.size) true F ei.size (bif zD ty (e+1)then ty else 0)):=Tr.get_set_eq _ _ _ _ (by unfold lim at ar;simp[big];omega);have aw:(bif zD ty (e+1)then ty else 0)≠0->ty=e+1/\(bif zD ty (e+1)then ty else 0)=ty:=by
             intro h0;cases T:zD ty (e+1)with
             |true=>exact⟨yZ T,rfl⟩
             |false=>rw[T]at h0;exact absurd rfl h0
            by_cases an:C<len+n
            .exact ab _ (λh0=>by obtain⟨M,R⟩:=aw h0;rw[R,M]) an _ J (λY af o' p=>(ac Y af o' p).1)
            .
             rcases f4 with f4|⟨_,y,hy,f4⟩
             .omega
             have b5:C=base+y:=by simp only[Ren.cap,hy,zQ,zb]at hC;omega
             have ax:len+n<=C:=by omega
             have m1:C*ei.size=base*ei.size+y*ei.size:=by rw[b5,zcD]
             have m2:(len+n)*ei.size<=C*ei.size:=zcE _ ax;have m3:(C-(len+n))*ei.size+(len+n)*ei.size=C*ei.size:=by rw[<-zcD];congr 1;omega
             have cp:base<len+n:=Sy hcl2;have m4:base*ei.size<=(len+n)*ei.size:=zcE _ (by omega);have ad:∀q,q<C*ei.size->(∃V,a0[off+q+D]?=some V)/\¬(fz.1<=off+q+D/\off+q+D<fz.2):=by
              intro q I;by_cases Q:off+q<hi0
              .obtain⟨v,V,_,_,g3,g4⟩:=f3 (off+q) Q;exact⟨⟨V,g3⟩,g4 rfl⟩
              .obtain⟨g3,g4⟩:=f4 (off+q-hi0) (by omega);rw[show hi0+D+(off+q-hi0)=off+q+D by omega]at g3 g4;exact⟨g3,g4 rfl⟩
             obtain⟨cu,e1,e2,e3,e4⟩:=Er d (off+len*ei.size+D) w a0 f2;obtain⟨p1,p2,p3⟩:=DV (B:=B) d (off+len*ei.size+D) w;have ba:(storeCells ⟨B,off+len*ei.size+D,none⟩ d).run P w=.ok () (w.setCells B (off+len*ei.size+D) d):=by
              have ah:∀q,q<d.length->(w.cell? ⟨B,off+len*ei.size+D+0+q,none⟩).isSome=true/\w.frozen? ⟨B,off+len*ei.size+D+0+q,none⟩=false:=by
               intro q I;obtain⟨⟨V,M⟩,R⟩:=ad (len*ei.size+q) (by omega);have e5:off+len*ei.size+D+0+q=off+(len*ei.size+q)+D:=by omega
               rw[e5];refine⟨by simp[World.cell?,f2,M],?_⟩;obtain⟨lo,up⟩:=fz;simp only[World.frozen?,f2];simp only[not_and]at R;by_cases hl:lo<=off+(len*ei.size+q)+D
               .have:=R hl;simp[hl];omega
               .simp[hl]
              have:=run_storeCells_cells (P:=P) B (off+len*ei.size+D) d 0 w (λq I=>(ah q I).1) (λq I=>(ah q I).2) (F1 aj ak);simpa using this
             refine⟨ρ.ext E (B,D+off) F (C-(len+n)),_,.slice (some ⟨B,off+D,none⟩) (len+n) C,Stp.moved (S:=⟨H,E,F⟩) hr ⟨_,hbrow,rfl⟩ T e1 (λk hk=>Dv hk d _ w) (D6 d _ w) p1 p2 p3 (EN hr _ _) (by simp[Ren.ext];rfl) (λi hi=>by simp only[Ren.ext];rw[if_neg hi]) (by simp) (λi hi=>?_) ?_ J ac,?_,?_⟩
             .have hi:F+1<=i:=hi;simp only[Ren.ext];rw[if_neg (by omega)];exact hr.freshk i (by simp;omega)
             .refine⟨λq I=>?_,.inr ⟨by omega,C-(len+n),by simp[Ren.ext],λq I=>?_⟩,λh0=>by obtain⟨M,R⟩:=aw h0;rw[R];exact f5 (by omega)⟩
              .obtain⟨v,V,a1,a2,a3,a4⟩:=ay q I;obtain⟨M,R⟩:=ad q (by omega);have e5:q+(D+off)=off+q+D:=by omega
               refine⟨v,V,a1,AS (EN hr _ _) _ _ a2,?_,λ_=>by rw[e5];exact R⟩;rw[e5];by_cases Q:q<len*ei.size
               .rw[e3 _ (by omega)];exact(a3 Q).1
               .have ao:=(Array.getElem?_eq_some_iff.1 M.choose_spec).1;have:=e4 (q-len*ei.size) (by omega) (by omega);rw[show off+len*ei.size+D+(q-len*ei.size)=off+q+D by omega,a4 (by omega)]at this;exact this
              .obtain⟨⟨V,M⟩,R⟩:=ad ((len+n)*ei.size+q) (by omega);have e5:(len+n)*ei.size+(D+off)+q=off+((len+n)*ei.size+q)+D:=by omega
               rw[e5];exact⟨⟨V,by rw[e3 _ (by omega)];exact M⟩,λ_=>R⟩
             .simp only[yx,Ren.ext,if_true,iG,Ren.cap,zQ,zb,lg,eV,true_and,zby,and_true];omega
             .rw[CP w t u o.type e ei j.desc W X hj he _ len C (a.eval x) n d (f w rfl).1 (f w rfl).2 ax];have:(⟨B,off+D,none⟩:Addr).add (len*ei.size)=⟨B,off+len*ei.size+D,none⟩:=by rw[zcC];simp only[zby,and_true,true_and];omega
              simp[this,ba]
        .cases hac
      .cases hac
   .cases h
  .cases h
 .cases h
end
def Ren.extb(ρ:Ren)(nx:Nat)(x:Nat×Nat):Ren:=⟨λi=>if i=nx then some x else ρ.b i,ρ.k,ρ.v⟩
theorem TO{ρ:Ren}{S:St}{w:ze}(h:Rel ρ S w)(x:Nat×Nat):ρ.Le (ρ.extb S.next x):=by
 refine⟨λi z hz=>?_,λi z hz=>hz,rfl⟩;have:i≠S.next:=λe=>by have:=h.fresh i (by omega);rw[hz]at this;cases this
 simp[Ren.extb,this,hz]
theorem Stp.alloc{ρ:Ren}{S:St}{w w':ze}(h:Rel ρ S w){o:Bp}{O:Obj}(ho:Bt ρ 0 o O)(hn:S.next<lim)(hh:w'.heap=w.heap.push O)(h1:w'.os=w.os)(h2:w'.tape=w.tape)(h3:w'.output=w.output):Stp ρ S w (ρ.extb S.next (w.heap.size,0)) ⟨S.heap.set big S.next (some o),S.next+1,S.nk⟩ w':=by refine Stp.fresh h hh h1 h2 h3 (TO h _) (by simp[Ren.extb]) (λi hi=>by simp only[Ren.extb];rw[if_neg hi]) (zn _) (λi hi=>h.freshk i hi) (ho.mono (TO h _)) (Tr.get_set_eq _ _ _ _ (by unfold lim at hn;simp[big];omega)) (λb hb o' ho'=>?_);rw[Tr.get_set_ne _ _ _ _ _ (λe=>hb e.symm)]at ho';exact ho'
section
variable{P:zZ} {o:Oper}
theorem LM{t:zL}{l c:eo}{i:TyE}{e:zL}{ei:TyE}{z:CV}(ht:Ac P t=some i)(hi:i.desc=.slice e)(he:Ac P e=some ei)(hz:BW P e=some z)(hzl:z.cells.length=ei.size)(hs0:ei.size≠0)(ho:o.op=.makeSlice t l c):NB P o (GU z.cells ei.bytes (opd P l) (opd P c)):=by
 intro ρ nt tm a obj mk hf hg h;have x:P.underlying t=some (.slice e):=by obtain⟨_,_,p,_⟩:=Be ht;rw[p,hi]
 unfold GU at h;split at h
 .rename_i lv cv j g;have j:=ym hf hg l lv j;have g:=ym hf hg c cv g;split at h
  .rename_i ln cn hln hcn;obtain⟨E,rfl⟩:=Cg hln;obtain⟨F,rfl⟩:=Cg hcn;simp only[yx,zb]at j g;cases hcc:(ic ln cn&&zB (cn*ei.bytes) lim&&zB cn lim&&zB (rep z.cells cn).length lim)with
   |false=>rw[hcc]at h;cases h
   |true=>
    rw[hcc,cond_true]at h;simp only[zo]at hcc;obtain⟨⟨⟨r,p⟩,v⟩,y⟩:=hcc;have r:=A9 r;have p:=yF p;have v:=yF v;have y:=yF y;cases h;obtain⟨f,s,n⟩:∃f:zg,ei.zero=some f/\yG ρ z.cells=some f.cells.toList:=by
     unfold BW at hz;rw[he]at hz;simp only at hz;cases hq:ei.zero with
     |none=>rw[hq]at hz;cases hz
     |some f=>rw[hq]at hz;simp only at hz;exact⟨f,rfl,Bk (E8 (ρ:=ρ) _ _ _ hz)⟩
    obtain⟨k,B,H,C,D,G⟩:=Be he;have A:(k.bytes:Int)*(cn:Int)<=281474976710656:=by
     rw[D,Int.mul_comm];have:((cn*ei.bytes:Nat):Int)<=281474976710656:=by unfold lim at p;omega
     rwa [Int.natCast_mul]at this
    have d:=λw=>run_make (P:=P) w t e k f x B (by rw[G,s]) E F (Int.ofNat ln) (Int.ofNat cn) (by simp) (by simpa using r) (by simpa using A) (by unfold lim at v;simp;omega);have q:f.cells.size=ei.size:=by have:=Af n;rw[<-hzl,<-this,oH]
    have m:madeCells f.cells (cn*ei.size)=(T4 f.cells.toList cn).toArray:=by have:=Qb f.cells cn (by omega);rw[q]at this;rw[<-this];simp[madeCells,q]
    simp only[zaW,Int.toNat_natCast]at d;rw[C]at d;simp only[m]at d;refine⟨.cells (T4 f.cells.toList cn).toArray e,I9 (JC n cn) y e,λw=>⟨.slice (some ⟨w.heap.size,0,none⟩) ln cn,?_,λρ' b hb=>by simp[yx,hb,Ren.cap]⟩⟩;simp only[execOp,ho,zK,<-j,<-g];simp only[zaW];rw[d];rfl
  .cases h
 .cases h
theorem Lo{it:eo}(ho:o.op=.next it true):Bn P o (LV (opd P it)):=by
 intro ρ nt tm a r S S' w hf hg hr h;obtain⟨p,t,v⟩:=S;unfold LV at h;split at h
 .rename_i q h' nx' nk' i hS;cases hS;have i:=ym hf hg it _ i;split at h
  .rename_i s pos hit;obtain⟨R,D,O,l,j,m⟩:=hr.obj q _ hit;cases O with
   |stringIter s' posR=>
    obtain⟨rfl,rfl,rfl⟩:=m;simp only[yx,l,zQ,zb,oT]at i;have d:(getObj R).run P w=.ok (.stringIter (yH s) posR) w:=by simp[getObj,Sem.run,j]
    split at h
    .rename_i hend;cases h;refine⟨ρ,w,_,Stp.refl hr,rfl,?_⟩;have:¬posR<s.length:=by intro g;rw[zc g]at hend;cases hend
     simp[execOp,ho,zbJ,<-i,d,AL,this]
    .rename_i ch hch;cases hcc:(zB ch 128&&zB q lim)with
     |false=>rw[hcc]at h;cases h
     |true=>
      rw[hcc,cond_true]at h;cases h;simp only[zo]at hcc;have k:=yF hcc.1;have g:=(zm.1 hch).1;have b:posR<(yH s).size:=by rw[AL];exact g
      have f:((yH s)[posR]'b).toNat=ch:=by
       have:((yH s)[posR]'b)=UInt8.ofNat ch:=by have n:=(zm.1 hch).2;simp only[yH,ByteArray.getElem_eq_getElem_data];simp[n]
       rw[this,zcB];omega
      have c:=decode_ascii (yH s) posR b (by rw[f];exact k);rw[f]at c;refine⟨ρ,_,_,Stp.setObj hr hit l (yF hcc.2) j (O':=.stringIter (yH s) (posR+1)) ⟨rfl,rfl,rfl⟩,rfl,?_⟩;simp[execOp,ho,zbJ,<-i,d,b,c,Pp j,goInt]
   |_=>exact m.elim
  .cases h
 .cases h
end
section
variable{P:zZ} {ρ:Ren} {S:St} {w:ze} {o:Oper}
theorem Ij{cells:Tr CV}{sh hi id sz x:Nat}{L:List zg}{Z:Array zg}{e:zL}{fz:Nat×Nat}(hL:L.length=hi)(hc:∀i,i<hi->∃v V,cells.get (i+sh)=some v/\yx ρ v=some V/\L[i]?=some V)(hk:ρ.k id=some x)(hz:Z.size=x*sz)(hnz:sz≠0)(hf:L.length+Z.size<=fz.1):Bt ρ 0 (.row cells sh hi true id sz 0) (.cells (L.toArray++Z) e fz):=by
 refine⟨λi hi'=>?_,.inr ⟨hnz,x,hk,λj hj=>⟨?_,λ_=>by omega⟩⟩,λh=>absurd rfl h⟩
 .obtain⟨v,V,a,b,c⟩:=hc i hi';refine⟨v,V,a,b,?_,λ_=>by omega⟩;rw[zbx (by simp;omega)];simpa using c
 .refine⟨Z[j]'(by omega),?_⟩;rw[zbp (by simp;omega)];simp only[zbh];rw[show hi+0+j-L.length=j by omega,zU (by omega)]
theorem Io{s d e:zL}{x:eo}{i j k:TyE}(hs:Ac P s=some i)(hd:Ac P d=some j)(hi:i.desc=.string)(hj:j.desc=.slice e)(he:Ac P e=some k)(hk:k.desc=.int .u8)(ho:o.op=.convert s d x):Bn P o (Fc (opd P x)):=by
 intro ρ nt tm a r S S' w hf hg hr h;have H:=Ex hs;have G:=Ex hd;have E:=Ex he;rw[hi]at H;rw[hj]at G;rw[hk]at E;unfold Fc at h;split at h
 .rename_i t hx;have F:=ym hf hg x _ hx;simp only[yx,zb]at F;cases hcc:(zB t.length lim&&Do t)with
  |false=>rw[hcc]at h;cases h
  |true=>
   rw[hcc,cond_true]at h;simp only[zo]at hcc;have J:=yF hcc.1;have A:=EK t hcc.2;obtain⟨D,z,l⟩:=S;simp only at h;cases c:zB z lim with
   |false=>rw[c]at h;cases h
   |true=>
    rw[c,cond_true]at h;cases h;have c:=yF c;have v:(yH t).size=t.length:=AL t;have I:=zds w t.length 0 e;have f:=run_bytes_of_string (P:=P) w s d e (yH t) H G E;have B:yG ρ (Cm t)=some (t.map λn=>zX .u8 (.ofNat n)):=by rw[Ef];exact FJ t
    have y:bytesRow (yH t) (grownCap w t.length 0 e)=(t.map λn=>zX .u8 (.ofNat n)).toArray++eD (grownCap w t.length 0 e-t.length) (.int .u8 0):=by unfold bytesRow;rw[v,NJ t A]
    have g:(Cm t).length=t.length:=by rw[Ef,List.length_map]
    rw[v]at f;refine⟨ρ.ext z (w.heap.size,0) l (grownCap w t.length 0 e-t.length),w.drew.alloc (.cells (bytesRow (yH t) (grownCap w t.length 0 e)) e ((bytesRow (yH t) (grownCap w t.length 0 e)).size,(bytesRow (yH t) (grownCap w t.length 0 e)).size+1)),.slice (some ⟨w.heap.size,0,none⟩) t.length (grownCap w t.length 0 e),?_,?_,?_⟩;rotate_left 2
    .simp only[execOp,ho,<-F,zK,f,Result.andThen_ok,zP]
    .refine Stp.fresh (S:=⟨D,z,l⟩) hr (o:=KS (Cm t) l 1 0) rfl rfl rfl rfl (EN hr _ _) (by simp[Ren.ext]) (λi hi=>by simp only[Ren.ext];rw[if_neg hi]) (by simp) (λi hi=>?_) ?_ ?_ (λb A o' ho'=>?_)
     .have hi:l+1<=i:=hi;simp only[Ren.ext];rw[if_neg (by omega)];exact hr.freshk i (by simp;omega)
     .have:=Ij (ρ:=ρ.ext z (w.heap.size,0) l (grownCap w t.length 0 e-t.length)) (cells:=lay .leaf 0 (Cm t)) (sh:=0) (hi:=t.length) (id:=l) (sz:=1) (x:=grownCap w t.length 0 e-t.length) (L:=t.map λn=>zX .u8 (.ofNat n)) (Z:=eD (grownCap w t.length 0 e-t.length) (.int .u8 0)) (e:=e) (fz:=((bytesRow (yH t) (grownCap w t.length 0 e)).size,(bytesRow (yH t) (grownCap w t.length 0 e)).size+1)) (by simp) (λq hq=>?_) (by simp[Ren.ext]) (by simp) (by omega) (by rw[y];simp)
      .rw[y]at this⊢;simpa[KS,g]using this
      .have m:=ED (Cm t) .leaf 0 q (by rw[g];unfold lim at J;omega);rw[if_pos ⟨zbN _,by omega⟩,zcZ]at m;have p:(Cm t)[q]?=some ((Cm t)[q]'(by omega)):=zc _;obtain⟨V,M,C⟩:=AX (G6 (EN hr (w.heap.size,0) (grownCap w t.length 0 e-t.length)) _ _ B) q _ p;exact⟨_,V,by rw[oT,m,p],M,C⟩
     .exact Tr.get_set_eq _ _ _ _ (by unfold lim at c;simp[big];omega)
     .rw[Tr.get_set_ne _ _ _ _ _ (λe=>A e.symm)]at ho';exact ho'
    .simp only[yx,Ren.ext,if_true,iG,Ren.cap,zQ,zb,lg,eV,true_and];omega
 .cases h
end
end Go.Ev
