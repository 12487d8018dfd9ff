/-
  Part of the proof: A region whose later operations all wait for its earlier ones: the earlier ones first, then the rest.
-/
import Derived.Test.YtpdlpdkehminlaaGreatDoorEvS
set_option linter.all false
set_option maxRecDepth 100000
set_option maxHeartbeats 20000000
open Array renaming all_eq_true'->zan,getD_eq_getD_getElem?->zw,getElem?_eq_getElem->zU,getElem?_setIfInBounds->iF
open Bool renaming and_eq_false_iff->zax,and_eq_true->zo,eq_iff_iff->iy,or_eq_false_iff->zaC,or_eq_true->iX
open Go renaming Act->lH,Oper->eS,Program->zZ,World->ze
open Go.Exit renaming «then»->ef
open Go.Region renaming binds->zR,ready->eu,wanted->lS
open List renaming eq_nil_iff_forall_not_mem->iV
open Nat renaming ble->ic,blt->zB,lt_or_ge->ly
open Option renaming getD_some->eE,map_some->zQ
namespace Go.Ev
section
variable{P:zZ}
theorem Mk{o:eS}{a:lH}{w:ze}{Kn K1 K2:lH->ze->Prop}{Q:Exit->lH->ze->Prop}(h:o.wp P a w Kn (ef K1 Q)):o.wp P a w Kn (ef K2 Q):=by
 unfold Oper.wp at*;generalize(execOp a.eval o).run P w=r at*;cases r with
 |ok n w'=>cases n<;>exact h
 |halt x w'=>cases x<;>exact h
theorem Ap{md:Region.Mode}{ops:Array eS}{listed:Array Bool}{i:Nat}:i∈eu md ops listed↔i<ops.size/\listed.getD i true=false/\∃o,ops[i]?=some o/\∀e,e∈o.after->zR md e=true->listed.getD e.on false=true:=by
 unfold eu;rw[List.mem_filter,List.mem_range];simp only[zo,Bool.not_eq_true'];constructor
 .rintro⟨b,c,a⟩;refine⟨b,c,ops[i],by simp[b],λe d hb=>?_⟩;rw[zU b]at a;simp only[zQ,eE]at a;rw[zan]at a;have:=a e d;rw[hb]at this;simpa using this
 .rintro⟨b,c,o,f,a⟩;refine⟨b,c,?_⟩;rw[f];simp only[zQ,eE];rw[zan];intro e d;cases hb:zR md e with
  |false=>rfl
  |true=>rw[a e d hb];rfl
structure Rw(ops:Array eS)(p:Nat):Prop where
 le:p<=ops.size
 wait:∀i o,p<=i->ops[i]?=some o->∀q,q<p->∃e,e∈o.after/\e.on=q/\zR .any e=true
 low:∀i o,i<p->ops[i]?=some o->∀e,e∈o.after->zR .any e=true->e.on<i
 guard:∀i o j b,i<p->ops[i]?=some o->o.guard=some (j,b)->j<p
structure UF(ops:Array eS)(p:Nat)(l l':Array Bool):Prop where
 sz:l.size=ops.size
 sz':l'.size=p
 low:∀i,i<p->l[i]?=l'[i]?
 high:∀i,p<=i->i<ops.size->l[i]?=some false
theorem Ea{ops:Array eS}{p:Nat}(hs:Rw ops p){K:lH->ze->Prop}{Q:Exit->lH->ze->Prop}:∀(f f':Nat)(l l':Array Bool)(a:lH)(w:ze),UF ops p l l'->f+(ops.size-p)<=f'->wpAny P .any (ops.extract 0 p) (ef (λa w=>∀f' l,(∀i,i<p->l[i]?=some true)->(∀i,p<=i->i<ops.size->l[i]?=some false)->l.size=ops.size->ops.size-p<=f'->wpAny P .any ops (ef K Q) f' l a w) Q) f l' a w->wpAny P .any ops (ef K Q) f' l a w:=by
 have X:(ops.extract 0 p).size=p:=by have:=hs.le;simp;omega
 have k:∀i,i<p->(ops.extract 0 p)[i]?=ops[i]?:=by intro i m;rw[Array.getElem?_extract];have:=hs.le;simp;omega
 have v:∀(l l':Array Bool),UF ops p l l'->eu .any (ops.extract 0 p) l'=[]->∀i,i<p->l[i]?=some true:=by
  intro l l' c B i;induction i using Nat.strongRecOn with
  |_ i ih=>
   intro m;have F:i<l.size:=by have:=c.sz;have:=hs.le;omega
   have J:i<l'.size:=by have:=c.sz';omega
   cases r:l'[i]?with
   |none=>rw[zU J]at r;cases r
   |some t=>
    cases t with
    |true=>rw[c.low i m,r]
    |false=>
     exfalso;have g:i<ops.size:=by have:=hs.le;omega
     have n:ops[i]?=some (ops[i]'g):=zU g;have S:i∈eu .any (ops.extract 0 p) l':=Ap.2 ⟨by omega,by simp[zw,r],_,(k i m).trans n,λe he hbd=>by have s:=hs.low i _ m n e he hbd;have:=ih e.on s (by omega);rw[c.low e.on (by omega)]at this;simp[zw,this]⟩;rw[B]at S;cases S
 have C:∀(l l':Array Bool),UF ops p l l'->(∃q,q<p/\l[q]?≠some true)->∀i,i∈eu .any ops l->i<p/\i∈eu .any (ops.extract 0 p) l':=by
  rintro l l' c ⟨q,r,x⟩ i m;obtain⟨s,z,o,n,D⟩:=Ap.1 m;have d:i<p:=by
   rcases ly i p with h|h
   .exact h
   .exfalso;obtain⟨e,N,M,T⟩:=hs.wait i o h n q r;have:=D e N T;rw[M]at this;have F:q<l.size:=by have:=c.sz;have:=hs.le;omega
    rw[zw,zU F]at this;rw[zU F]at x;simp only[eE]at this;rw[this]at x;exact x rfl
  refine⟨d,Ap.2 ⟨by omega,?_,o,(k i d).trans n,λe he hbd=>?_⟩⟩
  .rw[zw,<-c.low i d,<-zw];exact z
  .have W:=hs.low i o d n e he hbd;have:=D e he hbd;rw[zw,c.low e.on (by omega),<-zw]at this;exact this
 have V:∀(l l':Array Bool),UF ops p l l'->∀i,i∈eu .any (ops.extract 0 p) l'->i∈eu .any ops l:=by
  intro l l' c i m;obtain⟨s,z,o,n,D⟩:=Ap.1 m;have d:i<p:=by omega
  rw[k i d]at n;refine Ap.2 ⟨by have:=hs.le;omega,?_,o,n,λe he hbd=>?_⟩
  .rw[zw,c.low i d,<-zw];exact z
  .have W:=hs.low i o d n e he hbd;have:=D e he hbd;rw[zw,c.low e.on (by omega),<-zw];exact this
 have H:∀(i:Nat),i<p->∀(E I R:lH->ze->Prop)(a:lH)(w:ze),(∀a w,E a w->I a w)->wpOp P (ops.extract 0 p) (ef R Q) i E a w->wpOp P ops (ef K Q) i I a w:=by
  intro i m E I R a w U h;have g:i<ops.size:=by have:=hs.le;omega
  have n:ops[i]?=some (ops[i]'g):=zU g;have Y:lS (ops[i]'g) (yielded (ops.extract 0 p) a.tmps)=lS (ops[i]'g) (yielded ops a.tmps):=by
   unfold lS;cases hg:(ops[i]'g).guard with
   |none=>rfl
   |some jb=>obtain⟨j,b⟩:=jb;have G:=hs.guard i _ j b m n hg;simp only[yielded,k j G]
  unfold wpOp at*;rw[k i m,n]at h;rw[n];simp only at h⊢;rw[Y]at h;split
  .rename_i r;rw[if_pos r]at h;rcases h with h|⟨s,z⟩
   .exact .inl (Mk (Oper.wp_mono U h))
   .exact .inr ⟨s,z⟩
  .rename_i r;rw[if_neg r]at h;exact U _ _ h
 intro f;induction f with
 |zero=>intro f' l l' a w c Z h;obtain⟨s,z⟩:=h;exact z f' l (v l l' c s) c.high c.sz (by omega)
 |succ f ih=>
  intro f' l l' a w c Z h;obtain⟨s,z⟩:=h;by_cases y:∃q,q<p/\l[q]?≠some true
  .cases f' with
   |zero=>omega
   |succ f'=>
    refine⟨λB=>?_,λi m=>?_⟩
    .exfalso;obtain⟨q,r,x⟩:=y;refine x (v l l' c ?_ q r);rw[iV];intro i m;have:=V l l' c i m;rw[B]at this;cases this
    .obtain⟨d,L⟩:=C l l' c y i m;refine H i d _ _ _ a w (λa' w' h'=>ih f' _ _ a' w' ?_ (by omega) h') (z i L);refine⟨by simpa using c.sz,by simpa using c.sz',λj G=>?_,λj s z=>?_⟩
     .simp only[iF];have N:=c.sz;have M:=c.sz';have T:=hs.le;by_cases A:i=j
      .rw[if_pos A,if_pos A,if_pos (by omega),if_pos (by omega)]
      .rw[if_neg A,if_neg A,c.low j G]
     .simp only[iF];rw[if_neg (by omega)];exact c.high j s z
  .have B:eu .any (ops.extract 0 p) l'=[]:=by
    rw[iV];intro i m;obtain⟨g1,O,_⟩:=Ap.1 m;have d:i<p:=by omega
    apply y;refine⟨i,d,?_⟩;rw[c.low i d];intro e;rw[zw,e]at O;cases O
   exact s B f' l (v l l' c B) c.high c.sz (by omega)
end
def LZ(p kA i j q:Nat):Bool:=decide (q<p)||(decide (p<=q)&&decide (q<p+i))||(decide (p+kA<=q)&&decide (q<p+kA+j))
structure Oc(ops:Array eS)(p kA kB:Nat):Prop where
 size:ops.size=p+kA+kB
 waitA:∀i o,i+1<kA->ops[p+(i+1)]?=some o->∃e,e∈o.after/\e.on=p+i/\zR .any e=true
 waitB:∀j o,j+1<kB->ops[p+kA+(j+1)]?=some o->∃e,e∈o.after/\e.on=p+kA+j/\zR .any e=true
 lowA:∀i o,i<kA->ops[p+i]?=some o->∀e,e∈o.after->zR .any e=true->e.on<p+i
 lowB:∀j o,j<kB->ops[p+kA+j]?=some o->∀e,e∈o.after->zR .any e=true->e.on<p\/(p+kA<=e.on/\e.on<p+kA+j)
section
variable{P:zZ}
theorem D8{p kA i j q:Nat}{ops:Array eS}{l:Array Bool}(hl:∀q,q<ops.size->l[q]?=some (LZ p kA i j q))(hq:q<ops.size)(b:Bool):l.getD q b=LZ p kA i j q:=by rw[zw,hl q hq];rfl
theorem CQ{ops:Array eS}{p kA kB:Nat}(hs:Oc ops p kA kB){I:Nat->Nat->lH->ze->Prop}{K:lH->ze->Prop}{Q:Exit->lH->ze->Prop}(hA:∀i j,i<kA->j<=kB->∀a w,I i j a w->∀K':lH->ze->Prop,(∀a w,I (i+1) j a w->K' a w)->wpOp P ops (ef K Q) (p+i) K' a w)(hB:∀i j,i<=kA->j<kB->∀a w,I i j a w->∀K':lH->ze->Prop,(∀a w,I i (j+1) a w->K' a w)->wpOp P ops (ef K Q) (p+kA+j) K' a w)(hK:∀a w,I kA kB a w->K a w):∀(f i j:Nat)(l:Array Bool)(a:lH)(w:ze),i<=kA->j<=kB->l.size=ops.size->(∀q,q<ops.size->l[q]?=some (LZ p kA i j q))->(kA-i)+(kB-j)<=f->I i j a w->wpAny P .any ops (ef K Q) f l a w:=by
 have R:=hs.size;have z:∀(i j:Nat)(l:Array Bool),i<=kA->j<=kB->(∀q,q<ops.size->l[q]?=some (LZ p kA i j q))->∀q,q∈eu .any ops l->(i<kA/\q=p+i)\/(j<kB/\q=p+kA+j):=by
  intro i j l n k c q s;obtain⟨N,M,o,L,J⟩:=Ap.1 s;rw[D8 c N]at M;simp only[LZ,zaC,zax,decide_eq_false_iff_not]at M;rcases ly q (p+kA)with h|h
  .left;have F:p+i<=q:=by omega
   obtain⟨d,rfl⟩:∃d,q=p+d:=⟨q-p,by omega⟩
   have:d=i:=by
    rcases ly i d with h4|h4
    .exfalso;obtain⟨r,rfl⟩:∃r,d=r+1:=⟨d-1,by omega⟩
     obtain⟨e,C,A,H⟩:=hs.waitA r o (by omega) L;have:=J e C H;rw[A,D8 c (by omega)]at this;simp only[LZ,iX,zo,decide_eq_true_eq]at this;omega
    .omega
   exact⟨by omega,by omega⟩
  .right;have F:p+kA+j<=q:=by omega
   obtain⟨d,rfl⟩:∃d,q=p+kA+d:=⟨q-(p+kA),by omega⟩
   have:d=j:=by
    rcases ly j d with h4|h4
    .exfalso;obtain⟨r,rfl⟩:∃r,d=r+1:=⟨d-1,by omega⟩
     obtain⟨e,C,A,H⟩:=hs.waitB r o (by omega) L;have:=J e C H;rw[A,D8 c (by omega)]at this;simp only[LZ,iX,zo,decide_eq_true_eq]at this;omega
    .omega
   exact⟨by omega,by omega⟩
 have y:∀(i j:Nat)(l:Array Bool),i<=kA->j<=kB->(∀q,q<ops.size->l[q]?=some (LZ p kA i j q))->eu .any ops l=[]->i=kA/\j=kB:=by
  intro i j l n k c t;constructor
  .rcases ly i kA with h|h
   .exfalso;have b:p+i<ops.size:=by omega
    have v:p+i∈eu .any ops l:=Ap.2 ⟨b,by
     rw[D8 c b];simp only[LZ,zaC,zax,decide_eq_false_iff_not];omega,_,zU b,λe he hb=>by
     have:=hs.lowA i _ h (zU b) e he hb;rw[D8 c (by omega)];simp only[LZ,iX,zo,decide_eq_true_eq];omega⟩
    rw[t]at v;cases v
   .omega
  .rcases ly j kB with h|h
   .exfalso;have b:p+kA+j<ops.size:=by omega
    have v:p+kA+j∈eu .any ops l:=Ap.2 ⟨b,by
     rw[D8 c b];simp only[LZ,zaC,zax,decide_eq_false_iff_not];omega,_,zU b,λe he hb=>by
     have:=hs.lowB j _ h (zU b) e he hb;rw[D8 c (by omega)];simp only[LZ,iX,zo,decide_eq_true_eq];omega⟩
    rw[t]at v;cases v
   .omega
 have m:∀(i j E D q:Nat)(l:Array Bool),l.size=ops.size->(∀q,q<ops.size->l[q]?=some (LZ p kA i j q))->q<ops.size->(∀r,LZ p kA E D r=(decide (r=q)||LZ p kA i j r))->∀r,r<ops.size->(l.setIfInBounds q true)[r]?=some (LZ p kA E D r):=by
  intro i j E D q l g c s O r t;rw[iF,O r];by_cases h:q=r
  .subst h;rw[if_pos rfl,if_pos (by omega)];simp
  .rw[if_neg h,c r t,decide_eq_false (λe=>h e.symm),Bool.false_or]
 intro f;induction f with
 |zero=>
  intro i j l a w n k g c S x;have G:i=kA:=by omega
  have B:j=kB:=by omega
  subst G B;refine⟨?_,hK a w x⟩;rw[iV];intro q s;rcases z i j l n k c q s with⟨h,_⟩|⟨h,_⟩<;>omega
 |succ f ih=>
  intro i j l a w n k g c S x;refine⟨λt=>?_,λq s=>?_⟩
  .obtain⟨rfl,rfl⟩:=y i j l n k c t;exact hK a w x
  .rcases z i j l n k c q s with⟨h,rfl⟩|⟨h,rfl⟩
   .refine hA i j h k a w x _ (λa' w' hI'=>ih (i+1) j _ a' w' (by omega) k (by simpa using g) (m i j (i+1) j (p+i) l g c (by omega) (λr=>?_)) (by omega) hI');unfold LZ;rw[iy];simp only[iX,zo,decide_eq_true_eq];omega
   .refine hB i j n h a w x _ (λa' w' hI'=>ih i (j+1) _ a' w' n (by omega) (by simpa using g) (m i j i (j+1) (p+kA+j) l g c (by omega) (λr=>?_)) (by omega) hI');unfold LZ;rw[iy];simp only[iX,zo,decide_eq_true_eq];omega
end
theorem A6.congr{ρ:Ren}{nt:Nat}{tm tm':Tm}{a:lH}(h:A6 ρ nt tm a)(e:∀t,t<256->Ei t tm'=Ei t tm):A6 ρ nt tm' a:=⟨h.size,λt v ht hv=>h.val t v ht ((e t ht).symm.trans hv)⟩
structure GA(S S':St):Prop where
 get:∀b,S'.heap.get b=S.heap.get b
 next:S'.next=S.next
 nk:S'.nk=S.nk
theorem GA.rel{ρ:Ren}{S S':St}{w:ze}(e:GA S S')(h:Rel ρ S w):Rel ρ S' w:=⟨λb o hb=>h.obj b o ((e.get b).symm.trans hb),λb b' B D D' ⟨o,h1⟩ ⟨o',h2⟩ hw=>h.inj b b' B D D' ⟨o,(e.get b).symm.trans h1⟩ ⟨o',(e.get b').symm.trans h2⟩ (hw.imp (λ⟨o,g,g'⟩=>⟨o,(e.get b).symm.trans g,g'⟩) (λ⟨o,g,g'⟩=>⟨o,(e.get b').symm.trans g,g'⟩)),λb hb=>h.fresh b (by rw[<-e.next];exact hb),λi hi=>h.freshk i (by rw[<-e.nk];exact hi)⟩
theorem Kv{S S':St}{b o:Nat}{vs:List CV}(h:Cc S b o vs=some S'):∃c sh hi id sz ty,S.heap.get b=some (.row c sh hi true id sz ty)/\ic (o+vs.length) hi=true/\zB (hi+sh) lim=true/\zB b lim=true/\S'=⟨S.heap.set big b (some (.row (lay c (o+sh) vs) sh hi true id sz ty)),S.next,S.nk⟩:=by
 obtain⟨a,n,k⟩:=S;unfold Cc at h;simp only at h;split at h
 .rename_i c sh hi id sz ty hb;cases hc:(ic (o+vs.length) hi&&zB (hi+sh) lim&&zB b lim)with
  |false=>rw[hc]at h;cases h
  |true=>rw[hc,cond_true]at h;cases h;simp only[zo]at hc;exact⟨c,sh,hi,id,sz,ty,hb,hc.1.1,hc.1.2,hc.2,rfl⟩
 .cases h
theorem MU{S:St}{b o:Nat}{vs:List CV}{c:Tr CV}{sh hi id sz ty:Nat}(h:S.heap.get b=some (.row c sh hi true id sz ty))(h1:ic (o+vs.length) hi=true)(h2:zB (hi+sh) lim=true)(h3:zB b lim=true):Cc S b o vs=some ⟨S.heap.set big b (some (.row (lay c (o+sh) vs) sh hi true id sz ty)),S.next,S.nk⟩:=by obtain⟨a,n,k⟩:=S;simp only[Cc];simp only at h;rw[h];simp only[h1,h2,h3,Bool.and_self,cond_true]
theorem Po{S S1 S12:St}{b1 b2 o1 o2:Nat}{v1 v2:List CV}(h1:Cc S b1 o1 v1=some S1)(hne:b1≠b2)(h2:Cc S1 b2 o2 v2=some S12):∃S2 S21,Cc S b2 o2 v2=some S2/\Cc S2 b1 o1 v1=some S21/\GA S21 S12:=by
 obtain⟨B,p,r,q,s,x,n,o,y,h,rfl⟩:=Kv h1;obtain⟨A,w,t,l,v,m,d,k,z,i,rfl⟩:=Kv h2;simp only at d;rw[Tr.get_set_ne _ _ _ _ _ hne]at d;have j:=MU (S:=S) d k z i;refine⟨_,_,j,MU (by show(S.heap.set big b2 _).get b1=_;rw[Tr.get_set_ne _ _ _ _ _ (λe=>hne e.symm)];exact n) o y h,?_,rfl,rfl⟩;intro b;have f:b1+1<2^big:=by have:=yF h;unfold lim at this;simp[big];omega
 have g:b2+1<2^big:=by have:=yF i;unfold lim at this;simp[big];omega
 show((S.heap.set big b1 _).set big b2 _).get b=((S.heap.set big b2 _).set big b1 _).get b;by_cases a:b1=b
 .subst a;rw[Tr.get_set_ne _ _ _ _ _ (λe=>hne e.symm),Tr.get_set_eq _ _ _ _ f,Tr.get_set_eq _ _ _ _ f]
 .by_cases c:b2=b
  .subst c;rw[Tr.get_set_eq _ _ _ _ g,Tr.get_set_ne _ _ _ _ _ a,Tr.get_set_eq _ _ _ _ g]
  .rw[Tr.get_set_ne _ _ _ _ _ c,Tr.get_set_ne _ _ _ _ _ a,Tr.get_set_ne _ _ _ _ _ a,Tr.get_set_ne _ _ _ _ _ c]
theorem GA.stp{ρ ρ':Ren}{S S' S'':St}{w w':ze}{N:Nat}(e:GA S' S'')(h:Ii N ρ S w ρ' S' w'):Ii N ρ S w ρ' S'' w':=⟨h.ext,e.rel h.rel,by rw[e.next];exact h.next,by rw[e.nk];exact h.nk,h.keep,h.size,λb B D ⟨o,hb⟩ hB hlt=>h.dom b B D ⟨o,(e.get b).symm.trans hb⟩ hB hlt,h.os,h.tape,h.output,h.old,λb B D ⟨o,hb,hw⟩ hB hlt=>h.domW b B D ⟨o,(e.get b).symm.trans hb,hw⟩ hB hlt⟩
section
variable{P:zZ}
theorem TL{ops:Array eS}{q:Nat}{o:eS}(ho:ops[q]?=some o)(hg:o.guard=none){Q:Exit->lH->ze->Prop}{K:lH->ze->Prop}{a:lH}{w:ze}(h:o.wp P a w K Q):wpOp P ops Q q K a w:=by unfold wpOp;rw[ho];simp only[C4 hg,if_true];exact .inl h
theorem O6{ops:Array eS}{q:Nat}{o:eS}(ho:ops[q]?=some o)(hg:o.guard=none){f:Tm->Option CV}(hok:Ax P o f){nt:Nat}{tm tm':Tm}{v:CV}(hv:f tm=some v){d:Dst}(hd:Dg nt o.dst=some d)(htm:∀x,x<256->Ei x tm'=Ei x (De d v tm)){ρ:Ren}{S:St}{a:lH}{w:ze}(hf:A6 ρ nt tm a)(hgl:FE P ρ)(hr:Rel ρ S w){Q:Exit->lH->ze->Prop}{K:lH->ze->Prop}(hK:∀ρ' a' w',Stp ρ S w ρ' S w'->A6 ρ' nt tm' a'->a'.defers=a.defers->K a' w'):wpOp P ops Q q K a w:=by refine TL ho hg (TN (S:=S) hok hv hf hgl hr λρ' w' V hs hV=>?_);exact hK ρ' _ w' hs (((hf.mono hs.ext).put hd hV).congr htm) (BO _ _ _)
theorem Nf{ops:Array eS}{q:Nat}{o:eS}(ho:ops[q]?=some o)(hg:o.guard=none){t:TypeId}{x y:Operand}{i:TyE}(hop:o.op=.store t x y)(ht:Ac P t=some i){nt:Nat}{tm tm':Tm}{S S' S'':St}(hv:KY i.size (opd P x) (opd P y) tm S=some (.undef,S'))(he:GA S' S''){d:Dst}(hd:Dg nt o.dst=some d)(htm:∀x,x<256->Ei x tm'=Ei x (De d AV tm)){ρ:Ren}{a:lH}{w:ze}(hf:A6 ρ nt tm a)(hgl:FE P ρ)(hr:Rel ρ S w){Q:Exit->lH->ze->Prop}{K:lH->ze->Prop}(hK:∀ρ' a' w',Stp ρ S w ρ' S'' w'->A6 ρ' nt tm' a'->a'.defers=a.defers->K a' w'):wpOp P ops Q q K a w:=by
 refine TL ho hg ?_;unfold Oper.wp;obtain⟨ρ',w',f,b⟩:=I5 (P:=P) ht hop ρ nt tm a .undef S S' w hf hgl hr hv;have c:(execOp a.eval o).run P w=.ok .skip w':=by
  rcases b with b|⟨g,_,b⟩
  .exact b
  .exfalso;simp only[execOp,hop,Sem.run_bind]at b;cases hq:(Instr.storeAt t (a.eval x) (a.eval y)).run P w with
   |ok u w2=>rw[hq]at b;simp[Result.andThen_ok]at b
   |halt u w2=>rw[hq]at b;cases b
 rw[c];exact hK ρ' _ w' (he.stp f) (((hf.mono f.ext).put hd rfl).congr htm) (BO _ _ _)
end
end Go.Ev
