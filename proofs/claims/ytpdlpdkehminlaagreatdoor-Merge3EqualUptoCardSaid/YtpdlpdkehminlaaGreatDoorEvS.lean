/-
  Part of the proof: Drawn regions: what their making-ready says.
-/
import Derived.Test.YtpdlpdkehminlaaGreatDoorEvQ
set_option linter.all false
set_option maxRecDepth 100000
set_option maxHeartbeats 20000000
open Array renaming all_eq_true'->zan,getD_eq_getD_getElem?->zw,getElem?_eq_getElem->zU,replicate->eD
open Bool renaming and_eq_true->zo,false_or->zdK,not_true->zcg
open Go renaming Act->lH,Oper->eS,Program->zZ,World->ze
open Go.Exit renaming «then»->ef
open Go.Oper renaming wp->zbE
open Go.Region renaming binds->zR,ready->eu
open List renaming all_eq_true->iu,countP_cons->zdi,getElem?_cons_zero->zW,getElem?_eq_getElem->zc,getElem?_eq_some_iff->zm,mem_append->eZ,mem_cons->zO,mem_filter->ie,mem_range->lD,not_mem_nil->e8,pairwise_cons->zcK,range->ev
open List.Pairwise renaming nil->zbi
open Nat renaming blt->zB,le_refl->zn,lt_or_ge->ly,strongRecOn->zdD,zero_add->eV,zero_le->zbN
open Option renaming getD_some->eE,map_some->zQ
open Option.some renaming inj->eF,injEq->zb
namespace Go.Ev
section
variable{P:zZ}
theorem IJ{nt:Nat}{all:List eS}{pres ch:List Nat}:∀(l:List eS)(i:Nat)(ms:List Nat)(ds:List DOp),JI P nt all pres ch i l ms=some ds->ds.length=l.length/\∀k o,l[k]?=some o->∃d,ds[k]?=some d/\ms[k]?=some d.pre/\d.i=i+k/\d.g=guC all o/\d.c=opC P o.op/\Dg nt o.dst=some d.dst/\d.keep=PG pres ch (i+k)
 |[],i,[],ds,h=>by simp only[JI,zb]at h;subst h;exact⟨rfl,λk o hk=>by simp at hk⟩
 |[],i,_::_,ds,h=>by simp[JI]at h
 |_::_,i,[],ds,h=>by simp[JI]at h
 |o::l,i,m::ms,ds,h=>by
  simp only[JI]at h;split at h
  .rename_i dst ds' h1 h2;cases h;obtain⟨g1,g2⟩:=IJ l (i+1) ms ds' h2;refine⟨by simp[g1],λk o' hk=>?_⟩;cases k with
   |zero=>simp only[zW,zb]at hk;subst hk;exact⟨⟨i,guC all o,opC P o.op,dst,m,PG pres ch i⟩,rfl,rfl,rfl,rfl,rfl,h1,rfl⟩
   |succ k=>obtain⟨d,b,f,j,a⟩:=g2 k o' (by simpa using hk);refine⟨d,by simpa using b,by simpa using f,by omega,?_⟩;rw[show i+(k+1)=i+1+k by omega];exact a
  .cases h
theorem DW:∀(l:List eS)(i:Nat),(Bz P i l).Pairwise (·<·)/\∀c,c∈Bz P i l↔∃k o,l[k]?=some o/\c=i+k/\yN (opC P o.op)=true
 |[],i=>⟨zbi,λc=>⟨λh=>(e8 h).elim,λ⟨k,o,h,_⟩=>by simp at h⟩⟩
 |o::l,i=>by
  obtain⟨h1,h2⟩:=DW l (i+1);have tail:∀c,(∃k o',(o::l)[k]?=some o'/\c=i+k/\yN (opC P o'.op)=true)↔((c=i/\yN (opC P o.op)=true)\/∃k o',l[k]?=some o'/\c=i+1+k/\yN (opC P o'.op)=true):=by
   intro c;constructor
   .rintro⟨k,o',a,b,e⟩;cases k with
    |zero=>simp only[zW,zb]at a;subst a;exact .inl ⟨by omega,e⟩
    |succ k=>exact .inr ⟨k,o',by simpa using a,by omega,e⟩
   .rintro(⟨rfl,e⟩|⟨k,o',a,b,e⟩)
    .exact⟨0,o,rfl,rfl,e⟩
    .exact⟨k+1,o',by simpa using a,by omega,e⟩
  simp only[Bz];cases hc:yN (opC P o.op)with
  |true=>
   rw[cond_true];refine⟨zcK.2 ⟨λc hcm=>?_,h1⟩,λc=>?_⟩
   .obtain⟨k,_,_,e,_⟩:=(h2 c).1 hcm;omega
   .rw[tail,zO,h2,hc];simp
  |false=>rw[cond_false];refine⟨h1,λc=>?_⟩;rw[tail,h2,hc];simp
theorem Ht{pres:List Nat}:∀(ch:List Nat),ch.Pairwise (·<·)->Hi pres ch=true->∀c c',c∈ch->c'∈ch->c<c'->bit ((pres[c']?).getD 0) c=true
 |[],hp,h,c,c',hc,hc',hlt=>(e8 hc).elim
 |i::l,hp,h,c,c',hc,hc',hlt=>by
  simp only[Hi,zo,iu]at h;obtain⟨h1,h2⟩:=zcK.1 hp;rcases zO.1 hc with e|m
  .rcases zO.1 hc' with e'|m'
   .omega
   .rw[e];exact h.1 c' m'
  .rcases zO.1 hc' with e'|m'
   .have:=h1 c m;omega
   .exact Ht l h2 h.2 c c' m m' hlt
theorem Dm:∀(l:List eS)(i:Nat),Hg i l=true->∀k o,l[k]?=some o->∀e∈o.after.toList,zR .any e=true->e.on<i+k
 |[],i,h,k,o',hk,e,he,hb=>by simp at hk
 |o::l,i,h,k,o',hk,e,he,hb=>by
  simp only[Hg,zo,iu]at h;cases k with
  |zero=>simp only[zW,zb]at hk;subst hk;have:=h.1 e he;rw[hb]at this;have:=yF (by simpa using this);omega
  |succ k=>have:=Dm l (i+1) h.2 k o' (by simpa using hk) e he hb;omega
theorem Gi:∀(l:List eS),Ee l=true->∀o∈l,∀t:Nat,o.dst=some t->t<lim
 |[],h,o',ho,t,ht=>(e8 ho).elim
 |o::l,h,o',ho,t,ht=>by
  simp only[Ee,zo]at h;rcases zO.1 ho with rfl|ho
  .rw[ht]at h;exact yF h.1
  .exact Gi l h.2 o' ho t ht
theorem GO:∀(l:List eS)(i:Nat)(t:Tr (List Nat)),Ee l=true->∀d:Nat,(∀x,x∈(t.get d).getD []->x∈((Ge t i l).get d).getD [])/\∀k o,l[k]?=some o->o.dst=some d->i+k∈((Ge t i l).get d).getD []
 |[],i,t,_,d=>⟨λx hx=>hx,λk o h=>by simp at h⟩
 |o::l,i,t,hs,d=>by
  have hs':Ee l=true:=by simp only[Ee,zo]at hs;exact hs.2
  simp only[Ge];have b:∀c,c=(match o.dst with|some e=>t.set big e (some (i::(t.get e).getD []))|none=>t)->(∀x,x∈(t.get d).getD []->x∈(c.get d).getD [])/\(o.dst=some d->i∈(c.get d).getD []):=by
   intro c f;subst f;cases ho:o.dst with
   |none=>exact⟨λx hx=>hx,λh=>by cases h⟩
   |some e=>
    have g:e<lim:=Gi (o::l) hs o (by simp) e ho;by_cases a:e=d
    .subst a;simp only;rw[Tr.get_set_eq _ _ _ _ (Nat.lt_of_lt_of_le (Nat.add_lt_add_right g 1) (by unfold lim big;decide))];exact⟨λx hx=>by simp[hx],λ_=>by simp⟩
    .simp only;rw[Tr.get_set_ne _ _ _ _ _ a];exact⟨λx hx=>hx,λh=>by cases h;exact(a rfl).elim⟩
  obtain⟨m,p⟩:=b _ rfl;obtain⟨j,n⟩:=GO l (i+1) (match o.dst with|some e=>t.set big e (some (i::(t.get e).getD []))|none=>t) hs' d;refine⟨λx hx=>j x (m x hx),λk o' hk hd=>?_⟩;cases k with
  |zero=>simp only[zW,zb]at hk;subst hk;exact j i (p hd)
  |succ k=>have:=n k o' (by simpa using hk) hd;rwa [show i+1+k=i+(k+1) by omega]at this
theorem Gw {t : Tr (List Nat)} {pres : List Nat} {j : Nat} : ∀ (l : List Tmp), F8 t pres j l = true → ∀ d ∈ l, ∀ i ∈ (t.get d).getD [], i = j ∨ N9 pres i j = true
  | [], h, d, hd, i, hi => (e8 hd).elim
  | d' :: l, h, d, hd, i, hi => by
    simp only [F8, zo, iu, Bool.or_eq_true] at h
    rcases zO.1 hd with rfl | hd
    · rcases h.1 i hi with h1 | h1
      · exact .inl (yZ h1)
      · exact .inr h1
    · exact Gw l h.2 d hd i hi
theorem F9{all:List eS}{t:Tr (List Nat)}{pres:List Nat}:∀(l:List eS)(j:Nat),Is all t pres j l=true->∀k o,l[k]?=some o->F8 t pres (j+k) (EC all o)=true
 |[],j,h,k,o',hk=>by simp at hk
 |o::l,j,h,k,o',hk=>by
  simp only[Is,zo]at h;cases k with
  |zero=>simp only[zW,zb]at hk;subst hk;exact h.1
  |succ k=>have:=F9 l (j+1) h.2 k o' (by simpa using hk);rwa [show j+1+k=j+(k+1) by omega]at this
structure Um(P:zZ)(nt:Nat)(all:List eS)(d:Nat->DOp):Prop where
 idx:∀i,i<all.length->(d i).i=i
 op:∀i o,all[i]?=some o->(d i).g=guC all o/\(d i).c=opC P o.op/\Dg nt o.dst=some (d i).dst
 edge:∀i o,all[i]?=some o->∀j,bit (d i).pre j=true->∃e∈o.after.toList,zR .any e=true/\e.on<i/\(e.on=j\/bit (d e.on).pre j=true)
 on:∀i o,all[i]?=some o->∀e∈o.after.toList,zR .any e=true->e.on<i
 low:∀c,c<all.length->∀j,bit (d c).pre j=true->j<c
 chain:∀c c',c<c'->c'<all.length->yN (d c).c=true->yN (d c').c=true->bit (d c').pre c=true
 name:∀i j oi oj,all[i]?=some oi->all[j]?=some oj->∀t:Nat,oi.dst=some t->t∈EC all oj->i=j\/(i<j/\bit (d j).pre i=true)\/(j<i/\bit (d i).pre j=true)
 keep:∀i,i<all.length->(∃c,c<all.length/\i<c/\yN (d c).c=true/\bit (d c).pre i=false)->(d i).keep=true
theorem Nu{nt:Nat}{all:List eS}{ds:List DOp}(h:E4 P nt all (Ce [] all) (Bz P 0 all)=some ds):∃d:Nat->DOp,ds.length=all.length/\(∀i e,ds[i]?=some e->e=d i)/\Um P nt all d:=by
 unfold E4 at h;cases hok:(Lv all (Ce [] all)&&Hi (Ce [] all) (Bz P 0 all)&&Hg 0 all&&noSelect all)with
 |false=>rw[hok]at h;cases h
 |true=>
  rw[hok,cond_true]at h;simp only[zo]at hok;obtain⟨⟨⟨D,v⟩,B⟩,_⟩:=hok
  .have G:=h;obtain⟨O,s⟩:=IJ all 0 (Ce [] all) ds G;obtain⟨T,L,S,Q⟩:=JK all [];simp only[List.nil_append]at L;have M:(Ce [] all).length=all.length:=by rw[L,S]
   refine⟨λi=>(ds[i]?).getD ⟨0,.bad,.bad,.none,0,false⟩,O,λi e B=>by simp[B],?_⟩;have g:∀i,i<all.length->((Ce [] all)[i]?).getD 0=((ds[i]?).getD ⟨0,.bad,.bad,.none,0,false⟩).pre:=by intro i m;obtain⟨d,b,r,_⟩:=s i all[i] (zc m);rw[b,r];rfl
   have p:∀i o,all[i]?=some o->∀j,bit ((ds[i]?).getD ⟨0,.bad,.bad,.none,0,false⟩).pre j=true->∃e∈o.after.toList,zR .any e=true/\e.on<i/\(e.on=j\/bit ((ds[e.on]?).getD ⟨0,.bad,.bad,.none,0,false⟩).pre j=true):=by
    intro i o n j f;obtain⟨d,b,r,_⟩:=s i o n;rw[b]at f;simp only[eE]at f;have E:=Q i o n d.pre (by simpa using r);rw[E]at f;obtain⟨e,y,x,l⟩:=G5 _ _ j f;have k:=Dm all 0 B i o n e y x;refine⟨e,y,x,by omega,?_⟩;rcases l with l|l
    .exact .inl l
    .right;have m:i<all.length:=(zm.1 n).1;rw[List.getElem?_take_of_lt (by simp;omega)]at l;rw[g e.on (by omega)]at l;exact l
   have w:∀c,c<all.length->∀j,bit ((ds[c]?).getD ⟨0,.bad,.bad,.none,0,false⟩).pre j=true->j<c:=by
    intro c;induction c using zdD with
    |_ c ih=>
     intro v j f;obtain⟨e,y,x,l,C⟩:=p c all[c] (zc v) j f;rcases C with C|C
     .omega
     .have:=ih e.on l (by omega) j C;omega
   have q:∀c,c<all.length->yN ((ds[c]?).getD ⟨0,.bad,.bad,.none,0,false⟩).c=true->c∈Bz P 0 all:=by intro c v f;obtain⟨d,b,r,J,I,A,F⟩:=s c all[c] (zc v);rw[b]at f;simp only[eE]at f;rw[A]at f;exact((DW all 0).2 c).2 ⟨c,all[c],zc v,by omega,f⟩
   refine⟨λi m=>?_,λi o n=>?_,p,λi o n e y x=>by have:=Dm all 0 B i o n e y x;omega,w,λc c' a h2 h3 h4=>?_,λi j oi oj m hj t ht E=>?_,λi m ⟨c,c1,c2,c3,c4⟩=>?_⟩
   .obtain⟨d,b,r,J,_⟩:=s i all[i] (zc m);rw[b];simp only[eE];omega
   .obtain⟨d,b,r,J,I,A,F,_⟩:=s i o n;rw[b];exact⟨I,A,F⟩
   .have:=Ht _ (DW all 0).1 v c c' (q c (by omega) h3) (q c' h2 h4) a;rwa [g c' h2]at this
   .unfold Lv at D;simp only[zo]at D;have R:=(GO all 0 .leaf D.1 t).2 i oi m ht;have a:=Gw _ (F9 all 0 D.2 j oj hj) t E (0+i) R;simp only[eV]at a;have z:i<all.length:=(zm.1 m).1;have H:j<all.length:=(zm.1 hj).1;rcases a with a|a
    .exact .inl a
    .unfold N9 at a;cases k:zB i j with
     |true=>rw[k,cond_true,g j H]at a;exact .inr (.inl ⟨yF k,a⟩)
     |false=>rw[k,cond_false,g i z]at a;exact .inr (.inr ⟨w i z j a,a⟩)
   .obtain⟨d,b,r,J,I,A,F,N⟩:=s i all[i] (zc m);rw[b];simp only[eE];rw[N];unfold PG;rw[List.any_eq_true];refine⟨c,q c c1 c3,?_⟩;rw[g c c1,eV,c4];simpa[Nat.blt_eq]using c2
end
open Classical in
noncomputable def val (dst:Nat->Option Nat) (v:Nat->CV) (tm0:Tm) (D:Nat->Prop) (t:Nat):Nat->Option CV
 |0=>Ei t tm0
 |i+1=>if D i/\dst i=some t then some (v i)else val dst v tm0 D t i
section
variable{dst:Nat->Option Nat} {v:Nat->CV} {tm0:Tm}
theorem Ep{D D':Nat->Prop}{t:Nat}:∀(i:Nat),(∀j,j<i->dst j=some t->(D j↔D' j))->val dst v tm0 D t i=val dst v tm0 D' t i
 |0,_=>rfl
 |i+1,h=>by
  simp only[val];rw[Ep i (λj hj=>h j (by omega))];by_cases hd:dst i=some t
  .have:=h i (by omega) hd;by_cases a:D i
   .rw[if_pos ⟨a,hd⟩,if_pos ⟨this.1 a,hd⟩]
   .rw[if_neg (λx=>a x.1),if_neg (λx=>a (this.2 x.1))]
  .rw[if_neg (λx=>hd x.2),if_neg (λx=>hd x.2)]
theorem Iz{D:Nat->Prop}{t i:Nat}:∀(n:Nat),i<=n->(∀j,i<=j->j<n->dst j=some t->¬D j)->val dst v tm0 D t n=val dst v tm0 D t i
 |0,h,_=>by
  have:i=0:=by omega
  subst this;rfl
 |n+1,h,hn=>by
  by_cases e:i=n+1
  .subst e;rfl
  .simp only[val];rw[if_neg (λx=>hn n (by omega) (by omega) x.2 x.1)];exact Iz n (by omega) (λj h1 h2=>hn j h1 (by omega))
end
def Lh(all:List eS)(i:Nat):Option Nat:=(all[i]?).bind (·.dst)
section
variable{P:zZ} {base:Nat} {call:Call} {nt n:Nat} {all:List eS} {d:Nat->DOp} {X:Nat->DSt} {v:Nat->CV}
theorem LF(R:Um P nt all d)(t:Fj base call n d X v)(hn:n=all.length):∀i,i<=n->∀x,x<256->Ei x (X i).tm=val (Lh all) v (X 0).tm (λ_=>True) x i
 |0,_,x,_=>rfl
 |i+1,hi,x,hx=>by
  have ih:=LF R t hn i (by omega) x hx;have hil:i<all.length:=by omega
  have q:all[i]?=some all[i]:=zc hil;obtain⟨_,_,s⟩:=R.op i _ q;have k:(X (i+1)).tm=De (d i).dst (v i) (X i).tm:=by
   rcases DJ (t.step i (by omega))with⟨_,m,e⟩|⟨z,⟨f,c,g,e⟩|⟨f,c,g,w,e⟩|⟨f,o,y,c,g,m,e⟩|⟨f,S,c,g,w,e⟩⟩
   .rw[e,m]
   all_goals rw[e]
  rw[k];simp only[val,true_and];have j:Lh all i=all[i].dst:=by simp[Lh,q]
  rw[j];rcases EV s with⟨b,l⟩|⟨e,b,l,p,r⟩
  .rw[l,b,if_neg (by simp)];exact ih
  .rw[r,b];by_cases a:e=x
   .subst a;rw[if_pos rfl,CH _ _ _ p]
   .rw[if_neg (λh=>a (eF h)),Cz _ _ _ _ p hx a];exact ih
structure IsT(base n:Nat)(d:Nat->DOp)(X:Nat->DSt)(v:Nat->CV)(D:Nat->Prop)(m:Nat)(T:St):Prop where
 next:T.next=(X m).S.next
 nk:T.nk=(X m).S.nk
 get:∀b o,T.heap.get b=some o↔(X m).S.heap.get b=some o\/∃j,j<n/\D j/\NO base d X v j o/\Un d X m j/\b=base+j
 apart:∀j o,j<n->D j->NO base d X v j o->Un d X m j->(X m).S.heap.get (base+j)=none
theorem IsT.move(t:Fj base call n d X v){D:Nat->Prop}{m m':Nat}{T:St}(h:IsT base n d X v D m T)(hm:m<=n)(hm':m'<=n)(h1:∀c,m<=c->c<m'->yN (d c).c=false\/¬Wan d X c)(h2:∀c,m'<=c->c<m->yN (d c).c=false\/¬Wan d X c):IsT base n d X v D m' T:=by
 have i:(X m').S=(X m).S:=by
  rcases Nat.le_total m m' with h|h
  .exact(t.still m' h hm' h1).symm
  .exact t.still m h hm h2
 have l:∀j,Un d X m' j↔Un d X m j:=by
  intro j;constructor
  .intro u c r g f;rcases ly c m' with h|h
   .exact u c h g f
   .rcases h2 c h r with e|e
    .rw[g]at e;cases e
    .exact(e f).elim
  .intro u c r g f;rcases ly c m with h|h
   .exact u c h g f
   .rcases h1 c h r with e|e
    .rw[g]at e;cases e
    .exact(e f).elim
 refine⟨by rw[i];exact h.next,by rw[i];exact h.nk,λb o=>?_,λj o a b c e=>by rw[i];exact h.apart j o a b c ((l j).1 e)⟩;rw[i,h.get b o];constructor
 .rintro(h|⟨j,p,k,q,s,w⟩)
  .exact .inl h
  .exact .inr ⟨j,p,k,q,(l j).2 s,w⟩
 .rintro(h|⟨j,p,k,q,s,w⟩)
  .exact .inl h
  .exact .inr ⟨j,p,k,q,(l j).1 s,w⟩
theorem IsT.same{D D':Nat->Prop}{m:Nat}{T:St}(h:IsT base n d X v D m T)(hD:∀j o,NO base d X v j o->(D j↔D' j)):IsT base n d X v D' m T:=by
 refine⟨h.next,h.nk,λb o=>?_,λj o a b c e=>h.apart j o a ((hD j o c).2 b) c e⟩;rw[h.get b o];constructor
 .rintro(h|⟨j,i,g,f,k,l⟩)
  .exact .inl h
  .exact .inr ⟨j,i,(hD j o f).1 g,f,k,l⟩
 .rintro(h|⟨j,i,g,f,k,l⟩)
  .exact .inl h
  .exact .inr ⟨j,i,(hD j o f).2 g,f,k,l⟩
theorem IsT.part{D:Nat->Prop}{m i:Nat}{T:St}(h:IsT base n d X v D m T){p:List (Nat×Nat×Bp)}(hp:Xt base n d X v m i p)(hpre:∀j,bit (d i).pre j=true->D j):Sub (AA p (X m).S) T:=by
 obtain⟨f,g⟩:=Jq p (X m).S;refine⟨λb o hb=>?_,by rw[f,h.next],by rw[g,h.nk]⟩;obtain⟨q,s⟩:=E5 p (X m).S hp.1 b;by_cases c:∃e∈p,e.2.1=b
 .obtain⟨e,c,a⟩:=c;rw[q e c a]at hb;cases hb;obtain⟨k,w,l,r,t⟩:=hp.2 e c;exact(h.get b _).2 (.inr ⟨e.1,k,hpre _ t,l,r,by omega⟩)
 .rw[s (λe he' a=>c ⟨e,he',a⟩)]at hb;exact(h.get b o).2 (.inl hb)
structure Inv(P:zZ)(base n nt:Nat)(all:List eS)(d:Nat->DOp)(X:Nat->DSt)(v:Nat->CV)(ρ0:Ren)(S0:St)(w0:ze)(dfs:List Deferred)(D:Nat->Prop)(a:lH)(w:ze)(ρ:Ren)(m:Nat)(T:St)(tm:Tm):Prop where
 bound:∀i,D i->i<n
 closed:∀i,D i->∀j,bit (d i).pre j=true->D j
 le:m<=n
 pos:∀c,c<n->yN (d c).c=true->(D c↔c<m)
 isT:IsT base n d X v D m T
 stp:Ii base ρ0 S0 w0 ρ T w
 fr:A6 ρ nt tm a
 name:∀x,x<256->Ei x tm=val (Lh all) v (X 0).tm D x n
 free:∀j,j<n->¬D j->ρ.b (base+j)=none
 dfs:As P dfs a.defers
theorem U2(R:Um P nt all d)(t:Fj base call n d X v)(hn:n=all.length)(hcall:GI P call){ops:Array eS}(hall:ops.toList=all){ρ0:Ren}{S0:St}{w0:ze}(hg0:FE P ρ0)(hS0:base+n<=S0.next)(hlim:base+n<lim){dfs:List Deferred}{D:Nat->Prop}{a:lH}{w:ze}{ρ:Ren}{m:Nat}{T:St}{tm:Tm}(inv:Inv P base n nt all d X v ρ0 S0 w0 dfs D a w ρ m T tm){i:Nat}(hi:i<n)(hDi:¬D i)(hpre:∀j,bit (d i).pre j=true->D j){K':lH->ze->Prop}{Q':Exit->lH->ze->Prop}(hK:∀a' w' ρ' m' T' tm',Inv P base n nt all d X v ρ0 S0 w0 dfs (λj=>D j\/j=i) a' w' ρ' m' T' tm'->K' a' w'):wpOp P ops Q' i K' a w:=by
 have ca:i<all.length:=by omega
 obtain⟨o,ho⟩:∃o,all[i]?=some o:=⟨all[i],zc ca⟩
 have al:ops[i]?=some o:=by rw[<-hall]at ho;simpa using ho
 obtain⟨bv,cq,bk⟩:=R.op i o ho;have U:FE P ρ:=hg0.mono inv.stp.ext;have hrel:Rel ρ T w:=inv.stp.rel;have H:∀c,D c->bit (d c).pre i=false:=by
  intro c I;cases Y:bit (d c).pre i with
  |false=>rfl
  |true=>exact(hDi (inv.closed c I i Y)).elim
 have av:∀x,x∈EC all o->x<256->Ei x tm=Ei x (X i).tm:=by
  intro x hx ak;rw[inv.name x ak,LF R t hn i (by omega) x ak];have hw:∀j,j<n->Lh all j=some x->j≠i->(j<i/\bit (d i).pre j=true)\/(i<j/\bit (d j).pre i=true):=by
   intro j hj M cc;have ay:all[j]?=some all[j]:=zc (by omega);have ar:all[j].dst=some x:=by simpa[Lh,ay]using M
   rcases R.name j i all[j] o ay ho x ar hx with e|e|e
   .exact(cc e).elim
   .exact .inl e
   .exact .inr e
  rw[Iz (i:=i) n (by omega) (λj C F Z hD=>?_)]
  .refine Ep i (λj hj M=>⟨λ_=>trivial,λ_=>?_⟩);rcases hw j (by omega) M (by omega)with⟨_,e⟩|⟨e,_⟩
   .exact hpre j e
   .omega
  .by_cases e:j=i
   .subst e;exact hDi hD
   .rcases hw j F Z e with⟨e',_⟩|⟨_,e'⟩
    .omega
    .exact hDi (inv.closed j hD i e')
 have cs:Agree P o.op tm (X i).tm:=by
  intro x hx;cases x with
  |tmp y=>
   show(RQ y).eval tm=(RQ y).eval (X i).tm;rw[CD,CD];split
   .rename_i ak;refine av y ?_ ak;simp only[EC,eZ];right;rw[List.mem_filterMap];exact⟨.tmp y,hx,rfl⟩
   .rfl
  |const c=>show(opd P (.const c)).eval tm=(opd P (.const c)).eval (X i).tm;simp only[opd];cases ofV EF c<;>rfl
  |global g=>show(opd P (.global g)).eval tm=(opd P (.global g)).eval (X i).tm;simp only[opd];cases zB g P.globals.size<;>rfl
  |func f=>rfl
 have ab:Bm (guC all o) tm=Bm (guC all o) (X i).tm:=by
  unfold guC;cases hgo:JM all o with
  |none=>rfl
  |some q=>
   cases q with
   |none=>rfl
   |some q=>
    obtain⟨y,cy⟩:=q;have:(RQ y).eval tm=(RQ y).eval (X i).tm:=by
     rw[CD,CD];split
     .rename_i ak;refine av y ?_ ak;simp only[EC,eZ];left;right;rw[hgo];simp
     .rfl
    simp only[Bm,this]
 have z:=Ql o.op cs;have L:=SE P o;rw[<-cq]at z L;have bf:∀(ρ':Ren)(m':Nat)(T':St)(w':ze)(V:Value)(a1:lH),a1.tmps=a.tmps->As P a.defers a1.defers->m'<=n->(∀c,c<n->yN (d c).c=true->((D c\/c=i)↔c<m'))->IsT base n d X v (λj=>D j\/j=i) m' T'->Ii base ρ0 S0 w0 ρ' T' w'->ρ.Le ρ'->yx ρ' (v i)=some V->(∀j,j<n->¬(D j\/j=i)->ρ'.b (base+j)=none)->K' (a1.put o.dst V) w':=by
  intro ρ' m' T' w' V a1 ha1 hd1 C F Z h4 h5 h6 h7;refine hK _ _ ρ' m' T' (De (d i).dst (v i) tm) ⟨?_,?_,C,F,Z,h4,((inv.fr.mono h5).act ha1).put bk h6,?_,h7,(inv.dfs.trans hd1).trans (.of (BO _ _ _))⟩
  .rintro j (h|rfl)
   .exact inv.bound j h
   .exact hi
  .rintro j (h|rfl) k hk
   .exact .inl (inv.closed j h k hk)
   .exact .inl (hpre k hk)
  .intro x hx;have bs:Lh all i=o.dst:=by simp[Lh,ho]
   rcases EV bk with⟨e1,e2⟩|⟨e,e1,e2,e3,e4⟩
   .rw[e2,inv.name x hx];refine Ep n (λj hj M=>⟨λh=>.inl h,λh=>?_⟩);rcases h with h|rfl
    .exact h
    .rw[bs,e1]at M;cases M
   .rw[e4];by_cases br:e=x
    .subst br;rw[CH _ _ _ e3];rw[Iz (i:=i+1) n (by omega) (λj C F Z hD=>?_)]
     .simp only[val];rw[if_pos ⟨.inr rfl,by rw[bs,e1]⟩]
     .rcases hD with hD|hD
      .have ay:all[j]?=some all[j]:=zc (by omega);have ar:all[j].dst=some e:=by simpa[Lh,ay]using Z
       have b8:e∈EC all o:=by simp only[EC,eZ];left;left;rw[e1];simp
       rcases R.name j i all[j] o ay ho e ar b8 with h|h|h
       .omega
       .omega
       .exact hDi (inv.closed j hD i h.2)
      .omega
    .rw[Cz _ _ _ _ e3 hx br,inv.name x hx];refine Ep n (λj hj M=>⟨λh=>.inl h,λh=>?_⟩);rcases h with h|rfl
     .exact h
     .rw[bs,e1]at M;cases M;exact(br rfl).elim
 have a7:∀(ρ':Ren)(m':Nat)(T':St)(w':ze)(V:Value),m'<=n->(∀c,c<n->yN (d c).c=true->((D c\/c=i)↔c<m'))->IsT base n d X v (λj=>D j\/j=i) m' T'->Ii base ρ0 S0 w0 ρ' T' w'->ρ.Le ρ'->yx ρ' (v i)=some V->(∀j,j<n->¬(D j\/j=i)->ρ'.b (base+j)=none)->K' (a.put o.dst V) w':=λρ' m' T' w' V C F Z h4 h5 h6 h7=>bf ρ' m' T' w' V a rfl (.refl _) C F Z h4 h5 h6 h7;have af:yN (d i).c=false->∀c,c<n->yN (d c).c=true->((D c\/c=i)↔c<m):=by
  intro cd c I A;rw[<-inv.pos c I A];constructor
  .rintro(h|rfl)
   .exact h
   .rw[A]at cd;cases cd
  .exactλh=>.inl h
 have ai:yN (d i).c=true->∀c,c<n->yN (d c).c=true->(D c↔c<i):=by
  intro s c I A;constructor
  .intro hD;rcases Nat.lt_trichotomy c i with h|h|h
   .exact h
   .subst h;exact(hDi hD).elim
   .have:=R.chain i c h (by omega) s A;rw[H c hD]at this;cases this
  .intro h;exact hpre c (R.chain c i h ca A s)
 have b2:yN (d i).c=true->IsT base n d X v D i T:=by
  intro s;refine inv.isT.move t inv.le (by omega) (λc C F=>?_) (λc C F=>?_)
  .cases A:yN (d c).c with
   |false=>exact .inl rfl
   |true=>have:=(ai s c (by omega) A).2 F;have:=(inv.pos c (by omega) A).1 this;omega
  .cases A:yN (d c).c with
   |false=>exact .inl rfl
   |true=>have cf:=inv.le;have:=(inv.pos c (by omega) A).2 F;have:=(ai s c (by omega) A).1 this;omega
 have Q:(∀f,(d i).c≠ .new f)\/¬Wan d X i->∀j l,NO base d X v j l->(D j↔(D j\/j=i)):=by
  intro h j l be;constructor
  .exactλh=>.inl h
  .rintro(h'|rfl)
   .exact h'
   .obtain⟨f,mk,g1,g2,_⟩:=be;rcases h with h|h
    .exact(h f g1).elim
    .exact(h g2).elim
 have G:∀j,j<n->¬(D j\/j=i)->ρ.b (base+j)=none:=λj hj h=>inv.free j hj (λh'=>h (.inl h'));unfold wpOp;rw[al];simp only;rcases DJ (t.step i hi)with⟨hw,hv,_⟩|⟨hw,bq⟩
 .
  rw[bv,<-ab]at hw;have:=Eu inv.fr (ops:=ops) (o:=o) (b:=false) (by rw[hall];exact hw);rw[this];simp only[Bool.false_eq_true,if_false];have bp:¬Wan d X i:=λh=>by unfold Wan at h;rw[bv,<-ab,hw]at h;cases h
  have ax:yx ρ (v i)=some undef:=by rw[hv];rfl
  cases s:yN (d i).c with
  |false=>exact a7 ρ m T w undef inv.le (af s) (inv.isT.same (Q (.inr bp))) inv.stp (.refl ρ) ax G
  |true=>
   refine a7 ρ (i+1) T w undef (by omega) (λc I A=>?_) (((b2 s).move t (by omega) (by omega) (λc C F=>?_) (λc C F=>?_)).same (Q (.inr bp))) inv.stp (.refl ρ) ax G
   .rw[ai s c I A];omega
   .have:c=i:=by omega
    subst this;exact .inr bp
   .omega
 .
  have ag:Wan d X i:=hw;rw[bv,<-ab]at hw;have:=Eu inv.fr (ops:=ops) (o:=o) (b:=true) (by rw[hall];exact hw);rw[this,if_pos rfl];left;rcases bq with⟨f,I,hf,_⟩|⟨f,I,hf,_,_⟩|⟨f,ad,mk,I,hf,hv,_⟩|⟨f,S,I,_,_,_⟩
  .
   rw[I]at z L;have a0:f tm=some (v i):=by rw[show f tm=f (X i).tm from z];exact hf
   obtain⟨V,C,F⟩:=L ρ nt tm a (v i) inv.fr U a0;unfold zbE;rw[F w];have s:yN (d i).c=false:=by rw[I];rfl
   exact a7 ρ m T w V inv.le (af s) (inv.isT.same (Q (.inl (λg hg=>by rw[I]at hg;cases hg)))) inv.stp (.refl ρ) C G
  .
   rw[I]at z L;have s:yN (d i).c=false:=by rw[I];rfl
   obtain⟨p,hp,cr⟩:=t.read hi I ag inv.le (by
    rcases ly i m with h|h
    .refine .inr ⟨h,λc C F A=>?_⟩;have cf:=inv.le;exact H c ((inv.pos c (by omega) A).2 F)
    .refine .inl ⟨h,λc C F A=>?_⟩;cases Y:bit (d i).pre c with
     |false=>rfl
     |true=>have:=(inv.pos c (by omega) A).1 (hpre c Y);omega)
   have a0:f tm (AA p (X m).S)=some (v i):=by rw[show f tm (AA p (X m).S)=f (X i).tm (AA p (X m).S)from z _];exact cr
   obtain⟨V,C,F⟩:=L ρ nt tm a (v i) _ w inv.fr U (hrel.has.sub (inv.isT.part hp hpre)) a0;unfold zbE;rw[F];exact a7 ρ m T w V inv.le (af s) (inv.isT.same (Q (.inl (λg hg=>by rw[I]at hg;cases hg)))) inv.stp (.refl ρ) C G
  .
   rw[I]at z L;have s:yN (d i).c=false:=by rw[I];rfl
   rw[t.idx i hi]at hv;have be:NO base d X v i ad:=⟨f,mk,I,ag,hf,hv⟩
   have a0:f tm=some (ad,mk):=by rw[show f tm=f (X i).tm from z];exact hf
   obtain⟨O,hO,F⟩:=L ρ nt tm a ad mk inv.fr U a0;obtain⟨V,Z,h4⟩:=F w;unfold zbE;rw[Z];have aq:=inv.free i hi hDi;have W:T.heap.get (base+i)=none:=by
    cases hq:T.heap.get (base+i)with
    |none=>rfl
    |some l=>obtain⟨_,_,_,e1,_⟩:=hrel.obj _ l hq;rw[aq]at e1;cases e1
   have bh:base+i+1<2^big:=by have:=t.small;omega
   have J:=Ii.newAt (N:=base) (T':=⟨T.heap.set big (base+i) (some ad),T.next,T.nk⟩) (w':={w with heap:=w.heap.push O}) hrel (r:=base+i) (by have:=inv.stp.next;omega) (by omega) aq hO (Tr.get_set_eq _ _ _ _ bh) (λb Y l al=>by have al:(T.heap.set big (base+i) (some ad)).get b=some l:=al;rw[Tr.get_set_ne _ _ _ _ _ (λe=>Y e.symm)]at al;exact al) rfl rfl rfl rfl rfl rfl;have cn:Un d X m i:=λc bb A _=>by have cf:=inv.le;exact H c ((inv.pos c (by omega) A).2 bb)
   have b9:(X m).S.heap.get (base+i)=none:=by
    cases hq:(X m).S.heap.get (base+i)with
    |none=>rfl
    |some l=>have:=(inv.isT.get (base+i) l).2 (.inl hq);rw[W]at this;cases this
   refine a7 _ m ⟨T.heap.set big (base+i) (some ad),T.next,T.nk⟩ _ V inv.le (af s) ⟨inv.isT.next,inv.isT.nk,λb l=>?_,λj l h5 h6 h7 h8=>?_⟩ (inv.stp.comp J (zn _)) J.ext (by rw[hv.1];exact h4 _ _ (by simp[Ren.extb])) (λj hj h=>?_)
   .show(T.heap.set big (base+i) (some ad)).get b=some l↔_;by_cases Y:b=base+i
    .subst Y;rw[Tr.get_set_eq _ _ _ _ bh];constructor
     .intro e;cases e;exact .inr ⟨i,hi,.inr rfl,be,cn,rfl⟩
     .rintro(e|⟨j,a1,a2,a3,a4,a5⟩)
      .rw[b9]at e;cases e
      .have:j=i:=by omega
       subst this;rw[NO.inj a3 be]
    .rw[Tr.get_set_ne _ _ _ _ _ (λe=>Y e.symm),inv.isT.get b l];constructor
     .rintro(e|⟨j,a1,a2,a3,a4,a5⟩)
      .exact .inl e
      .exact .inr ⟨j,a1,.inl a2,a3,a4,a5⟩
     .rintro(e|⟨j,a1,a2,a3,a4,a5⟩)
      .exact .inl e
      .rcases a2 with a2|rfl
       .exact .inr ⟨j,a1,a2,a3,a4,a5⟩
       .exact(Y a5).elim
   .rcases h6 with h6|rfl
    .exact inv.isT.apart j l h5 h6 h7 h8
    .exact b9
   .have cc:j≠i:=λe=>h (.inr e);simp only[Ren.extb];rw[if_neg (by omega)];exact G j hj h
  .
   have s:yN (d i).c=true:=by rw[I];rfl
   obtain⟨f',bb,b5,_⟩:=t.chain hi s ag;rw[I]at bb;cases bb;rw[I]at z L;have W:=b2 s;have ac:=t.mine hi (zn i);have ae:=W.part ac hpre;have bo:Ch call (f tm (AA (Ba (d i).pre (X i).pend).1 (X i).S))=.ok (v i) (X (i+1)).S:=by rw[z];exact b5
   refine PR L hcall bo inv.fr U (hrel.sub ae) (λρ' w' V a1 ha1 hd1 J hV=>?_);have ce:=ae.next;have cz:base+n<=T.next:=by have:=inv.stp.next;omega
   have bg:∀j,j<n->ρ'.b (base+j)=ρ.b (base+j):=λj hj=>J.old _ (by rw[ce];omega);have aj:∀j l,j<n->D j->NO base d X v j l->Un d X i j->bit (d i).pre j=false->(AA (Ba (d i).pre (X i).pend).1 (X i).S).heap.get (base+j)=none:=by
    intro j l C F Z h4 h5;obtain⟨_,g2⟩:=E5 _ (X i).S ac.1 (base+j);rw[g2 (λe he heb=>?_)]
    .exact W.apart j l C F Z h4
    .obtain⟨_,a2,_,_,a5⟩:=ac.2 e he;have:e.1=j:=by omega
     rw[this,h5]at a5;cases a5
   have ah:∀j l,j<n->D j->NO base d X v j l->Un d X i j->bit (d i).pre j=false->(X (i+1)).S.heap.get (base+j)=none:=by
    intro j l C F Z h4 h5;have hT:=(W.get (base+j) l).2 (.inr ⟨j,C,F,Z,h4,rfl⟩);obtain⟨B,E,O,e1,e2,_⟩:=hrel.obj _ _ hT;cases hq:(X (i+1)).S.heap.get (base+j)with
    |none=>rfl
    |some o2=>have b7:=bg j C;rw[e1]at b7;obtain⟨b0,D0,⟨o0,bu⟩,e0⟩:=J.dom (base+j) B E ⟨o2,hq⟩ b7 (Array.getElem?_eq_some_iff.1 e2).1;have:=hrel.inj b0 (base+j) B D0 E ⟨o0,ae.get _ _ bu⟩ ⟨l,hT⟩ (.inr ⟨l,hT,by obtain⟨_,_,_,_,_,_,hw⟩:=Z;exact hw⟩) e0 e1;subst this;rw[aj j l C F Z h4 h5]at bu;cases bu
   obtain⟨T',t1,t2,t3,t4⟩:=Hx (X (i+1)).S base (λj=>D j/\(∃l,NO base d X v j l)/\Un d X i j/\bit (d i).pre j=false) (λj=>T.heap.get (base+j)) n (by have:=t.small;omega) (λj hj hp=>by obtain⟨p1,⟨l,p2⟩,p3,p4⟩:=hp;rw[(W.get (base+j) l).2 (.inr ⟨j,hj,p1,p2,p3,rfl⟩)];rfl);have a8:∀b l,T'.heap.get b=some l↔(X (i+1)).S.heap.get b=some l\/∃j,j<n/\D j/\NO base d X v j l/\Un d X i j/\bit (d i).pre j=false/\b=base+j:=by
    intro b l;by_cases Y:∃j,j<n/\(D j/\(∃l,NO base d X v j l)/\Un d X i j/\bit (d i).pre j=false)/\b=base+j
    .obtain⟨j,C,⟨p1,⟨o2,p2⟩,p3,p4⟩,rfl⟩:=Y;rw[t3 j C ⟨p1,⟨o2,p2⟩,p3,p4⟩,(W.get (base+j) o2).2 (.inr ⟨j,C,p1,p2,p3,rfl⟩),ah j o2 C p1 p2 p3 p4];constructor
     .intro e;cases e;exact .inr ⟨j,C,p1,p2,p3,p4,rfl⟩
     .rintro(e|⟨j',q1,q2,q3,q4,q5,q6⟩)
      .cases e
      .have:j'=j:=by omega
       subst this;rw[NO.inj q3 p2]
    .rw[t4 b (λj hj hp e=>Y ⟨j,hj,hp,e⟩)];constructor
     .exactλe=>.inl e
     .rintro(e|⟨j',q1,q2,q3,q4,q5,q6⟩)
      .exact e
      .exact(Y ⟨j',q1,⟨q2,⟨l,q3⟩,q4,q5⟩,q6⟩).elim
   have bd:Ii T.next ρ T w ρ' T' w':=by
    have:=Ii.frame (T':=T') hrel ae J (λb l Y=>by
     rcases(a8 b l).1 Y with e|⟨j,q1,q2,q3,q4,q5,q6⟩
     .exact .inl e
     .subst q6;exact .inr ⟨(W.get _ l).2 (.inr ⟨j,q1,q2,q3,q4,rfl⟩),aj j l q1 q2 q3 q4 q5⟩) t1 t2
    rwa [ce]at this
   have az:∀j,j<n->(Un d X (i+1) j↔(Un d X i j/\bit (d i).pre j=false)):=by
    intro j hj;constructor
    .intro u;exact⟨λc C=>u c (Nat.lt_succ_of_lt C),u i (Nat.lt_succ_self i) s ag⟩
    .rintro⟨u,Y⟩ c C F Z;rcases ly c i with h|h
     .exact u c h F Z
     .have:c=i:=by omega
      subst this;exact Y
   have bi:∀l,¬NO base d X v i l:=λl h=>by obtain⟨g,_,g1,_⟩:=h;rw[I]at g1;cases g1
   refine bf ρ' (i+1) T' w' V a1 ha1 hd1 (by omega) (λc C F=>by rw[ai s c C F];omega) ⟨t1,t2,λb l=>?_,λj l h5 h6 h7 h8=>?_⟩ (inv.stp.comp bd (by omega)) J.ext hV (λj hj h=>by rw[bg j hj];exact G j hj h)
   .rw[a8 b l];constructor
    .rintro(e|⟨j,q1,q2,q3,q4,q5,q6⟩)
     .exact .inl e
     .exact .inr ⟨j,q1,.inl q2,q3,(az j q1).2 ⟨q4,q5⟩,q6⟩
    .rintro(e|⟨j,q1,q2,q3,q4,q5⟩)
     .exact .inl e
     .rcases q2 with q2|rfl
      .have:=(az j q1).1 q4;exact .inr ⟨j,q1,q2,q3,this.1,this.2,q5⟩
      .exact(bi l q3).elim
   .rcases h6 with h6|rfl
    .have:=(az j h5).1 h8;exact ah j l h5 h6 h7 this.1 this.2
    .exact(bi l h7).elim
end
theorem MX{p p':Nat->Bool}:∀(l:List Nat),(∀x∈l,p' x=true->p x=true)->(∃x∈l,p x=true/\p' x=false)->l.countP p'<l.countP p
 |[],_,⟨x,hx,_⟩=>(e8 hx).elim
 |y::l,h,⟨x,hx,h1,h2⟩=>by
  have le:l.countP p'<=l.countP p:=List.countP_mono_left (λz hz=>h z (by simp[hz]));rw[zdi,zdi];rcases zO.1 hx with rfl|hx
  .rw[h1,h2];simp;omega
  .have ih:=MX l (λz hz=>h z (by simp[hz])) ⟨x,hx,h1,h2⟩;have:=h y (by simp);cases hp':p' y with
   |false=>simp;omega
   |true=>rw[this hp'];simp;omega
section
variable{P:zZ}
theorem Wj{base n nt:Nat}{call:Call}{all:List eS}{d:Nat->DOp}{X:Nat->DSt}{v:Nat->CV}(R:Um P nt all d)(t:Fj base call n d X v)(hn:n=all.length){ρ0:Ren}{S:St}{w0:ze}(hg0:FE P ρ0)(hb:base=S.next){dfs:List Deferred}{D:Nat->Prop}{a:lH}{w:ze}{ρ:Ren}{m:Nat}{T:St}{tm:Tm}(inv:Inv P base n nt all d X v ρ0 ⟨S.heap,base+n,S.nk⟩ w0 dfs D a w ρ m T tm)(hD:∀i,i<n->D i):Stp ρ0 S w0 ρ (AA (X n).pend (X n).S) w/\At P nt ρ (X n).tm (AA (X n).pend (X n).S) a w:=by
 subst hb;obtain⟨r,p⟩:=t.pend n (zn _);have l:IsT S.next n d X v D n T:=inv.isT.move t inv.le (zn _) (λc h1 h2=>by
  cases hcc:yN (d c).c with
  |false=>exact .inl rfl
  |true=>have:=(inv.pos c h2 hcc).1 (hD c h2);omega) (λc h1 h2=>by have:=inv.le;omega)
 have s:We T (AA (X n).pend (X n).S):=by
  obtain⟨C,E⟩:=Jq (X n).pend (X n).S;refine⟨λb=>?_,by rw[C,l.next],by rw[E,l.nk]⟩;obtain⟨F,A⟩:=E5 (X n).pend (X n).S r b;by_cases k:∃e∈(X n).pend,e.2.1=b
  .obtain⟨e,k,g⟩:=k;rw[F e k g];obtain⟨q,B,y,z⟩:=(p e).1 k;exact(l.get b _).2 (.inr ⟨e.1,q,hD _ q,y,z,by omega⟩)
  .rw[A (λe he' g=>k ⟨e,he',g⟩)];cases hq:(X n).S.heap.get b with
   |some o=>exact(l.get b o).2 (.inl hq)
   |none=>
    cases hq2:T.heap.get b with
    |none=>rfl
    |some o=>
     rcases(l.get b o).1 hq2 with h|⟨j,q,B,y,z,G⟩
     .rw[hq]at h;cases h
     .exact(k ⟨(j,S.next+j,o),(p _).2 ⟨q,rfl,y,z⟩,G.symm⟩).elim
 have f:=inv.stp.right s;refine⟨⟨f.ext,f.rel,?_,f.nk,f.keep,f.size,f.dom,f.os,f.tape,f.output,f.old,f.domW⟩,f.rel,⟨inv.fr.size,λx u hx hu=>?_⟩,hg0.mono f.ext⟩
 .have:=f.next;simp only at this;omega
 .rw[LF R t hn n (zn _) x hx]at hu;refine inv.fr.val x u hx ?_;rw[inv.name x hx,<-hu];exact Ep n (λj hj _=>⟨λ_=>trivial,λ_=>hD j hj⟩)
theorem Xh(P:zZ){call:Call}(hcall:GI P call){nt:Nat}{ops:Array eS}{dops:List DOp}(hd:E4 P nt ops.toList (Ce [] ops.toList) (Bz P 0 ops.toList)=some dops){K:lH->ze->Prop}{Q:Exit->lH->ze->Prop}{r:Res}{k:Tm->St->Res}{ρ:Ren}{tm:Tm}{S:St}{a:lH}{w:ze}(hat:At P nt ρ tm S a w)(hrun:Ul ops.toList.length dops call tm S k=r)(hr:r≠ .fail)(hK:∀ρ' tm' S' a' w',Stp ρ S w ρ' S' w'->At P nt ρ' tm' S' a' w'->As P a.defers a'.defers->k tm' S'=r->K a' w'):wpAny P .any ops (ef K Q) ops.size (eD ops.size false) a w:=by
 obtain⟨h,l,nk⟩:=S;unfold Ul at hrun;generalize H:ops.toList.length=n at hrun;replace H:=H.symm;simp only at hrun
 .cases B:zB (l+n) lim with
  |false=>rw[B]at hrun;exact absurd hrun.symm hr
  |true=>
   rw[B,cond_true]at hrun;have B:=yF B;obtain⟨d,ae,al,R⟩:=Nu hd;split at hrun
   .rename_i xf hxf;obtain⟨X,v,x0,xn,Y⟩:=Kr l call dops _ xf hxf;have N:n=ops.size:=by rw[H,Array.length_toList]
    have t:Fj l call n d X v:=by refine⟨λi z=>?_,λi z=>R.idx i (by omega),by rw[x0],by unfold lim at B;simp[big];omega,λc hc=>R.low c (by omega),λi z ⟨c,c1,c2⟩=>R.keep i (by omega) ⟨c,by omega,c2⟩⟩;have aa:dops[i]?=some dops[i]:=zc (by omega);rw[<-al i _ aa];exact Y i _ aa
    have W:Rel ρ ⟨h,l+n,nk⟩ w:=⟨hat.rel.obj,hat.rel.inj,λb hb=>hat.rel.fresh b (by simp only at hb⊢;omega),hat.rel.freshk⟩
    have aj:∀(y:Nat)(f:Array Bool)(a':lH)(w':ze),f.size=n->(ev n).countP (λi=> !f.getD i true)<=y->(∃ρ' m T tm',Inv P l n nt ops.toList d X v ρ ⟨h,l+n,nk⟩ w a.defers (λi=>f.getD i false=true) a' w' ρ' m T tm')->wpAny P .any ops (ef K Q) y f a' w':=by
     intro y;have U:∀(f:Array Bool)(a':lH)(w':ze),f.size=n->eu .any ops f=[]->(∃ρ' m T tm',Inv P l n nt ops.toList d X v ρ ⟨h,l+n,nk⟩ w a.defers (λi=>f.getD i false=true) a' w' ρ' m T tm')->K a' w':=by
      intro f a' w' G g ⟨ρ',m,T,tm',E⟩;have af:∀i,i<n->f.getD i false=true:=by
       intro i;induction i using zdD with
       |_ i ih=>
        intro z;cases O:f.getD i false with
        |true=>rfl
        |false=>
         exfalso;have ho:ops.toList[i]?=some (ops.toList[i]'(by rw[<-H];exact z)):=zc _;have V:ops[i]?=some (ops.toList[i]'(by rw[<-H];exact z)):=by simpa using ho
         have M:i∈eu .any ops f:=by
          unfold eu;rw[ie];refine⟨lD.2 (by omega),?_⟩;have hg:f.getD i true=false:=by simp only[zw]at O⊢;rw[zU (by omega)]at O⊢;exact O
          rw[hg,V];simp only[Bool.not_false,Bool.true_and,zQ,eE];rw[zan];intro e he;cases hb:zR .any e with
          |false=>rfl
          |true=>
           have ak:e∈(ops.toList[i]'(by rw[<-H];exact z)).after.toList:=by simpa using he
           have:=R.on i _ ho e ak hb;simp only[zcg,zdK];exact ih e.on this (by omega)
         rw[g]at M;cases M
      obtain⟨h1,h2⟩:=Wj (S:=⟨h,l,nk⟩) R t H hat.glob rfl E af;have ab:X n=xf:=by rw[<-xn,ae,H]
      rw[ab]at h1 h2;exact hK ρ' xf.tm _ a' w' h1 h2 E.dfs hrun
     induction y with
     |zero=>
      intro f a' w' G hc A;have g:eu .any ops f=[]:=by
       unfold eu;rw[List.filter_eq_nil_iff];intro i z;have ax:=lD.1 z;have h0:(ev n).countP (λi=> !f.getD i true)=0:=by omega
       rw[List.countP_eq_zero]at h0;have:=h0 i (lD.2 (by omega));simp only[Bool.not_eq_true]at this⊢;rw[this];rfl
      exact⟨g,U f a' w' G g A⟩
     |succ y ih=>
      intro f a' w' G hc A;refine⟨λg=>U f a' w' G g A,λi z=>?_⟩;obtain⟨ρ',m,T,tm',E⟩:=A;unfold eu at z;rw[ie]at z;obtain⟨am,s⟩:=z;have J:i<n:=by have:=lD.1 am;omega
      have ho:ops.toList[i]?=some (ops.toList[i]'(by rw[<-H];exact J)):=zc _;have V:ops[i]?=some (ops.toList[i]'(by rw[<-H];exact J)):=by simpa using ho
      simp only[zo,Bool.not_eq_true']at s;obtain⟨s,I⟩:=s;rw[V]at I;simp only[zQ,eE]at I;rw[zan]at I;have Z:¬(f.getD i false=true):=by intro O;simp only[zw]at O s;rw[zU (by omega)]at O s;simp only[eE]at O s;rw[O]at s;cases s
      refine U2 R t H hcall rfl hat.glob (zn _) B E J Z (λj L=>?_) (λa2 w2 ρ2 m2 T2 tm2 inv2=>?_)
      .obtain⟨e,e1,e2,e3,e4⟩:=R.edge i _ ho j L;have:=I e (by simp at e1;exact e1);rw[e2]at this;simp only[zcg,zdK]at this;rcases e4 with e4|e4
       .rw[<-e4];exact this
       .exact E.closed e.on this j e4
      .have F:∀j b,(f.setIfInBounds i true).getD j b=if j=i then true else f.getD j b:=by
        intro j b;simp only[zw,Array.getElem?_setIfInBounds];by_cases C:i=j
        .subst C;rw[if_pos rfl,if_pos (by omega),if_pos rfl];rfl
        .rw[if_neg C,if_neg (λe=>C e.symm)]
       refine ih _ a2 w2 (by simpa using G) ?_ ⟨ρ2,m2,T2,tm2,?_⟩
       .have:=MX (p:=λi=> !f.getD i true) (p':=λj=> !(f.setIfInBounds i true).getD j true) (ev n) (λx _ hx=>?_) ⟨i,lD.2 J,by rw[s];rfl,by rw[F,if_pos rfl];rfl⟩
        .omega
        .rw[F]at hx;split at hx
         .cases hx
         .exact hx
       .have:(λj=>(f.setIfInBounds i true).getD j false=true)=(λj=>f.getD j false=true\/j=i):=by
         funext j;rw[F];by_cases C:j=i
         .simp[C]
         .simp[C]
        rw[this];exact inv2
    refine aj ops.size (eD ops.size false) a w (by simp[N]) (by rw[<-N];exact Nat.le_trans List.countP_le_length (by simp)) ⟨ρ,0,⟨h,l+n,nk⟩,tm,?_⟩;have q:∀i,¬((eD ops.size false).getD i false=true):=by intro i;simp only[zw,Array.getElem?_replicate];split<;>simp
    refine⟨λi z=>(q i z).elim,λi z=>(q i z).elim,zbN _,λc _ _=>⟨λhc=>(q c hc).elim,λhc=>by omega⟩,⟨by rw[x0],by rw[x0],λb o=>?_,λj o _ L=>(q j L).elim⟩,?_,hat.fr,λx hx=>?_,λj L _=>hat.rel.fresh _ (by simp),.refl _⟩
    .rw[x0];constructor
     .exactλh=>.inl h
     .rintro(h|⟨j,_,L,_⟩)
      .exact h
      .exact(q j L).elim
    .exact⟨.refl ρ,W,zn _,zn _,λ_ _ _=>rfl,zn _,λb _ D hb e _=>⟨b,D,hb,e⟩,rfl,rfl,rfl,λ_ _=>rfl,λb _ D hb e _=>⟨b,D,hb,e⟩⟩
    .rw[Iz (i:=0) n (zbN _) (λj _ _ _ L=>q j L),x0];rfl
   .exact absurd hrun.symm hr
end
end Go.Ev
