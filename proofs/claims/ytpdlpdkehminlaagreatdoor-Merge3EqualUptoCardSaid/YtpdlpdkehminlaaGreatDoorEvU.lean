/-
  Part of the proof: Two strands: pure operations, each ended by a store, in different blocks.
-/
import Derived.Test.YtpdlpdkehminlaaGreatDoorEvT
set_option linter.all false
set_option maxRecDepth 100000
set_option maxHeartbeats 20000000
open Array renaming getElem?_replicate->iE,getElem?_toList->oR,replicate->eD
open Bool renaming and_eq_true->zo,or_eq_true->iX
open Go renaming Oper->eS,Program->zZ,World->ze
open Go.Exit renaming «then»->ef
open Go.Op renaming operands->zJ
open Go.Operand renaming tmp->iL
open Go.Region renaming binds->zR
open List renaming all_eq_true->iu,getElem?_cons_zero->zW,getElem?_drop->zal,getElem?_take_of_lt->lh,mem_of_getElem?->zq
open Nat renaming add_assoc->iH,beq->zD,le_of_ble_eq_true->zck,lt_or_ge->ly
open Option.some renaming inj->eF,injEq->zb
namespace Go.Ev
noncomputable def Fk(d:Nat->Dst)(v:Nat->CV):Nat->Tm->Tm
 |0,tm=>tm
 |i+1,tm=>De (d i) (v i) (Fk d v i tm)
section
variable{nt:Nat}
theorem EX{dst:Option Tmp}{d:Dst}(hd:Dg nt dst=some d)(v:CV)(tm:Tm){x:Nat}(hx:x<256):Ei x (De d v tm)=if dst=some x then some v else Ei x tm:=by
 rcases EV hd with⟨rfl,b⟩|⟨e,rfl,f,c,b⟩
 .rw[b,if_neg (by simp)]
 .rw[b];by_cases a:e=x
  .subst a;rw[CH _ _ _ c,if_pos rfl]
  .rw[Cz _ _ _ _ c hx a,if_neg (λh=>a (eF h))]
variable{nA:Nat->Option Tmp} {dA:Nat->Dst} {vA:Nat->CV}
theorem Mp{k:Nat}(hd:∀i,i<k->Dg nt (nA i)=some (dA i)){x:Nat}(hx:x<256)(tm:Tm):∀i,i<=k->(∀i',i'<i->nA i'≠some x)->Ei x (Fk dA vA i tm)=Ei x tm
 |0,_,_=>rfl
 |i+1,hi,hn=>by simp only[Fk];rw[EX (hd i (by omega)) _ _ hx,if_neg (hn i (by omega))];exact Mp hd hx tm i (by omega) (λi' h=>hn i' (by omega))
theorem G1{k:Nat}(hd:∀i,i<k->Dg nt (nA i)=some (dA i)){x:Nat}(hx:x<256){tm tm':Tm}(h:Ei x tm=Ei x tm'):∀i,i<=k->Ei x (Fk dA vA i tm)=Ei x (Fk dA vA i tm')
 |0,_=>h
 |i+1,hi=>by simp only[Fk];rw[EX (hd i (by omega)) _ _ hx,EX (hd i (by omega)) _ _ hx,G1 hd hx h i (by omega)]
theorem Uy{k:Nat}(hd:∀i,i<k->Dg nt (nA i)=some (dA i)){dst:Option Tmp}{d:Dst}(hd':Dg nt dst=some d){v:CV}{i:Nat}(hi:i<=k)(hn:∀i',i'<i->∀x:Nat,dst=some x->nA i'≠some x)(tm:Tm){x:Nat}(hx:x<256):Ei x (Fk dA vA i (De d v tm))=Ei x (De d v (Fk dA vA i tm)):=by
 rw[EX hd' _ _ hx];by_cases h:dst=some x
 .rw[if_pos h,Mp hd hx _ i hi (λi' h'=>hn i' h' x h),EX hd' _ _ hx,if_pos h]
 .rw[if_neg h];exact G1 hd hx (by rw[EX hd' _ _ hx,if_neg h]) i hi
end
theorem UC{P:zZ}{op:Op}{tm tm':Tm}(h:∀y:Nat,.tmp y∈op.operands.toList->y<256->Ei y tm=Ei y tm'):Agree P op tm tm':=by
 intro x a;cases x with
 |tmp y=>
  show(RQ y).eval tm=(RQ y).eval tm';rw[CD,CD];split
  .rename_i hlt;exact h y a hlt
  .rfl
 |const c=>show(opd P (.const c)).eval tm=(opd P (.const c)).eval tm';simp only[opd];cases ofV EF c<;>rfl
 |global g=>show(opd P (.global g)).eval tm=(opd P (.global g)).eval tm';simp only[opd];cases Nat.blt g P.globals.size<;>rfl
 |func f=>rfl
structure PW(P:zZ)(nt:Nat)(op:Nat->eS)(k:Nat)(d:Nat->Dst)(v:Nat->CV)(tm0:Tm)(b off:Nat)(u:CV):Prop where
 guard:∀i,i<=k->(op i).guard=none
 dst:∀i,i<=k->Dg nt (op i).dst=some (d i)
 pure:∀i,i<k->∃f,opC P (op i).op=.pure f/\f (Fk d v i tm0)=some (v i)
 store:∃t x y ti,(op k).op=.store t x y/\Ac P t=some ti/\v k=AV/\(opd P x).eval (Fk d v k tm0)=some (.ptr b off)/\(opd P y).eval (Fk d v k tm0)=some u/\(zD u.cells.length ti.size&&Aa u.cells)=true
section
variable{P:zZ} {nt:Nat}
theorem I6{op:Nat->eS}{k:Nat}{d:Nat->Dst}{v:Nat->CV}{tm0:Tm}{b off:Nat}{u:CV}(h:PW P nt op k d v tm0 b off u){ops:Array eS}{q i:Nat}(hi:i<=k)(hq:ops[q]?=some (op i)){tm tm':Tm}(ht:∀y:Nat,.tmp y∈(op i).op.operands.toList->y<256->Ei y (Fk d v i tm0)=Ei y tm)(htm:∀x,x<256->Ei x tm'=Ei x (De (d i) (v i) tm)){S S':St}(hS:i<k->S'=S)(hS':i=k->∃S2,Cc S b off u.cells=some S2/\GA S2 S'){ρ:Ren}{a:Act}{w:ze}(hf:A6 ρ nt tm a)(hgl:FE P ρ)(hr:Rel ρ S w){Q:Exit->Act->ze->Prop}{K:Act->ze->Prop}(hK:∀ρ' a' w',Stp ρ S w ρ' S' w'->A6 ρ' nt tm' a'->a'.defers=a.defers->K a' w'):wpOp P ops Q q K a w:=by
 have g:Agree P (op i).op (Fk d v i tm0) tm:=UC ht;rcases ly i k with hlt|hge
 .obtain⟨f,G,s⟩:=h.pure i hlt;have j:=SE P (op i);have c:=Ql (op i).op g;rw[G]at j c;have o:f tm=some (v i):=by have r:f (Fk d v i tm0)=f tm:=c;rw[<-r];exact s
  have:=hS hlt;subst this;exact O6 hq (h.guard i hi) j o (h.dst i hi) htm hf hgl hr hK
 .have m:i=k:=by omega
  subst m;obtain⟨t,x,y,H,p,E,A,C,F,D⟩:=h.store;obtain⟨S2,n,l⟩:=hS' rfl;rw[p]at g;have z:=g x (by simp[zJ]);have B:=g y (by simp[zJ]);rw[A]at htm;refine Nf hq (h.guard i hi) p E (S':=S2) ?_ l (h.dst i hi) htm hf hgl hr hK;simp only[KY,<-z,<-B,C,F,Qp,D,cond_true,n,Oq]
end
theorem GA.refl(S:St):GA S S:=⟨λ_=>rfl,rfl,rfl⟩
section
variable{P:zZ} {nt:Nat}
theorem Wa{ops:Array eS}{p kA kB:Nat}(hs:Oc ops p (kA+1) (kB+1)){opA opB:Nat->eS}{dA dB:Nat->Dst}{vA vB:Nat->CV}{tm1:Tm}{b1 o1 b2 o2:Nat}{u1 u2:CV}(hA:PW P nt opA kA dA vA tm1 b1 o1 u1)(hB:PW P nt opB kB dB vB tm1 b2 o2 u2)(oA:∀i,i<=kA->ops[p+i]?=some (opA i))(oB:∀j,j<=kB->ops[p+(kA+1)+j]?=some (opB j))(sepA:∀i,i<=kA->∀x:Nat,(opA i).dst=some x->∀j,j<=kB->(opB j).dst≠some x/\iL x∉(opB j).op.operands.toList)(sepB:∀j,j<=kB->∀x:Nat,(opB j).dst=some x->∀i,i<=kA->iL x∉(opA i).op.operands.toList)(hne:b1≠b2){S1 SA SAB:St}(s1:Cc S1 b1 o1 u1.cells=some SA)(s2:Cc SA b2 o2 u2.cells=some SAB){ρ1:Ren}{a:Act}{w:ze}(hat:At P nt ρ1 tm1 S1 a w){K:Act->ze->Prop}{Q:Exit->Act->ze->Prop}(hK:∀ρ' a' w',Stp ρ1 S1 w ρ' SAB w'->At P nt ρ' (Fk dB vB (kB+1) (Fk dA vA (kA+1) tm1)) SAB a' w'->a'.defers=a.defers->K a' w'):∀(f:Nat)(l:Array Bool),l.size=ops.size->(∀q,q<ops.size->l[q]?=some (decide (q<p)))->(kA+1)+(kB+1)<=f->wpAny P .any ops (ef K Q) f l a w:=by
 intro f l z D H;obtain⟨C,B,G,E,F⟩:=Po s1 hne s2;let SS:Nat->Nat->St:=λi j=>if i=kA+1 then(if j=kB+1 then SAB else SA)else(if j=kB+1 then C else S1);have g:∀i j,¬(i=kA+1)->SS i j=if j=kB+1 then C else S1:=λi j h=>if_neg h;have m:∀i j,i=kA+1->SS i j=if j=kB+1 then SAB else SA:=λi j h=>if_pos h;have v:∀i,i<kA+1->Dg nt ((λi=>(opA i).dst) i)=some (dA i):=λi A=>hA.dst i (by omega);have k:∀j,j<kB+1->Dg nt ((λj=>(opB j).dst) j)=some (dB j):=λj t=>hB.dst j (by omega);refine CQ hs (I:=λi j a' w'=>∃ρ',Stp ρ1 S1 w ρ' (SS i j) w'/\A6 ρ' nt (Fk dB vB j (Fk dA vA i tm1)) a'/\a'.defers=a.defers) ?_ ?_ ?_ f 0 0 l a w (by omega) (by omega) z (λq hq=>?_) (by omega) ⟨ρ1,?_,hat.fr,rfl⟩
 .rintro i j A t a' w' ⟨ρ',d,s,o⟩ K' hK';refine I6 hA (by omega) (oA i (by omega)) (tm:=Fk dB vB j (Fk dA vA i tm1)) (tm':=Fk dB vB j (Fk dA vA (i+1) tm1)) (S:=SS i j) (S':=SS (i+1) j) (λy hy hlt=>?_) (λx hx=>?_) (λhlt=>?_) (λhe=>?_) s (hat.glob.mono d.ext) d.rel (λρ2 a2 w2 g1 g2 g3=>hK' a2 w2 ⟨ρ2,d.trans g1,g2,g3.trans o⟩)
  .exact(Mp k hlt _ j t (λj' c e=>sepB j' (by omega) y e i (by omega) hy)).symm
  .exact Uy k (hA.dst i (by omega)) t (λj' c x e=>(sepA i (by omega) x e j' (by omega)).1) _ hx
  .rw[g (i+1) j (by omega),g i j (by omega)]
  .rw[g i j (by omega),m (i+1) j (by omega)];by_cases c:j=kB+1
   .rw[if_pos c,if_pos c];exact⟨B,E,F⟩
   .rw[if_neg c,if_neg c];exact⟨SA,s1,.refl _⟩
 .rintro i j A t a' w' ⟨ρ',d,s,o⟩ K' hK';refine I6 hB (by omega) (oB j (by omega)) (tm:=Fk dB vB j (Fk dA vA i tm1)) (tm':=Fk dB vB (j+1) (Fk dA vA i tm1)) (S:=SS i j) (S':=SS i (j+1)) (λy hy hlt=>?_) (λx hx=>rfl) (λhlt=>?_) (λhe=>?_) s (hat.glob.mono d.ext) d.rel (λρ2 a2 w2 g1 g2 g3=>hK' a2 w2 ⟨ρ2,d.trans g1,g2,g3.trans o⟩)
  .exact G1 k hlt (Mp v hlt _ i A (λi' b e=>(sepA i' (by omega) y e j (by omega)).2 hy)).symm j (by omega)
  .have r:¬(j+1=kB+1):=by omega
   have n:¬(j=kB+1):=by omega
   by_cases b:i=kA+1
   .rw[m i (j+1) b,m i j b,if_neg r,if_neg n]
   .rw[g i (j+1) b,g i j b,if_neg r,if_neg n]
  .have r:j+1=kB+1:=by omega
   have n:¬(j=kB+1):=by omega
   by_cases b:i=kA+1
   .rw[m i (j+1) b,m i j b,if_pos r,if_neg n];exact⟨SAB,s2,.refl _⟩
   .rw[g i (j+1) b,g i j b,if_pos r,if_neg n];exact⟨C,G,.refl _⟩
 .rintro a' w' ⟨ρ',d,s,o⟩;have e:SS (kA+1) (kB+1)=SAB:=by rw[m _ _ rfl,if_pos rfl]
  rw[e]at d;exact hK ρ' a' w' d ⟨d.rel,s,hat.glob.mono d.ext⟩ o
 .rw[D q hq];unfold LZ;congr 1;rw[Bool.eq_iff_iff];simp only[iX,zo,decide_eq_true_eq];omega
 .have e:SS 0 0=S1:=by rw[g 0 0 (by omega),if_neg (by omega)]
  rw[e];exact Stp.refl hat.rel
end
theorem GP{f:Nat->Bool}:∀(n:Nat),IA n f=true->∀q,q<n->f q=true
 |0,_,_,hq=>by omega
 |n+1,h,q,hq=>by
  simp only[IA,zo]at h;by_cases e:q=n
  .rw[e];exact h.1
  .exact GP n h.2 q (by omega)
theorem Gs{o:eS}{q:Nat}(h:IC o q=true):∃e,e∈o.after/\e.on=q/\zR .any e=true:=by unfold IC at h;rw[List.any_eq_true]at h;obtain⟨e,b,a⟩:=h;simp only[zo]at a;exact⟨e,by simpa using b,Nat.eq_of_beq_eq_true a.1,a.2⟩
theorem Pq{p b i:Nat}{o:eS}(h:TR p b i o=true):∀e,e∈o.after->zR .any e=true->e.on<p\/(b<=e.on/\e.on<b+i):=by
 unfold TR at h;rw[iu]at h;intro e c f;have:=h e (by simpa using c);rw[f]at this;simp only[Bool.not_true,Bool.false_or,iX,zo]at this;rcases this with a|⟨a,d⟩
 .exact .inl (yF a)
 .exact .inr ⟨zck a,yF d⟩
structure UH(p b i:Nat)(o:eS):Prop where
 guard:o.guard=none
 own:∀q,q+1=i->∃e,e∈o.after/\e.on=b+q/\zR .any e=true
 low:∀e,e∈o.after->zR .any e=true->e.on<p\/(b<=e.on/\e.on<b+i)
 wait:∀q,q<p->∃e,e∈o.after/\e.on=q/\zR .any e=true
theorem DY{p b:Nat}:∀(l:List eS)(i:Nat),Eb p b i l=true->∀j o,l[j]?=some o->UH p b (i+j) o
 |[],_,_,j,o,ho=>by simp at ho
 |o::l,i,h,j,o',ho=>by
  simp only[Eb,zo]at h;obtain⟨⟨⟨⟨h1,h2⟩,h3⟩,h4⟩,h5⟩:=h;cases j with
  |zero=>simp only[zW,zb]at ho;subst ho;exact⟨by simpa using h1,λq hq=>by subst hq;exact Gs h2,Pq h3,λq hq=>Gs (GP p h4 q hq)⟩
  |succ j=>have:=DY l (i+1) h5 j o' (by simpa using ho);rwa [show i+1+j=i+(j+1) by omega]at this
theorem I8{l m:List eS}(h:KK l m=true):∀o,o∈l->∀x:Nat,o.dst=some x->∀o',o'∈m->o'.dst≠some x/\iL x∉o'.op.operands.toList:=by
 unfold KK at h;rw[iu]at h;intro o g x f o' b;have a:=h o g;rw[f]at a;simp only[iu]at a;have c:=a o' b;simp only[zo,Bool.not_eq_true']at c;constructor
 .intro e;have:=c.2;unfold Te at this;rw[e]at this;simp at this
 .intro d;have:=c.1;unfold Vz at this;rw[List.any_eq_false]at this;have:=this _ d;simp at this
theorem Nw{op:Op}{t:TypeId}{x y:Operand}(h:Ll op=some (t,x,y)):op=.store t x y:=by
 unfold Ll at h;split at h
 .cases h;rfl
 .cases h
theorem EU{d:Nat->Dst}{v:Nat->CV}:∀(i:Nat)(tm:Tm),Fk d v (i+1) tm=Fk (λi=>d (i+1)) (λi=>v (i+1)) i (De (d 0) (v 0) tm)
 |0,_=>rfl
 |i+1,tm=>by show De (d (i+1)) (v (i+1)) (Fk d v (i+1) tm)=De (d (i+1)) (v (i+1)) (Fk (λi=>d (i+1)) (λi=>v (i+1)) i (De (d 0) (v 0) tm));rw[EU i tm]
section
variable{P:zZ} {nt:Nat}
structure XJ(P:zZ)(nt:Nat)(l:List eS)(s:Uq)(tm tm':Tm)(vs:List CV)(k:Nat)(d:Nat->Dst)(v:Nat->CV):Prop where
 len:l.length=k+1
 dst:∀i o,l[i]?=some o->Dg nt o.dst=some (d i)
 pure:∀i o,i<k->l[i]?=some o->∃f,opC P o.op=.pure f/\f (Fk d v i tm)=some (v i)
 store:∀o,l[k]?=some o->∃t x y ti,o.op=.store t x y/\Ac P t=some ti/\s.size=ti.size/\s.x=opd P x/\s.y=opd P y
 vk:v k=AV
 fin:Fk d v k tm=tm'
 all:∀tm2,Fk d v (k+1) tm2=De s.dst AV (Kj s.pures vs tm2)
theorem Oe:∀(l:List eS)(s:Uq)(tm tm':Tm)(vs:List CV),Wy P nt l=some s->KD s.pures tm=some (vs,tm')->∃k d v,XJ P nt l s tm tm' vs k d v
 |[],_,_,_,_,h,_=>by cases h
 |[o],s,tm,tm',vs,h,hv=>by
  simp only[Wy]at h;split at h
  .rename_i t x y hst;split at h
   .rename_i ti d0 ht hd;cases h;simp only[KD,zb,Prod.mk.injEq]at hv;obtain⟨rfl,rfl⟩:=hv;refine⟨0,λ_=>d0,λ_=>AV,rfl,λi o' ho=>?_,λi _ hi=>by omega,λo' ho=>?_,rfl,rfl,λtm2=>rfl⟩
    .cases i with
     |zero=>simp only[zW,zb]at ho;subst ho;exact hd
     |succ i=>simp at ho
    .simp only[zW,zb]at ho;subst ho;exact⟨t,x,y,ti,Nw hst,ht,rfl,rfl,rfl⟩
   .cases h
  .cases h
 |o::o'::l,s,tm,tm',vs,h,hv=>by
  simp only[Wy]at h;split at h
  .rename_i f hf;split at h
   .rename_i d0 s' hd hs;cases h;simp only[KD]at hv;split at hv
    .rename_i v0 hv0;split at hv
     .rename_i vs' tm2 hvs;cases hv;obtain⟨k,d,v,H⟩:=Oe (o'::l) s' (De d0 v0 tm) tm' vs' hs hvs;refine⟨k+1,λi=>match i with|0=>d0|i+1=>d i,λi=>match i with|0=>v0|i+1=>v i,by simpa using H.len,λi o2 ho=>?_,λi o2 hi ho=>?_,λo2 ho=>?_,H.vk,?_,λtm2=>?_⟩
      .cases i with
       |zero=>simp only[zW,zb]at ho;subst ho;exact hd
       |succ i=>exact H.dst i o2 (by simpa using ho)
      .cases i with
       |zero=>simp only[zW,zb]at ho;subst ho;exact⟨f,hf,hv0⟩
       |succ i=>obtain⟨c,a,b⟩:=H.pure i o2 (by omega) (by simpa using ho);refine⟨c,a,?_⟩;rw[EU];exact b
      .exact H.store o2 (by simpa using ho)
      .rw[EU];exact H.fin
      .rw[EU];exact H.all _
     .cases hv
    .cases hv
   .cases h
  .cases h
theorem Mt{l:List eS}{s:Uq}{tm tm':Tm}{vs:List CV}{k:Nat}{d:Nat->Dst}{v:Nat->CV}(H:XJ P nt l s tm tm' vs k d v)(hg:∀(i:Nat)(o:eS),l[i]?=some o->o.guard=none){b off:Nat}{u:CV}(hx:s.x.eval tm'=some (.ptr b off))(hy:s.y.eval tm'=some u)(hc:(zD u.cells.length s.size&&Aa u.cells)=true):∃op:Nat->eS,(∀i,i<=k->l[i]?=some (op i))/\PW P nt op k d v tm b off u:=by
 have p:=H.len;have q:l[0]?=some (l[0]'(by omega)):=List.getElem?_eq_getElem _;have a:∀i,i<=k->l[i]?=some ((λi=>(l[i]?).getD (l[0]'(by omega))) i):=by
  intro i c;have:i<l.length:=by omega
  simp[this]
 refine⟨λi=>(l[i]?).getD (l[0]'(by omega)),a,λi c=>hg i _ (a i c),λi c=>H.dst i _ (a i c),λi c=>H.pure i _ c (a i (by omega)),?_⟩;obtain⟨t,x,y,n,f,j,h,g,m⟩:=H.store _ (a k (Nat.le_refl _));refine⟨t,x,y,n,f,j,H.vk,?_,?_,?_⟩
 .rw[H.fin,<-g];exact hx
 .rw[H.fin,<-m];exact hy
 .rw[<-h];exact hc
theorem KB{s:Uq}{tm:Tm}{S S':St}{vs:List CV}{b:Nat}(h:KC s tm S=some (vs,b,S')):∃tm' off u,KD s.pures tm=some (vs,tm')/\s.x.eval tm'=some (.ptr b off)/\s.y.eval tm'=some u/\(zD u.cells.length s.size&&Aa u.cells)=true/\Cc S b off u.cells=some S':=by
 unfold KC at h;split at h
 .rename_i vs' tm' hv;split at h
  .rename_i b' off u hx hy;cases hc:(zD u.cells.length s.size&&Aa u.cells)with
   |false=>rw[hc]at h;cases h
   |true=>
    rw[hc,cond_true]at h;split at h
    .rename_i S2 hs;cases h;exact⟨tm',off,u,hv,hx,hy,hc,hs⟩
    .cases h
  .cases h
 .cases h
theorem QV{sa sb:Uq}{k:Tm->St->Res}{tm:Tm}{S:St}{r:Res}(h:PP sa sb k tm S=r)(hr:r≠ .fail):∃va ba SA vb bb SB,KC sa tm S=some (va,ba,SA)/\KC sb tm SA=some (vb,bb,SB)/\ba≠bb/\k (De sb.dst AV (Kj sb.pures vb (De sa.dst AV (Kj sa.pures va tm)))) SB=r:=by
 unfold PP at h;split at h
 .rename_i va ba SA hA;split at h
  .rename_i vb bb SB hB;cases he:zD ba bb with
   |true=>rw[he]at h;exact absurd h.symm hr
   |false=>rw[he,cond_false]at h;refine⟨va,ba,SA,vb,bb,SB,hA,hB,λe=>?_,h⟩;subst e;rw[Nat.beq_refl]at he;cases he
  .exact absurd h.symm hr
 .exact absurd h.symm hr
theorem WX{call:Call}(hcall:GI P call){ops:Array eS}{p kk:Nat}{K:Act->ze->Prop}{Q:Exit->Act->ze->Prop}{r:Res}{k:Tm->St->Res}{ρ:Ren}{tm:Tm}{S:St}{a:Act}{w:ze}
    (hat:At P nt ρ tm S a w)(hrun:OW (VX P nt ops.toList p kk) call tm S k=r)(hr:r≠ .fail)
    (hK:∀ρ' tm' S' a' w',Stp ρ S w ρ' S' w'->At P nt ρ' tm' S' a' w'->As P a.defers a'.defers->k tm' S'=r->K a' w'):
    wpAny P .any ops (ef K Q) ops.size (eD ops.size false) a w:=by
  unfold VX at hrun
  cases hc:(Nat.ble p ops.toList.length&&(ops.toList.take p).all (IV p)&&Eb p p 0 ((ops.toList.drop p).take kk)&&Eb p (p+kk) 0 ((ops.toList.drop p).drop kk)&&KK ((ops.toList.drop p).take kk) ((ops.toList.drop p).drop kk)&&KK ((ops.toList.drop p).drop kk) ((ops.toList.drop p).take kk))with
  |false=>rw[hc]at hrun;exact absurd hrun.symm hr
  |true=>
    rw[hc,cond_true]at hrun
    simp only[zo]at hc
    obtain⟨⟨⟨⟨⟨c1,L⟩,c3⟩,c4⟩,c5⟩,c6⟩:=hc
    have I:p<=ops.size:=by have:=zck c1;simpa using this
    split at hrun
    . rename_i ds sa sb h1 h2 h3
      have v:∀i,i<kk->((ops.toList.drop p).take kk)[i]?=ops[p+i]?:=by
        intro i c
        rw[lh c,zal,oR]
      have A:∀i,((ops.toList.drop p).drop kk)[i]?=ops[p+kk+i]?:=by
        intro i
        rw[zal,zal,oR,iH]
      have H:(ops.extract 0 p).toList=ops.toList.take p:=by simp
      have y:=DY _ 0 c3
      have z:=DY _ 0 c4
      have lA:((ops.toList.drop p).take kk).length=min kk (ops.size-p):=by simp
      have R:((ops.toList.drop p).drop kk).length=ops.size-p-kk:=by simp[Nat.sub_sub]
      have O:kk<=ops.size-p:=by
        rcases ly (ops.size-p) kk with h|h
        . exfalso
          have:((ops.toList.drop p).drop kk)=[]:=by
            rw[<-List.length_eq_zero_iff,R]
            omega
          rw[this]at h3
          cases h3
        . exact h
      have split:Rw ops p:=by
        refine⟨I,λi o c ho q hq=>?_,λi o c ho e he hb=>?_,λi o j b c ho hg=>?_⟩
        . obtain⟨m,rfl⟩:∃m,i=p+m:=⟨i-p,by omega⟩
          rcases ly m kk with h|h
          . exact(y m o ((v m h).trans ho)).wait q hq
          . obtain⟨j,rfl⟩:∃j,m=kk+j:=⟨m-kk,by omega⟩
            exact(z j o ((A j).trans (by rw[iH];exact ho))).wait q hq
        . unfold E4 at h1
          cases hok:(Lv (ops.toList.take p) (Ce [] (ops.toList.take p))&&Hi (Ce [] (ops.toList.take p)) (Bz P 0 (ops.toList.take p))&&Hg 0 (ops.toList.take p)&&noSelect (ops.toList.take p))with
          |false=>rw[hok]at h1;cases h1
          |true=>
            simp only[zo]at hok
            have:=Dm _ 0 hok.1.2 i o (by rw[lh c,oR];exact ho) e (by simpa using he) hb
            omega
        . rw[iu]at L
          have Z:o∈ops.toList.take p:=zq (i:=i) (by rw[lh c,oR];exact ho)
          have:=L o Z
          unfold IV at this
          rw[hg]at this
          exact yF this
      have ar:(ops.extract 0 p).size=p:=by simp;omega
      refine Ea split (ops.extract 0 p).size ops.size _ (eD (ops.extract 0 p).size false) a w ⟨by simp,by simp;omega,λi c=>?_,λi h1 h2=>by simp[h2]⟩ (by omega) ?_
      . rw[iE,iE,if_pos (by omega),if_pos (by omega)]
      refine Xh P hcall (by rw[H];exact h1) hat (r:=r) (k:=PP sa sb k) ?_ hr (λρ1 tm1 S1 a1 w1 hs1 hat1 hd1 hrun1=>?_)
      . rw[H,List.length_take,Array.length_toList,Nat.min_eq_left I]
        exact hrun
      . intro f' l V l2 l3 ax
        obtain⟨va,ba,SA,vb,bb,SB,W,r2,D,hk⟩:=QV hrun1 hr
        obtain⟨Y,oa,ua,x1,x2,x3,x4,T⟩:=KB W
        obtain⟨ab,ob,ub,y1,X,y3,y4,y5⟩:=KB r2
        obtain⟨n,dA,vA,B⟩:=Oe _ _ _ _ _ h2 x1
        obtain⟨F,dB,vB,G⟩:=Oe _ _ _ _ _ h3 y1
        obtain⟨C,J,U⟩:=Mt B (λi o ho=>(y i o ho).guard) x2 x3 x4
        obtain⟨E,M,RB⟩:=Mt G (λi o ho=>(z i o ho).guard) X y3 y4
        have N:kk=n+1:=by have:=B.len;omega
        have eB:ops.size-p-kk=F+1:=by have:=G.len;omega
        subst N
        have s:∀i,i<=n->C i∈((ops.toList.drop p).take (n+1)):=λi c=>zq (J i c)
        have t:∀i,i<=F->E i∈((ops.toList.drop p).drop (n+1)):=λi c=>zq (M i c)
        have f:Oc ops p (n+1) (F+1):=by
          refine⟨by omega,λi o c ho=>?_,λj o hj ho=>?_,λi o c ho e he hb=>?_,λj o hj ho e he hb=>?_⟩
          . exact(y (i+1) o ((v (i+1) c).trans ho)).own i (by omega)
          . exact(z (j+1) o ((A (j+1)).trans ho)).own j (by omega)
          . rcases(y i o ((v i c).trans ho)).low e he hb with h|h<;>omega
          . have:=(z j o ((A j).trans ho)).low e he hb
            rw[Nat.zero_add]at this
            exact this
        refine Wa f U RB (λi c=>(v i (by omega)).symm.trans (J i c)) (λj hj=>(A j).symm.trans (M j hj))
          (λi c x hx j hj=>I8 c5 _ (s i c) x hx _ (t j hj)) (λj hj x hx i c=>(I8 c6 _ (t j hj) x hx _ (s i c)).2) D T y5 hat1 (λρ2 a2 w2 hs2 hat2 hd2=>?_) f' l l3 (λq hq=>?_) (by omega)
        . rw[B.all,G.all]at hat2
          exact hK ρ2 _ SB a2 w2 (hs1.trans hs2) hat2 (by rw[hd2];exact hd1) hk
        . by_cases g:q<p
          . rw[V q g,decide_eq_true g]
          . rw[l2 q (by omega) hq,decide_eq_false g]
    . exact absurd hrun.symm hr
theorem S8(P:zZ):Qs P:=by
 intro c b f d K Q r k ρ tm S a w hat hrun hr hK;unfold T6 at hrun;split at hrun
 .rename_i ds hd;exact Xh P b hd hat hrun hr hK
 .unfold SU at hrun;split at hrun
  .rename_i p hp;split at hrun
   .exact WX b hat hrun hr hK
   .exact absurd hrun.symm hr
  .exact absurd hrun.symm hr
end
end Go.Ev
