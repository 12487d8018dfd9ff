/-
  Part of the proof: Steps of the evaluator's state and of the world: a write; a new block; a row that grows.
-/
import Derived.Test.YtpdlpdkehminlaaGreatDoorEvJ
set_option linter.all false
set_option maxRecDepth 100000
set_option maxHeartbeats 20000000
open Array renaming ext'->iq,getElem?_eq_getElem->zU,getElem?_eq_some_iff->eh,getElem?_modify->zaB,getElem?_push_lt->zaw,getElem?_setIfInBounds_ne->za1,getElem?_setIfInBounds_self_of_lt->zay,toList_modify->lX
open Bool renaming and_eq_true->zo,false_eq_true->zH
open Go renaming Deferred->zam,Operand->eo,Program->zZ,TypeId->zL,Value->zg,World->ze
open Go.Deferred renaming ofValue->zco
open Go.Instr renaming entryStore->oD,keyThatStays->zcz,mapEntry->oy,mapUpdate->o7,sameBits->lB
open Go.Result renaming andThen_ok->zr
open Go.Sem renaming run->o8,run_bind->zK,run_pure->zP
open Go.World renaming setCell->zdC,setCells->zbw
open List renaming append_assoc->lW,ext_getElem?->za3,findIdx?_cons->zcM,getElem?_cons_zero->zW,getElem?_eq_some_iff->zm,getElem?_map->ig,getElem?_modify->zaE,getElem?_set->za6,map_cons->iZ,set_cons_succ->zj,set_cons_zero->zi,toList_toArray->zaa
open Nat renaming beq->zD,blt->zB,le_refl->zn
open Option renaming bind_eq_some_iff->zu,map_eq_some_iff->zh,map_some->zQ
open Option.some renaming injEq->zb
open Prod.mk renaming injEq->eH
namespace Go.Ev
theorem Rel.has{ρ:Ren}{S:St}{w:ze}(h:Rel ρ S w):Has ρ S w:=h.obj
theorem Rel.heap{ρ:Ren}{S:St}{w w':ze}(h:Rel ρ S w)(e:w'.heap=w.heap):Rel ρ S w':=⟨λb o hb=>by rw[e];exact h.obj b o hb,h.inj,h.fresh,h.freshk⟩
theorem Has.heap{ρ:Ren}{S:St}{w w':ze}(h:Has ρ S w)(e:w'.heap=w.heap):Has ρ S w':=λb o hb=>by rw[e];exact h b o hb
section
variable{ρ:Ren} {S:St} {w:ze}
theorem Stp.write(h:Rel ρ S w){b B D:Nat}{o:Bp}{O':Obj}{w':ze}(hS:S.hasW b)(hb:ρ.b b=some (B,D))(hlt:b<lim)(hB:w'.heap[B]?=some O')(ho:Bt ρ D o O')(hx:∀k,k≠B->w'.heap[k]?=w.heap[k]?)(hs:w'.heap.size=w.heap.size)(h1:w'.os=w.os)(h2:w'.tape=w.tape)(h3:w'.output=w.output):Stp ρ S w ρ ⟨S.heap.set big b (some o),S.next,S.nk⟩ w':=by
 have m:b+1<2^big:=by unfold lim at hlt;simp[big];omega
 have g:∀c,St.has ⟨S.heap.set big b (some o),S.next,S.nk⟩ c->S.has c:=by
  rintro c ⟨i,f⟩;by_cases e:b=c
  .subst e;exact hS.has
  .rw[Tr.get_set_ne _ _ _ _ _ e]at f;exact⟨i,f⟩
 have a:∀c,St.hasW ⟨S.heap.set big b (some o),S.next,S.nk⟩ c->S.hasW c:=by
  rintro c ⟨i,f,p⟩;by_cases e:b=c
  .subst e;exact hS
  .rw[Tr.get_set_ne _ _ _ _ _ e]at f;exact⟨i,f,p⟩
 refine⟨.refl ρ,⟨?_,?_,h.fresh,h.freshk⟩,zn _,zn _,?_,by omega,?_,h1,h2,h3,λ_ _=>rfl,λc C E d l _=>⟨c,E,a c d,l⟩⟩
 .intro c i d;by_cases e:b=c
  .subst e;rw[Tr.get_set_eq _ _ _ _ m]at d;cases d;exact⟨B,D,O',hb,hB,ho⟩
  .have j:=d;rw[Tr.get_set_ne _ _ _ _ _ e]at d;obtain⟨C,q,O,h1,h2,h3⟩:=h.obj c i d;refine⟨C,q,O,h1,?_,h3⟩;rw[hx C (λeC=>?_)]
   .exact h2
   .subst eC;exact e (h.inj b c C D q hS.has ⟨i,d⟩ (.inl hS) hb h1)
 .intro c n C E v d j p l s;exact h.inj c n C E v (g c d) (g n j) (p.imp (a c) (a n)) l s
 .intro x r t;exact hx x (λe=>t b D hS (by rw[e];exact hb))
 .intro c C E d l _;exact⟨c,E,g c d,l⟩
theorem Stp.fresh(h:Rel ρ S w){O:Obj}{o:Bp}{w':ze}{ρ':Ren}{heap':Tr Bp}{nk':Nat}(hh:w'.heap=w.heap.push O)(h1:w'.os=w.os)(h2:w'.tape=w.tape)(h3:w'.output=w.output)(hle:ρ.Le ρ')(hb:ρ'.b S.next=some (w.heap.size,0))(hbo:∀i,i≠S.next->ρ'.b i=ρ.b i)(hk:S.nk<=nk')(hkf:∀i,nk'<=i->ρ'.k i=none)(ho:Bt ρ' 0 o O)(hnew:heap'.get S.next=some o)(hold:∀b,b≠S.next->∀o',heap'.get b=some o'->S.heap.get b=some o'):Stp ρ S w ρ' ⟨heap',S.next+1,nk'⟩ w':=by
 have f:∀b o',S.heap.get b=some o'->∀B D,ρ.b b=some (B,D)->B<w.heap.size:=by intro b o' hbo B D e;obtain⟨C,E,O,a,j,_⟩:=h.obj b o' hbo;rw[e]at a;cases a;exact(eh.1 j).1
 refine⟨hle,⟨?_,?_,?_,hkf⟩,by simp,hk,?_,by rw[hh];simp,?_,h1,h2,h3,λb hb=>hbo b (by omega),?_⟩
 .intro b o' m;by_cases e:b=S.next
  .subst e;have:heap'.get S.next=some o':=m;rw[hnew]at this;cases this;exact⟨_,0,O,hb,by rw[hh];simp,ho⟩
  .have y:=hold b e o' m;obtain⟨B,D,A,a,j,F⟩:=h.obj b o' y;refine⟨B,D,A,hle.b _ _ a,?_,F.mono hle⟩;have:=f b o' y B D a;rw[hh,zaw this,zU this]at*;exact j
 .rintro b p B D z ⟨l,d⟩ ⟨s,r⟩ t a j;by_cases c:b=S.next<;>by_cases n:p=S.next
  .rw[c,n]
  .subst c;rw[hb]at a;cases a;rw[hbo _ n]at j;have:=f p s (hold p n s r) _ _ j;omega
  .subst n;rw[hb]at j;cases j;rw[hbo _ c]at a;have:=f b l (hold b c l d) _ _ a;omega
  .rw[hbo _ c]at a;rw[hbo _ n]at j;exact h.inj b p B D z ⟨l,hold b c l d⟩ ⟨s,hold p n s r⟩ (t.imp (λ⟨o,g,g'⟩=>⟨o,hold b c o g,g'⟩) (λ⟨o,g,g'⟩=>⟨o,hold p n o g,g'⟩)) a j
 .intro b q;have q:S.next+1<=b:=q;rw[hbo b (by omega)];exact h.fresh b (by omega)
 .intro x v G;rw[hh,zaw v,zU v]
 .rintro b B D ⟨l,d⟩ a hB;by_cases c:b=S.next
  .subst c;rw[hb]at a;cases a;omega
  .rw[hbo _ c]at a;exact⟨b,D,⟨l,hold b c l d⟩,a⟩
 .rintro b B D ⟨l,d,t⟩ a hB;by_cases c:b=S.next
  .subst c;rw[hb]at a;cases a;omega
  .rw[hbo _ c]at a;exact⟨b,D,⟨l,hold b c l d,t⟩,a⟩
theorem Stp.moved(h:Rel ρ S w){b B D D':Nat}{o:Bp}{O':Obj}{w':ze}{ρ':Ren}{heap':Tr Bp}{nk':Nat}(hS:S.hasW b)(hbB:ρ.b b=some (B,D))(hB:w'.heap[B]?=some O')(hx:∀k,k≠B->w'.heap[k]?=w.heap[k]?)(hs:w'.heap.size=w.heap.size)(h1:w'.os=w.os)(h2:w'.tape=w.tape)(h3:w'.output=w.output)(hle:ρ.Le ρ')(hb:ρ'.b S.next=some (B,D'))(hbo:∀i,i≠S.next->ρ'.b i=ρ.b i)(hk:S.nk<=nk')(hkf:∀i,nk'<=i->ρ'.k i=none)(ho:Bt ρ' D' o O')(hnew:heap'.get S.next=some o)(hold:∀c,c≠S.next->∀o',heap'.get c=some o'->S.heap.get c=some o'/\c≠b):Stp ρ S w ρ' ⟨heap',S.next+1,nk'⟩ w':=by
 refine⟨hle,⟨?_,?_,?_,hkf⟩,by simp,hk,?_,by omega,?_,h1,h2,h3,λb hb=>hbo b (by omega),?_⟩
 .intro c o' s;by_cases e:c=S.next
  .subst e;have:heap'.get S.next=some o':=s;rw[hnew]at this;cases this;exact⟨_,_,O',hb,hB,ho⟩
  .obtain⟨f,l⟩:=hold c e o' s;obtain⟨C,E,O,a,n,A⟩:=h.obj c o' f;refine⟨C,E,O,hle.b _ _ a,?_,A.mono hle⟩;rw[hx C (λeC=>?_)]
   .exact n
   .subst eC;exact l (h.inj c b C E D ⟨o',f⟩ hS.has (.inr hS) a hbB)
 .rintro c q C E y ⟨m,j⟩ ⟨t,r⟩ v a n;by_cases d:c=S.next<;>by_cases p:q=S.next
  .rw[d,p]
  .subst d;rw[hb]at a;cases a;rw[hbo _ p]at n;obtain⟨f,l⟩:=hold q p t r;exact absurd (h.inj q b B y D ⟨t,f⟩ hS.has (.inr hS) n hbB) l
  .subst p;rw[hb]at n;cases n;rw[hbo _ d]at a;obtain⟨f,l⟩:=hold c d m j;exact absurd (h.inj c b B E D ⟨m,f⟩ hS.has (.inr hS) a hbB) l
  .rw[hbo _ d]at a;rw[hbo _ p]at n;exact h.inj c q C E y ⟨m,(hold c d m j).1⟩ ⟨t,(hold q p t r).1⟩ (v.imp (λ⟨o,g,g'⟩=>⟨o,(hold c d o g).1,g'⟩) (λ⟨o,g,g'⟩=>⟨o,(hold q p o g).1,g'⟩)) a n
 .intro c s;have s:S.next+1<=c:=s;rw[hbo c (by omega)];exact h.fresh c (by omega)
 .intro x z F;exact hx x (λe=>F b D hS (by rw[e];exact hbB))
 .rintro c C E ⟨m,j⟩ a hC;by_cases d:c=S.next
  .subst d;rw[hb]at a;cases a;exact⟨b,D,hS.has,hbB⟩
  .rw[hbo _ d]at a;exact⟨c,E,⟨m,(hold c d m j).1⟩,a⟩
 .rintro c C E ⟨m,j,v⟩ a hC;by_cases d:c=S.next
  .subst d;rw[hb]at a;cases a;exact⟨b,D,hS,hbB⟩
  .rw[hbo _ d]at a;exact⟨c,E,⟨m,(hold c d m j).1,v⟩,a⟩
end
theorem Er{B:Nat}{t:zL}{fz:Nat×Nat}:∀(vs:List zg)(o:Nat)(w:ze)(cs:Array zg),w.heap[B]?=some (.cells cs t fz)->∃cs',(w.setCells B o vs).heap[B]?=some (.cells cs' t fz)/\cs'.size=cs.size/\(∀j,j<o\/o+vs.length<=j->cs'[j]?=cs[j]?)/\(∀j,j<vs.length->o+j<cs.size->cs'[o+j]?=vs[j]?)
 |[],o,w,cs,h=>⟨cs,h,rfl,λ_ _=>rfl,λj hj=>by simp at hj⟩
 |v::vs,o,w,cs,h=>by
  have h':(w.setCell ⟨B,o,none⟩ v).heap[B]?=some (.cells (cs.setIfInBounds o v) t fz):=by simp[zdC,zaB,h]
  obtain⟨cs',c,d,a,b⟩:=Er vs (o+1) _ _ h';refine⟨cs',c,by simpa using d,λj hj=>?_,λj hj hj'=>?_⟩
  .simp only[List.length_cons]at hj;rw[a j (by omega),za1 (by omega)]
  .cases j with
   |zero=>rw[a (o+0) (by omega)];simp only[Nat.add_zero,zW];rw[zay (by omega)]
   |succ j=>have:=b j (by simpa using hj) (by simp;omega);rw[show o+1+j=o+(j+1) by omega]at this;simpa using this
theorem Dv{B k:Nat}(h:k≠B):∀(vs:List zg)(o:Nat)(w:ze),(w.setCells B o vs).heap[k]?=w.heap[k]?
 |[],_,_=>rfl
 |v::vs,o,w=>by rw[zbw,Dv h vs];simp[zdC,zaB,Ne.symm h]
theorem D6{B:Nat}:∀(vs:List zg)(o:Nat)(w:ze),(w.setCells B o vs).heap.size=w.heap.size
 |[],_,_=>rfl
 |v::vs,o,w=>by rw[zbw,D6 vs];simp
theorem DV{B:Nat}:∀(vs:List zg)(o:Nat)(w:ze),(w.setCells B o vs).os=w.os/\(w.setCells B o vs).tape=w.tape/\(w.setCells B o vs).output=w.output
 |[],_,_=>⟨rfl,rfl,rfl⟩
 |v::vs,o,w=>by rw[zbw];exact DV vs _ _
theorem F1{ρ:Ren}:∀{vs:List CV}{L:List zg},Aa vs=true->yG ρ vs=some L->∀v∈L,v.oneCell'=true
 |[],L,_,h,v,hv=>by simp[yG]at h;subst h;cases hv
 |u::vs,L,hp,h,v,hv=>by
  simp only[yG,zu,zh]at h;obtain⟨U,hU,L',hL',rfl⟩:=h;have hp':Aa vs=true:=by cases u<;>simp_all [Aa]
  rcases List.mem_cons.1 hv with rfl|hv
  .cases u<;>simp only[Aa,zH]at hp<;>simp only[yx,zb,zh,zu]at hU;all_goals(first|(subst hU;rfl)|(obtain⟨_,_,rfl⟩:=hU;rfl)|(obtain⟨a,_,rfl⟩:=hU;cases a<;>rfl)|(obtain⟨_,_,_,_,rfl⟩:=hU;rfl))
  .exact F1 hp' hL' v hv
section
variable{P:zZ} {ρ:Ren} {S:St} {w:ze}
theorem G8(h:Rel ρ S w){b o:Nat}{vs:List CV}{L:List zg}{S':St}(hs:Cc S b o vs=some S')(hv:yG ρ vs=some L)(hp:Aa vs=true):∃B D,ρ.b b=some (B,D)/\(∀w':ze,w'.heap=w.heap->(storeCells ⟨B,o+D,none⟩ L).run P w'=.ok () (w'.setCells B (o+D) L))/\Stp ρ S w ρ S' (w.setCells B (o+D) L):=by
 obtain⟨aa,nx,nk⟩:=S;simp only[Cc]at hs;split at hs
 .rename_i c sh hi id sz ty hb;cases hc:(Nat.ble (o+vs.length) hi&&zB (hi+sh) lim&&zB b lim)with
  |false=>rw[hc]at hs;cases hs
  |true=>
   rw[hc,cond_true]at hs;cases hs;simp only[zo]at hc;obtain⟨⟨m,d⟩,f⟩:=hc;have m:=A9 m;have d:=yF d;have f:=yF f;have G:=Af hv;obtain⟨B,D,O,A,z,n⟩:=h.obj b _ hb;cases O with
   |cells cs t fz=>
    obtain⟨n,p,h5⟩:=n;refine⟨B,D,A,λw' hw'=>?_,?_⟩
    .have a:∀j,j<L.length->(w'.cell? ⟨B,o+D+0+j,none⟩).isSome=true/\w'.frozen? ⟨B,o+D+0+j,none⟩=false:=by
      intro j g;obtain⟨v,V,_,_,r,l⟩:=n (o+j) (by omega);have l:=l rfl;have W:o+D+0+j=o+j+D:=by omega
      rw[W];refine⟨by simp[World.cell?,hw',z,r],?_⟩;obtain⟨lo,up⟩:=fz;simp only[World.frozen?,hw',z];simp only[not_and]at l;by_cases s:lo<=o+j+D
      .have:=l s;simp[s];omega
      .simp[s]
     have:=run_storeCells_cells (P:=P) B (o+D) L 0 w' (λj g=>(a j g).1) (λj g=>(a j g).2) (F1 hp hv);simpa using this
    .obtain⟨Z,H,e2,r,l⟩:=Er L (o+D) w cs z;obtain⟨T,N,Y⟩:=DV (B:=B) L (o+D) w;refine Stp.write h ⟨_,hb,rfl⟩ A f H ?_ (λk hk=>Dv hk L _ w) (D6 L _ w) T N Y;refine⟨λi hi'=>?_,?_,h5⟩
     .obtain⟨v,V,J,Q,C,F⟩:=n i hi';have ab:i+D<cs.size:=(eh.1 C).1;have q:=ED vs c (o+sh) (i+sh) (by unfold lim at d;omega);by_cases ad:o<=i/\i<o+vs.length
      .rw[if_pos (by omega),show i+sh-(o+sh)=i-o by omega]at q;obtain⟨u,E⟩:∃u,vs[i-o]?=some u:=⟨vs[i-o]'(by omega),List.getElem?_eq_getElem (by omega)⟩
       obtain⟨U,X,y⟩:=AX hv _ _ E;refine⟨u,U,by rw[q,E],X,?_,F⟩;have:=l (i-o) (by omega) (by omega);rw[show o+D+(i-o)=i+D by omega,y]at this;exact this
      .rw[if_neg (by omega)]at q;exact⟨v,V,by rw[q,J],Q,by rw[r _ (by omega)];exact C,F⟩
     .rcases p with p|⟨M,x,I,p⟩
      .exact .inl p
      .refine .inr ⟨M,x,I,λj g=>?_⟩;obtain⟨⟨V,R⟩,hf⟩:=p j g;exact⟨⟨V,by rw[r _ (by omega)];exact R⟩,hf⟩
   |_=>exact n.elim
 .cases hs
end
def UX(P:zZ)(d:zam):Prop:=∃fv cap f args,d.target=.fn fv cap/\(∀w,(invoke d.target d.args).run P w=.ok (.enter f args) w)/\∀w,CallsD P f args .returning w λe u' w'=>(∃v,e=.returned v)/\u'=.returning/\w'=w
def As(P:zZ)(l l':List zam):Prop:=∃m,l'=m++l/\∀d,d∈m->UX P d
theorem As.refl{P:zZ}(l:List zam):As P l l:=⟨[],rfl,λd h=>by cases h⟩
theorem As.of{P:zZ}{l l':List zam}(h:l'=l):As P l l':=by subst h;exact .refl _
theorem As.trans{P:zZ}{l l' l'':List zam}(h:As P l l')(h':As P l' l''):As P l l'':=by
 obtain⟨m,rfl,b⟩:=h;obtain⟨c,rfl,a⟩:=h';refine⟨c++m,by simp,λd hd=>?_⟩;rcases List.mem_append.1 hd with h|h
 .exact a d h
 .exact b d h
theorem As.cons{P:zZ}{l:List zam}{d:zam}(h:UX P d):As P l (d::l):=⟨[d],rfl,λe he=>by simp at he;subst he;exact h⟩
def Bn(P:zZ)(o:Oper)(f:Tm->St->Option (Jd×St)):Prop:=∀(ρ:Ren)(nt:Nat)(tm:Tm)(a:Act)(r:Jd)(S S':St)(w:ze),A6 ρ nt tm a->FE P ρ->Rel ρ S w->f tm S=some (r,S')->
  match r with
  |.val v=>∃ρ' w' V,Stp ρ S w ρ' S' w'/\yx ρ' v=some V/\(execOp a.eval o).run P w=.ok (.value V) w'
  |.undef=>∃ρ' w',Stp ρ S w ρ' S' w'/\((execOp a.eval o).run P w=.ok .skip w'\/∃d,UX P d/\(execOp a.eval o).run P w=.ok (.defer d) w')
  |.call f args=>S'=S/\∃L,yG ρ args=some L/\(execOp a.eval o).run P w=(callFunc f L.toArray).run P w
section
variable{P:zZ} {o:Oper}
theorem I5{t:zL}{x y:eo}{i:TyE}(ht:Ac P t=some i)(ho:o.op=.store t x y):Bn P o (KY i.size (opd P x) (opd P y)):=by
 intro ρ nt tm a r S S' w hf hg hr h;unfold KY at h;split at h
 .rename_i p v f l;have f:=ym hf hg x p f;have l:=ym hf hg y v l;cases hs:Qp i.size p v S with
  |none=>rw[hs]at h;simp[Oq]at h
  |some S1=>
   rw[hs]at h;simp only[Oq,zb,eH]at h;obtain⟨rfl,rfl⟩:=h;unfold Qp at hs;split at hs
   .rename_i b off;cases hc:(zD v.cells.length i.size&&Aa v.cells)with
    |false=>rw[hc]at hs;cases hs
    |true=>
     rw[hc,cond_true]at hs;simp only[zo]at hc;have c:=yZ hc.1;have d:=Bk l;have g:=Af d;obtain⟨B,D,m,j,n⟩:=G8 (P:=P) hr hs d hc.2;simp only[yx,m,zQ,zb]at f;refine⟨ρ,_,n,.inl ?_⟩;have j:=j w rfl;have k:(a.eval y).cells.size=i.size:=by rw[<-c,<-g,Array.length_toList]
     simp[execOp,ho,Instr.storeAt,Instr.sureAddr,<-f,storeVar,yW ht w,k,j]
   .cases hs
 .cases h
theorem Qm{ρ:Ren}{k:CV}{K:zg}(hp:(∃d,Cp d k=true)\/∃e,AK e k=true)(hK:yx ρ k=some K)(n:Nat):lB n K K=true:=by
 cases k with
 |bool b=>simp only[yx,zb]at hK;subst hK;simp[lB]
 |int q m=>simp only[yx,zb]at hK;subst hK;simp[lB]
 |str t=>simp only[yx,zb]at hK;subst hK;simp only[lB];rw[C9];simp
 |_=>rcases hp with⟨d,hp⟩|⟨e,hp⟩<;>first|(cases d<;>simp[Cp]at hp;done)|(cases e<;>simp[AK]at hp;done)
theorem KX{ρ:Ren}(n:Nat):∀(l:List (Nat×Nat×Bool×EqT))(i:Nat)(xs:List CV)(L:List zg),AC i l xs=true->yG ρ xs=some L->(L.zip L).all (λ(x,y)=>lB n x y)=true
 |[],i,[],L,_,h=>by simp only[yG,zb]at h;subst h;rfl
 |[],i,x::xs,L,hp,h=>by simp[AC]at hp
 |_::_,i,[],L,hp,h=>by simp[AC]at hp
 |(o,s,g,e)::l,i,x::xs,L,hp,h=>by simp only[AC,zo]at hp;simp only[yG,zu,zh]at h;obtain⟨X,hX,LX,hLX,rfl⟩:=h;simp only[List.zip_cons_cons,List.all_cons,zo];exact⟨Qm (.inr ⟨e,hp.1.2⟩) hX n,KX n l (i+1) xs LX hp.2 hLX⟩
theorem Ks{ρ:Ren}{q:UO}{k k':CV}{K K':zg}(hp:Ak q k=true)(h:Fh k k'=some true)(hK:yx ρ k=some K)(hK':yx ρ k'=some K'):lB 10000 K' K=true:=by
 obtain rfl:=Qd h;rw[hK]at hK';cases hK';cases q with
 |one d=>exact Qm (.inl ⟨d,hp⟩) hK 10000
 |parts l=>cases k<;>simp only[Ak,zH]at hp;rename_i xs;simp only[yx,zh]at hK;obtain⟨b,a,rfl⟩:=hK;have:=KX 9999 l 0 xs b hp a;simp only[lB,zo];exact⟨by simp,by simpa using this⟩
 |no=>simp[Ak]at hp
theorem GR.cons{ρ:Ren}{e:CV×CV×Nat}{es:List (CV×CV×Nat)}{e':zg×zg×Nat}{l:List (zg×zg×Nat)}(h:GR ρ es l)(h1:yx ρ e.1=some e'.1)(h2:yx ρ e.2.1=some e'.2.1)(h3:e.2.2=e'.2.2):GR ρ (e::es) (e'::l):=by
 refine⟨by simp[h.1],λi x hx=>?_⟩;cases i with
 |zero=>simp only[zW,zb]at hx;subst hx;exact⟨e',by simp,h1,h2,h3⟩
 |succ i=>simpa using h.2 i x (by simpa using hx)
theorem Sk{ρ:Ren}{kt:zL}{ki:TyE}(hk:Ac P kt=some ki){k v:CV}{K V:zg}(hp:Ak (C0 P kt ki.desc) k=true)(hK:yx ρ k=some K)(hV:yx ρ v=some V):∀(es:List (CV×CV×Nat))(l:List (zg×zg×Nat))(u:CV),find k es=some (some u)->GR ρ es l->∃i U e',l[i]?=some e'/\DK P kt ki.desc K (l.map yC) i U/\lB 10000 e'.1 K=true/\GR ρ (upd k v es) (l.set i (K,V,e'.2.2))
 |[],l,u,h,he=>by simp[find]at h
 |(k',v',b)::es,l,u,h,he=>by
  obtain⟨e',l',rfl,a1,a2,a3,he'⟩:=he.tail;simp only[find]at h;split at h
  .rename_i hq;refine⟨0,e'.2.1,e',rfl,DK.zero (x:=yC e') (AZ hk hp hq hK a1),Ks hp hq hK a1,?_⟩;simp only[upd,hq,zi];exact he'.cons hK hV a3
  .rename_i hq;obtain⟨i,U,c,f,a,g,d⟩:=Sk hk hp hK hV es l' u h he';refine⟨i+1,U,c,by simpa using f,DK.succ (y:=yC e') (AZ hk hp hq hK a1) a,g,?_⟩;simp only[upd,hq,zj];exact d.cons a1 a2 a3
  .cases h
theorem GR.push{ρ:Ren}{k v:CV}{K V:zg}(hK:yx ρ k=some K)(hV:yx ρ v=some V)(n:Nat):∀{es:List (CV×CV×Nat)}{l:List (zg×zg×Nat)},GR ρ es l->GR ρ (es++[(k,v,n)]) (l++[(K,V,n)])
 |[],l,h=>by have:l=[]:=List.length_eq_zero_iff.1 h.1;subst this;exact GR.cons (by simpa using h) hK hV rfl
 |e::es,l,h=>by obtain⟨f,g,rfl,c,b,d,a⟩:=h.tail;exact(GR.push hK hV n a).cons c b d
theorem GR.obj{ρ:Ren}{es:List (CV×CV×Nat)}{l:List (zg×zg×Nat)}(h:GR ρ es l)(clock:Nat):Bt ρ 0 (.map es clock) (.map (l.map yC).toArray clock):=⟨rfl,rfl,l,by simp[yC],h.1,h.2⟩
theorem CS{w:ze}{R:Nat}{es es':Array MapEntry}{clock clock':Nat}(h:w.heap[R]?=some (.map es clock)):(setObj R (.map es' clock')).run P w=.ok () {w with heap:=w.heap.setIfInBounds R (.map es' clock')}:=by simp[setObj,o8,h]
theorem Stp.setObj{ρ:Ren}{S:St}{w:ze}(h:Rel ρ S w){b R:Nat}{o o':Bp}{O O':Obj}(hS:S.heap.get b=some o)(hb:ρ.b b=some (R,0))(hlt:b<lim)(hR:w.heap[R]?=some O)(ho:Bt ρ 0 o' O')(hw:o.wr=true:=by rfl):Stp ρ S w ρ ⟨S.heap.set big b (some o'),S.next,S.nk⟩ {w with heap:=w.heap.setIfInBounds R O'}:=by
 have a:=(eh.1 hR).1;refine Stp.write h ⟨o,hS,hw⟩ hb hlt ?_ ho (λk hk=>?_) (by simp) rfl rfl rfl
 .show(w.heap.setIfInBounds R O')[R]?=_;rw[zay a]
 .show(w.heap.setIfInBounds R O')[k]?=_;rw[za1 (Ne.symm hk)]
theorem Ez{t:zL}{m k x:eo}{i:TyE}{kt et:zL}{ki:TyE}(ht:Ac P t=some i)(hi:i.desc=.map kt et)(hk:Ac P kt=some ki)(ho:o.op=.mapUpdate t m k x\/o.op=.insert t m k x):Bn P o (DO (C0 P kt ki.desc) (opd P m) (opd P k) (opd P x)):=by
 intro ρ nt tm a r S S' w hf hg hr h;obtain⟨D,M,O⟩:=S;unfold DO at h;split at h
 .rename_i m' k' v y f B;have y:=ym hf hg m m' y;have f:=ym hf hg k k' f;have B:=ym hf hg x v B;cases hs:Hp (C0 P kt ki.desc) m' k' v ⟨D,M,O⟩with
  |none=>rw[hs]at h;simp[Oq]at h
  |some S1=>
   rw[hs]at h;simp only[Oq,zb,eH]at h;obtain⟨rfl,rfl⟩:=h;unfold Hp at hs;cases hp:Ak (C0 P kt ki.desc) k' with
   |false=>rw[hp]at hs;cases hs
   |true=>
    rw[hp,cond_true]at hs;have d:=yg ht w;rw[hi]at d;have z:(execOp a.eval o).run P w=((o7 t (a.eval m) (a.eval k) (a.eval x)).run P w).andThen (λ_ w'=>.ok .skip w'):=by rcases ho with ho|ho<;>simp[execOp,ho]
    obtain⟨J,rfl⟩:∃r,m'=.map r:=by cases m'<;>first|exact⟨_,rfl⟩|cases hs
    .simp only at hs;split at hs
     .rename_i es clock hes;obtain⟨R,l,C,s,G⟩:=C2 hr.has hes;simp only[yx,C,zQ,zb]at y;have H:=yg hk w;split at hs
      .
       rename_i u hfound;cases b:zB J lim with
       |false=>rw[b]at hs;cases hs
       |true=>
        rw[b,cond_true]at hs;cases hs;obtain⟨j,U,I,F,g,L,N⟩:=Sk hk hp f B es l u hfound G;have g:=g.run (λw=>yg (P:=P) hk w) w;refine⟨ρ,_,Stp.setObj hr hes C (yF b) s (N.obj clock),.inl ?_⟩;have A:((l.map yC).toArray.modify j λe=>{e with key:=a.eval k,val:=a.eval x})=((l.set j (a.eval k,a.eval x,I.2.2)).map yC).toArray:=by
         apply iq;apply za3;intro q;rw[lX,zaE,ig,ig,za6];by_cases n:j=q
         .subst n;have b:=(zm.1 F).1;rw[if_pos rfl,if_pos b,F];simp[yC]
         .rw[if_neg n];cases l[q]?<;>simp[n]
        have E:((((l.map yC).toArray[j]?).map (·.key)).getD (a.eval k))=I.1:=by simp[F,yC]
        rw[z];simp only[o7,zK,d,zr,<-y,Ar s,AU hk hp f,zaa,g,zP];rw[E];simp only[zcz,L,if_true,zP,zr];rw[A,CS s];rfl
      .rename_i hfound;cases b:zB J lim with
       |false=>rw[b]at hs;cases hs
       |true=>
        rw[b,cond_true]at hs;cases hs;rcases Iu hk hp f es l none hfound G with⟨_,g⟩|⟨_,_,_,c,_⟩
        .have g:=g.run (λw=>yg (P:=P) hk w) w;refine⟨ρ,_,Stp.setObj hr hes C (yF b) s ((G.push f B clock).obj (clock+1)),.inl ?_⟩;have p:(l.map yC).toArray.push {key:=a.eval k,val:=a.eval x,born:=clock}=((l++[(a.eval k,a.eval x,clock)]).map yC).toArray:=by apply iq;simp[yC]
         rw[z];simp only[o7,zK,d,zr,<-y,Ar s,AU hk hp f,zaa,g,zP];rw[p,CS s];rfl
        .cases c
      .cases hs
     .cases hs
 .cases h
theorem Pp{w:ze}{R:Nat}{s s':ByteArray}{p p':Nat}(h:w.heap[R]?=some (.stringIter s p)):(setObj R (.stringIter s' p')).run P w=.ok () {w with heap:=w.heap.setIfInBounds R (.stringIter s' p')}:=by simp[setObj,o8,h]
theorem Pv{c:Go.Call}{f:eo}(hc:c.callee=.value f)(ho:o.op=.call c):Bn P o (U5 (opd P f) (Rg P c.args.toList)):=by
 intro ρ nt tm a r S S' w hf hg hr h;unfold U5 at h;split at h
 .rename_i g fi ca d;have d:=ym hf hg f _ d;split at h
  .rename_i args b;have b:=GJ hf hg _ _ b;cases h;simp only[yx,zu,zh]at d;obtain⟨l,j,k,i,d⟩:=d;refine⟨rfl,l++c.args.toList.map a.eval++k,?_,?_⟩
   .have:=Ds j (Ds b i);rwa [<-lW,<-lW]at this
   .simp only[execOp,ho,resolve,hc,zK,zP,zr];rw[<-d];simp only[zco,zP,zr,invoke];congr 2;apply iq;simp
  .cases h
 .cases h
theorem Pt{c:Go.Call}{f:eo}(hc:c.callee=.value f)(has:c.args.toList=[])(ho:o.op=.defer c):Bn P o (Qe (MZ P) (opd P f)):=by
 intro ρ nt tm a r S S' w hf hg hr h;unfold Qe at h;split at h
 .rename_i g fi ca b;have b:=ym hf hg f _ b;cases hi:MZ P g with
  |false=>rw[hi]at h;cases h
  |true=>
   rw[hi,cond_true]at h;cases h;simp only[yx,zu,zh]at b;obtain⟨k,m,d,l,b⟩:=b;have has:c.args=#[]:=by apply iq;simpa using has
   have i:=λargs w=>(K0 (P:=P) hi args w).1;have j:=(K0 (P:=P) hi #[] w).2;refine⟨ρ,w,Stp.refl hr,.inr ⟨{target:=.fn (.func g) d.toArray,args:=k.toArray++c.args.map a.eval},⟨.func g,d.toArray,g,k.toArray++c.args.map a.eval++d.toArray,rfl,λw=>?_,λw=>i _ w⟩,?_⟩⟩
   .simp only[invoke];exact j _ w
   .simp only[execOp,ho,resolve,hc,zK,zP,zr];rw[<-b];simp only[zco,zP,zr]
 .cases h
end
section
variable{P:zZ} {o:Oper}
theorem MV{ρ:Ren}{kt:zL}{ki:TyE}(hk:Ac P kt=some ki){k:CV}{K:zg}(hp:Ak (C0 P kt ki.desc) k=true)(hK:yx ρ k=some K):∀(es:List (CV×CV×Nat))(l:List (zg×zg×Nat))(u:CV),find k es=some (some u)->GR ρ es l->∃i e',l[i]?=some e'/\DK P kt ki.desc K (l.map yC) i e'.2.1/\yx ρ u=some e'.2.1/\lB 10000 e'.1 K=true/\e'.2.2=Hh k es/\GR ρ (upd k u es) (l.set i (K,e'.2.1,e'.2.2))
 |[],l,u,h,he=>by simp[find]at h
 |(k',v',b)::es,l,u,h,he=>by
  obtain⟨e',l',rfl,a1,a2,a3,he'⟩:=he.tail;simp only[find]at h;split at h
  .rename_i hq;cases h;refine⟨0,e',rfl,DK.zero (x:=yC e') (AZ hk hp hq hK a1),a2,Ks hp hq hK a1,by simp only[Hh,hq];exact a3.symm,?_⟩;simp only[upd,hq,zi];exact he'.cons hK a2 a3
  .rename_i hq;obtain⟨i,d,j,a,m,f,c,g⟩:=MV hk hp hK es l' u h he';refine⟨i+1,d,by simpa using j,DK.succ (y:=yC e') (AZ hk hp hq hK a1) a,m,f,by simp only[Hh,hq];exact c,?_⟩;simp only[upd,hq,zj];exact g.cons a1 a2 a3
  .cases h
theorem NE{ρ:Ren}{v:CV}{V:zg}(hV:yx ρ v=some V){n:Nat}:∀(es es':List (CV×CV×Nat))(l:List (zg×zg×Nat)),Gc n v es=some es'->GR ρ es l->∃i e',l[i]?=some e'/\(l.map yC).findIdx? (λe=>(e.born:Int)==(n:Int))=some i/\GR ρ es' (l.set i (e'.1,V,e'.2.2))
 |[],es',l,h,he=>by simp[Gc]at h
 |(k,u,t)::es,es',l,h,he=>by
  obtain⟨e',l',rfl,a1,a2,a3,he'⟩:=he.tail;simp only[Gc]at h;cases hb:zD t n with
  |true=>
   rw[hb,cond_true]at h;cases h;have:=Nat.eq_of_beq_eq_true hb;subst this;refine⟨0,e',rfl,?_,?_⟩
   .rw[iZ,zcM,if_pos (by simp only[yC];rw[<-a3];simp)]
   .simp only[zi];exact he'.cons a1 hV a3
  |false=>
   rw[hb,cond_false]at h;have c:t≠n:=λe=>by rw[e,Nat.beq_refl]at hb;cases hb
   split at h
   .rename_i es2 hs;cases h;obtain⟨i,b,d,a,f⟩:=NE hV es es2 l' hs he';refine⟨i+1,b,by simpa using d,?_,?_⟩
    .rw[iZ,zcM,if_neg (by simp only[yC];rw[<-a3];simp only[beq_iff_eq];omega),a];rfl
    .simp only[zj];exact f.cons a1 a2 a3
   .cases h
theorem JY{t:zL}{m k:eo}{i:TyE}{kt et:zL}{ki:TyE}{z:CV}(ht:Ac P t=some i)(hi:i.desc=.map kt et)(hk:Ac P kt=some ki)(hz:BW P et=some z)(ho:o.op=.mapEntry t m k):Bn P o (Gg (C0 P kt ki.desc) z (opd P m) (opd P k)):=by
 intro ρ nt tm a r S S' w hf hg hr h;obtain⟨Q,T,U⟩:=S;unfold Gg at h;split at h
 .rename_i S0 R0 k' h0 nx0 nk0 v f hS;cases hS;have v:=ym hf hg m _ v;have f:=ym hf hg k k' f;cases hp:Ak (C0 P kt ki.desc) k' with
  |false=>rw[hp]at h;cases h
  |true=>
   rw[hp,cond_true]at h;have d:=yg ht w;rw[hi]at d;have I:=yg hk w;obtain⟨Z,L,y⟩:=AD hz (ρ:=ρ) w;have B:(execOp a.eval o).run P w=((oy t (a.eval m) (a.eval k)).run P w).andThen (λV w'=>.ok (.value V) w'):=by simp[execOp,ho]
   split at h
   .rename_i es clock hes;obtain⟨R,l,E,s,H⟩:=C2 hr.has hes;simp only[yx,E,zQ,zb]at v;split at h
    .
     rename_i u hfound;cases b:zB R0 lim with
     |false=>rw[b]at h;cases h
     |true=>
      rw[b,cond_true]at h;simp only[zb,eH]at h;obtain⟨rfl,rfl⟩:=h;obtain⟨j,A,D,g,M,N,J,O⟩:=MV hk hp f es l u hfound H;have g:=g.run (λw=>yg (P:=P) hk w) w;have C:((l.map yC).toArray.modify j λe=>{e with key:=a.eval k})=((l.set j (a.eval k,A.2.1,A.2.2)).map yC).toArray:=by
       apply iq;apply za3;intro q;rw[lX,zaE,ig,ig,za6];by_cases n:j=q
       .subst n;have b:=(zm.1 D).1;rw[if_pos rfl,if_pos b,D];simp[yC]
       .rw[if_neg n];cases l[q]?<;>simp[n]
      have G:((((l.map yC).toArray[j]?).map (·.key)).getD (a.eval k))=A.1:=by simp[D,yC]
      have F:((((l.map yC).toArray[j]?).map (λx=>(x.born:Int))).getD 0)=(A.2.2:Int):=by simp[D,yC]
      refine⟨ρ,_,.tuple #[A.2.1,.int .i64 (Hh k' es)],Stp.setObj hr hes E (yF b) s (O.obj clock),by simp[yx,yG,M],?_⟩;rw[B];simp only[oy,zK,d,zr,<-v,Ar s,AU hk hp f,zaa,g,zP];rw[G,F];simp only[zcz,N,if_true,zP,zr];rw[C,CS s];simp only[zr,goInt,J]
    .rename_i hfound;cases b:zB R0 lim with
     |false=>rw[b]at h;cases h
     |true=>
      rw[b,cond_true]at h;simp only[zb,eH]at h;obtain⟨rfl,rfl⟩:=h;rcases Iu hk hp f es l none hfound H with⟨_,g⟩|⟨_,_,_,c,_⟩
      .have g:=g.run (λw=>yg (P:=P) hk w) w;have p:(l.map yC).toArray.push {key:=a.eval k,val:=Z,born:=clock}=((l++[(a.eval k,Z,clock)]).map yC).toArray:=by apply iq;simp[yC]
       refine⟨ρ,_,.tuple #[Z,.int .i64 clock],Stp.setObj hr hes E (yF b) s ((H.push f y clock).obj (clock+1)),by simp[yx,yG,y],?_⟩;rw[B];simp only[oy,zK,d,zr,<-v,Ar s,AU hk hp f,zaa,g,zP,L];rw[p,CS s];rfl
      .cases c
    .cases h
   .cases h
 .cases h
theorem Ip{t:zL}{m s x:eo}(ho:o.op=.entryStore t m s x):Bn P o (D7 (opd P m) (opd P s) (opd P x)):=by
 intro ρ nt tm a r S S' w hf hg hr h;obtain⟨C,G,H⟩:=S;unfold D7 at h;split at h
 .rename_i S0 R0 kd n v h0 nx0 nk0 f g y hS;cases hS;have f:=ym hf hg m _ f;have g:=ym hf hg s _ g;have y:=ym hf hg x v y;simp only[yx,zb]at g;have p:(execOp a.eval o).run P w=((oD t (a.eval m) (a.eval s) (a.eval x)).run P w).andThen (λ_ w'=>.ok .skip w'):=by simp[execOp,ho]
  split at h
  .rename_i es clock hes;obtain⟨R,l,z,k,F⟩:=C2 hr.has hes;simp only[yx,z,zQ,zb]at f;split at h
   .rename_i es' hset;cases b:zB R0 lim with
    |false=>rw[b]at h;cases h
    |true=>
     rw[b,cond_true]at h;simp only[zb,eH]at h;obtain⟨rfl,rfl⟩:=h;obtain⟨j,A,B,D,E⟩:=NE y es es' l hset F;have d:((l.map yC).toArray.modify j λe=>{e with val:=a.eval x})=((l.set j (A.1,a.eval x,A.2.2)).map yC).toArray:=by
      apply iq;apply za3;intro q;rw[lX,zaE,ig,ig,za6];by_cases c:j=q
      .subst c;have b:=(zm.1 B).1;rw[if_pos rfl,if_pos b,B];simp[yC]
      .rw[if_neg c];cases l[q]?<;>simp[c]
     have i:(l.map yC).toArray.findIdx? (λe=>(e.born:Int)==(Int.ofNat n))=some j:=by rw[List.findIdx?_toArray];exact D
     refine⟨ρ,_,Stp.setObj hr hes z (yF b) k (E.obj clock),.inl ?_⟩;rw[p];simp only[oD,zK,<-f,Ar k,zr,<-g,asInt,asIntOf,zP];rw[i];simp only;rw[d,CS k];rfl
   .cases h
  .cases h
 .cases h
end
end Go.Ev
