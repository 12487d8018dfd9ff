/-
  Part of the proof: A run in stages: a call that was reckoned apart, over the part of the state that it looks at.
-/
import Derived.Test.YtpdlpdkehminlaaGreatDoorEvU
import GoSem.ClaimJoined
set_option linter.all false
set_option maxRecDepth 100000
set_option maxHeartbeats 20000000
open Bool renaming and_eq_true->zo
open Go renaming DataW->l7,Field->ib,MemPlace->oN,Program->zZ,TypeId->zL,Value->zg,World->ze
open Go.Addr renaming add_lit->zcC
open Go.DataW renaming trod->l9
open Go.DataW.agg renaming injEq->zcr
open Go.DataW.slice renaming injEq->zer
open Go.World renaming cell?->zS
open List renaming drop_drop->zb2,flatten_append->zcG,flatten_cons->lu,getElem?_eq_getElem->zc,length->zd5,length_map->l8,map_append->ip,mem_append->eZ,mem_cons->zO,mem_cons_of_mem->eJ,mem_cons_self->eO,mem_map->lQ,not_mem_nil->e8,range->ev,range_succ->zdr
open Nat renaming beq->zD,eq_of_beq_eq_true->oF,le_refl->zn,succ_mul->zbv,zero_le->zbN
open Option renaming bind_eq_some_iff->zu,bind_some->iG,getD_some->eE,map_eq_some_iff->zh,pure_def->zcU
open Option.some renaming inj->eF,injEq->zb
open Prod.mk renaming injEq->eH
open UInt8 renaming toNat->zcs
namespace Go.Ev
inductive Sf where
 |row (cells:List CV) (wr:Bool) (id sz ty:Nat)
 |map (es:List (CV×CV×Nat)) (clock:Nat)
 |mapU (es:List (CV×CV×Nat))
noncomputable section
def Sf.obj:Sf->Bp
 |.row cs wr id sz ty=>.row (lay .leaf 0 cs) 0 cs.length wr id sz ty
 |.map es c=>.map es c
 |.mapU es=>.mapU es
def Tg(t:Tr Bp)(k:Tr Bp->Tr Bp):Tr Bp:=Tr.rec (motive:=λ_=>Tr Bp) (k .leaf) (λv l r _ _=>k (.node v l r)) t
def NQ(h:Tr Bp):List (Nat×Sf)->Tr Bp
 |[]=>h
 |(b,l)::r=>Tg (h.set big b (some l.obj)) λh=>NQ h r
def SW(pre:List (Nat×Sf))(nx nk:Nat):St:=⟨NQ .leaf pre,nx,nk⟩
end
theorem Sa(t:Tr Bp)(k:Tr Bp->Tr Bp):Tg t k=k t:=by cases t<;>rfl
theorem WU{b:Nat}(h:b<lim):b+1<2^big:=by unfold lim at h;simp[big];omega
theorem KU:∀(r:List (Nat×Sf))(h:Tr Bp),(∀b l,(b,l)∈r->b<lim)->∀(b:Nat)(o:Bp),(NQ h r).get b=some o->(∃l,(b,l)∈r/\o=l.obj)\/((∀l,(b,l)∉r)/\h.get b=some o)
 |[],h,_,b,o,hg=>.inr ⟨λl hl=>(e8 hl).elim,hg⟩
 |(b',l')::r,h,hb,b,o,hg=>by
  simp only[NQ,Sa]at hg;rcases KU r _ (λb l hl=>hb b l (eJ _ hl)) b o hg with⟨l,h1,h2⟩|⟨h1,h2⟩
  .exact .inl ⟨l,eJ _ h1,h2⟩
  .by_cases e:b'=b
   .subst e;rw[Tr.get_set_eq _ _ _ _ (WU (hb b' l' eO))]at h2;exact .inl ⟨l',eO,(eF h2).symm⟩
   .rw[Tr.get_set_ne _ _ _ _ _ e]at h2;refine .inr ⟨λl hl=>?_,h2⟩;rcases zO.1 hl with e2|hl
    .cases e2;exact e rfl
    .exact h1 l hl
section
variable{P:zZ}
def Vu(P:zZ)(f:FuncId)(p:List CV->St->N6):Prop:=∀(args:List CV)(S:St)(v:CV)(S':St)(ρ:Ren)(w:ze)(L:List zg),p args S= .ok v S'->Rel ρ S w->FE P ρ->yG ρ args=some L->∀(o:Oper)(a:Act)(next:Act->ze->Prop)(Q:Exit->Act->ze->Prop),(∀ρ' w' V,Stp ρ S w ρ' S' w'->yx ρ' v=some V->next (a.put o.dst V) w')->o.upon P a next Q ((callFunc f L.toArray).run P w)
end
inductive JS{α β:Type}(R:α->β->Prop):List α->List β->Prop where
 |nil:JS R [] []
 |cons {a:α} {b:β} {l:List α} {m:List β} (h:R a b) (t:JS R l m):JS R (a::l) (b::m)
theorem Cv{α β:Type}{g:α->Option β}:∀{l:List α}{xs:List β},l.mapM g=some xs->JS (λa x=>g a=some x) l xs
 |[],xs,h=>by simp only[List.mapM_nil,zcU,zb]at h;subst h;exact .nil
 |a::l,xs,h=>by simp only[List.mapM_cons,Option.bind_eq_bind,zcU,zu,zb]at h;obtain⟨x,h1,ys,h2,rfl⟩:=h;exact .cons h1 (Cv h2)
theorem JS.length{α β:Type}{R:α->β->Prop}:∀{l:List α}{m:List β},JS R l m->l.length=m.length
 |_,_,.nil=>rfl
 |_,_,.cons _ t=>by simp[t.length]
theorem JS.maps{α β γ δ:Type}{R:α->β->Prop}{R':γ->δ->Prop}{g:α->γ}{k:β->δ}(h:∀a b,R a b->R' (g a) (k b)):∀{l:List α}{m:List β},JS R l m->JS R' (l.map g) (m.map k)
 |_,_,.nil=>.nil
 |_,_,.cons h1 t=>.cons (h _ _ h1) (t.maps h)
theorem JS.append{α β:Type}{R:α->β->Prop}{l':List α}{m':List β}(h':JS R l' m'):∀{l:List α}{m:List β},JS R l m->JS R (l++l') (m++m')
 |_,_,.nil=>h'
 |_,_,.cons h1 t=>.cons h1 (JS.append h' t)
noncomputable section
abbrev VT:=List CV×List (Nat×List CV)×Nat
def WA(f:l7 Unit->Nat->Option VT):List (l7 Unit)->Nat->Option VT
 |[],nx=>some ([],[],nx)
 |d::ds,nx=>(match f d nx with
  |some (c,r,n1)=>(match WA f ds n1 with
   |some (cs,rs,n2)=>some (c++cs,r++rs,n2)
   |none=>none)
  |none=>none)
def WY(f:zL->l7 Unit->Nat->Option VT):List ib->List (l7 Unit)->Nat->Option VT
 |[],[],nx=>some ([],[],nx)
 |fd::fs,d::ds,nx=>(match f fd.type d nx with
  |some (c,r,n1)=>(match WY f fs ds n1 with
   |some (cs,rs,n2)=>some (c++cs,r++rs,n2)
   |none=>none)
  |none=>none)
 |_,_,_=>none
def Mv(P:zZ):Nat->List ib->Nat->Bool
 |k,[],n=>zD k n
 |k,f::fs,n=>zD f.offset k&&Mv P (k+P.cellsOf f.type) fs n
def WE(a b:IntKind):Bool:=decide (a=b)
def SP(P:zZ):Nat->zL->l7 Unit->Nat->Option VT
 |0,_,_,_=>none
 |fuel+1,t,d,nx=>
  match P.underlying t with
  |some .bool=>(match d with
   |.lit (.bool b)=>some ([.bool b],[],nx)
   |_=>none)
  |some (.int k)=>(match d with
   |.lit (.int k' n)=>bif WE k' k then some ([.int k' n],[],nx)else none
   |_=>none)
  |some .string=>(match d with
   |.lit (.string bs)=>some ([.str (bs.map zcs)],[],nx)
   |_=>none)
  |some (.slice e)=>(match d with
   |.nil=>some ([.nils],[],nx)
   |.slice (d0::elems) spare=>bif zD (P.cellsOf e) 0 then none else(match WA (SP P fuel e) (d0::elems++spare) (nx+1)with
    |some (c,r,n2)=>some ([.slice nx 0 (elems.length+1) (.ex (elems.length+1+spare.length))],(nx,c)::r,n2)
    |none=>none)
   |_=>none)
  |some (.struct fs)=>(match d with
   |.agg ds=>bif Mv P 0 fs.toList (P.cellsOf t)then WY (SP P fuel) fs.toList ds nx else none
   |_=>none)
  |some (.array n e)=>(match d with
   |.agg ds=>bif zD (n*P.cellsOf e) (P.cellsOf t)then WA (SP P fuel e) ds nx else none
   |_=>none)
  |_=>none
end
def CE(w:ze)(nx n2:Nat)(c:List CV)(r:List (Nat×List CV))(cs:List zg):Prop:=nx<=n2/\(∀b l,(b,l)∈r->nx<=b/\b<n2)/\∃β:Nat->Nat×Nat,∀ρ:Ren,(∀b,nx<=b->b<n2->ρ.b b=some (β b))->yG ρ c=some cs/\∀b l,(b,l)∈r->∃L,yG ρ l=some L/\∀(j:Nat)(v:zg),L[j]?=some v->w.cell? ⟨(β b).1,(β b).2+j,none⟩=some v
theorem CE.none{w:ze}{nx:Nat}{c:List CV}{cs:List zg}(h:∀ρ,yG ρ c=some cs):CE w nx nx c [] cs:=⟨zn _,λ_ _ h=>(e8 h).elim,λ_=>(0,0),λρ _=>⟨h ρ,λ_ _ h=>(e8 h).elim⟩⟩
theorem F5{ρ:Ren}:∀{a b:List CV}{A B:List zg},yG ρ a=some A->yG ρ b=some B->yG ρ (a++b)=some (A++B)
 |[],b,A,B,h,h'=>by simp only[yG,zb]at h;subst h;exact h'
 |v::a,b,A,B,h,h'=>by simp only[yG,zu,zh]at h;obtain⟨x,hx,y,hy,rfl⟩:=h;simp only[List.cons_append,yG,hx,iG,F5 hy h',Option.map_some]
theorem CE.append{w:ze}{nx n1 n2:Nat}{c c':List CV}{r r':List (Nat×List CV)}{cs cs':List zg}(h:CE w nx n1 c r cs)(h':CE w n1 n2 c' r' cs'):CE w nx n2 (c++c') (r++r') (cs++cs'):=by
 obtain⟨p,g,β,j⟩:=h;obtain⟨q,f,β',n⟩:=h';refine⟨by omega,λb l hb=>?_,λb=>if b<n1 then β b else β' b,λρ hρ=>?_⟩
 .rcases eZ.1 hb with hb|hb
  .have:=g b l hb;omega
  .have:=f b l hb;omega
 .obtain⟨k,o⟩:=j ρ (λb h1 h2=>by have:=hρ b h1 (by omega);simp only[if_pos h2]at this;exact this);obtain⟨m,i⟩:=n ρ (λb h1 h2=>by have:=hρ b (by omega) h2;simp only[if_neg (show¬b<n1 by omega)]at this;exact this);refine⟨F5 k m,λb l hb=>?_⟩;rcases eZ.1 hb with hb|hb
  .obtain⟨L,d,a⟩:=o b l hb;refine⟨L,d,?_⟩;simp only[if_pos (g b l hb).2];exact a
  .obtain⟨L,d,a⟩:=i b l hb;refine⟨L,d,?_⟩;have:=(f b l hb).1;simp only[if_neg (show¬b<n1 by omega)];exact a
theorem Ou{w:ze}{f:l7 Unit->Nat->Option VT}{T:List zg->l7 Unit->Prop}(hf:∀d nx c r n2 cs,f d nx=some (c,r,n2)->T cs d->CE w nx n2 c r cs):∀{css:List (List zg)}{ds:List (l7 Unit)}{nx:Nat}{c:List CV}{r:List (Nat×List CV)}{n2:Nat},JS T css ds->WA f ds nx=some (c,r,n2)->CE w nx n2 c r css.flatten
 |_,_,nx,c,r,n2,.nil,h=>by simp only[WA,zb,eH]at h;obtain⟨rfl,rfl,rfl⟩:=h;exact CE.none (λρ=>rfl)
 |_,_,nx,c,r,n2,.cons h1 t,h=>by
  simp only[WA]at h;split at h
  .rename_i c1 r1 n1 e1;split at h
   .rename_i c2 r2 n3 e2;simp only[zb,eH]at h;obtain⟨rfl,rfl,rfl⟩:=h;rw[lu];exact(hf _ _ _ _ _ _ e1 h1).append (Ou hf t e2)
   .cases h
  .cases h
theorem VC{s:Nat}:∀(n:Nat)(cs:List zg),cs.length=n*s->((ev n).map λi=>(cs.drop (i*s)).take s).flatten=cs
 |0,cs,h=>by have:cs=[]:=List.length_eq_zero_iff.1 (by simpa using h);subst this;rfl
 |n+1,cs,h=>by
  rw[List.range_succ_eq_map,List.map_cons,lu,List.map_map];have e:((λi=>(cs.drop (i*s)).take s)∘Nat.succ)=λi=>((cs.drop s).drop (i*s)).take s:=by funext i;simp only[Function.comp,zb2];congr 2;rw[zbv];omega
  rw[e,VC n (cs.drop s) (by rw[List.length_drop,h,zbv];omega)];simp
theorem SI{P:zZ}{w:ze}{f:zL->l7 Unit->Nat->Option VT}{T:zL->List zg->l7 Unit->Prop}(hf:∀t d nx c r n2 cs,f t d nx=some (c,r,n2)->T t cs d->CE w nx n2 c r cs){cs:List zg}:∀(fs:List ib)(ds:List (l7 Unit))(k nx:Nat)(c:List CV)(r:List (Nat×List CV))(n2:Nat),Mv P k fs cs.length=true->JS (λ(fd:ib) d=>T fd.type ((cs.drop fd.offset).take (P.cellsOf fd.type)) d) fs ds->WY f fs ds nx=some (c,r,n2)->CE w nx n2 c r (cs.drop k)
 |[],_,k,nx,c,r,n2,hc,.nil,h=>by simp only[WY,zb,eH]at h;obtain⟨rfl,rfl,rfl⟩:=h;have:k=cs.length:=oF hc;subst this;exact CE.none (λρ=>by simp[yG])
 |fd::fs,_,k,nx,c,r,n2,hc,.cons h1 t,h=>by
  simp only[Mv,zo]at hc;have a:=oF hc.1;subst a;simp only[WY]at h;split at h
  .rename_i c1 r1 n1 e1;split at h
   .rename_i c2 r2 n3 e2;simp only[zb,eH]at h;obtain⟨rfl,rfl,rfl⟩:=h;have:=(hf _ _ _ _ _ _ _ e1 h1).append (SI hf fs _ _ _ _ _ _ hc.2 t e2);rw[<-zb2,List.take_append_drop]at this;exact this
   .cases h
  .cases h
abbrev IY(P:zZ)(w:ze)(fuel:Nat)(t:zL)(cs:List zg):Option (l7 Unit×List oN):=l9 (λ_=>()) P w 0 (λ_=>true) false fuel t cs
theorem Mo{w:ze}{a:Addr}{n:Nat}{cs:List zg}(h:w.cells? 0 a n=some cs):cs.length=n/\∀(j:Nat)(v:zg),cs[j]?=some v->w.cell? (a.add j)=some v:=by
 unfold World.cells? at h;rw[if_pos (zbN _)]at h;have h:=Cv h;have d:∀{l:List Nat}{m:List zg},JS (λi x=>w.cell? (a.add i)=some x) l m->∀(j:Nat)(v:zg),m[j]?=some v->∃i,l[j]?=some i/\w.cell? (a.add i)=some v:=by
  intro l m g;induction g with
  |nil=>intro j v b;simp at b
  |cons c t ih=>
   intro j v b;cases j with
   |zero=>simp only[List.getElem?_cons_zero,zb]at b;subst b;exact⟨_,rfl,c⟩
   |succ j=>simpa using ih j v (by simpa using b)
 refine⟨by have:=h.length;simpa using this.symm,λj v b=>?_⟩;obtain⟨i,c,k⟩:=d h j v b;have:=List.getElem?_eq_some_iff.1 c;obtain⟨o,f⟩:=this;rw[List.getElem_range]at f;subst f;exact k
theorem K5{α β:Type}{R R':α->β->Prop}:∀{l:List α}{m:List β},JS R l m->(∀a b,R a b->R' a b)->JS R' l m
 |_,_,.nil,_=>.nil
 |_,_,.cons h1 t,h=>.cons (h _ _ h1) (K5 t h)
theorem Nx{α β:Type}{R:α->β->Prop}{p:α->Prop}:∀{l:List α}{m:List β},JS (λa b=>p a/\R a b) l m->∀a,a∈l->p a
 |_,_,.nil,a,h=>(e8 h).elim
 |_,_,.cons h1 t,a,h=>by
  rcases zO.1 h with rfl|h
  .exact h1.1
  .exact Nx t a h
theorem Ts{s:Nat}{piece:Nat->List zg}{p:Nat->zg->Prop}:∀{n:Nat},(∀i,i<n->(piece i).length=s)->(∀i,i<n->∀(j:Nat)(v:zg),(piece i)[j]?=some v->p (i*s+j) v)->∀(j:Nat)(v:zg),((ev n).map piece).flatten[j]?=some v->p j v
 |0,_,_,j,v,h=>by simp at h
 |n+1,hl,hp,j,v,h=>by
  rw[zdr,ip,zcG]at h;have hlen:∀m,m<=n+1->((ev m).map piece).flatten.length=m*s:=by
   intro m;induction m with
   |zero=>intro _;simp
   |succ m ih=>intro b;rw[zdr,ip,zcG,List.length_append,ih (by omega)];simp[hl m (by omega),zbv]
  by_cases a:j<n*s
  .rw[List.getElem?_append_left (by rw[hlen n (by omega)];exact a)]at h;exact Ts (λi hi=>hl i (by omega)) (λi hi=>hp i (by omega)) j v h
  .rw[List.getElem?_append_right (by rw[hlen n (by omega)];omega),hlen n (by omega)]at h;have h:(piece n)[j-n*s]?=some v:=by simpa using h
   have:=hp n (by omega) _ _ h;rwa [show n*s+(j-n*s)=j by omega]at this
theorem TC{P:zZ}{w:ze}:∀(f2 f1:Nat)(t:zL)(d:l7 Unit)(nx:Nat)(c:List CV)(r:List (Nat×List CV))(n2:Nat)(cs:List zg)(p:List oN),
  SP P f2 t d nx=some (c,r,n2)->IY P w f1 t cs=some (d,p)->CE w nx n2 c r cs
 |0,_,_,_,_,_,_,_,_,_,h,_=>by cases h
 |_+1,0,_,_,_,_,_,_,_,_,_,h'=>by cases h'
 |f2+1,f1+1,t,d,nx,c,r,n2,cs,p,h,h'=>by
  have ih:=λt d nx c r n2 cs=>TC (P:=P) (w:=w) f2 f1 t d nx c r n2 cs
  simp only[SP]at h
  unfold IY l9 at h'
  cases ht:P.underlying t with
  |none=>rw[ht]at h;cases h
  |some td=>
  rw[ht]at h h'
  cases td<;>simp only[reduceCtorEq]at h
  case bool=>
   split at h
   .simp only[zb,eH]at h
    obtain⟨rfl,rfl,rfl⟩:=h
    cases cs with
    |nil=>cases h'
    |cons v l=>
     cases l with
     |cons _ _=>cases v<;>cases h'
     |nil=>
      cases v<;>first|(cases h';done)|(cases h';exact CE.none (λρ=>rfl))
   .cases h
  case int k=>
   split at h
   .rename_i k2 n
    cases hk:WE k2 k with
    |false=>rw[hk]at h;cases h
    |true=>
     rw[hk,cond_true]at h
     simp only[zb,eH]at h
     obtain⟨rfl,rfl,rfl⟩:=h
     cases cs with
     |nil=>cases h'
     |cons v l=>
      cases l with
      |cons _ _=>cases v<;>cases h'
      |nil=>
       cases v<;>first|(cases h';done)|skip
       simp only at h'
       split at h'
       .rename_i hc
        obtain⟨rfl,_⟩:=hc
        cases h'
        exact CE.none (λρ=>rfl)
       .cases h'
   .cases h
  case string=>
   split at h
   .rename_i bs
    simp only[zb,eH]at h
    obtain⟨rfl,rfl,rfl⟩:=h
    cases cs with
    |nil=>cases h'
    |cons v l=>
     cases l with
     |cons _ _=>cases v<;>cases h'
     |nil=>
      cases v<;>first|(cases h';done)|skip
      rename_i s0
      simp only at h'
      split at h'
      .cases h'
       refine CE.none (λρ=>?_)
       have:yH (s0.data.toList.map zcs)=s0:=by
        apply ByteArray.ext
        simp[yH,Function.comp_def]
       simp[yG,yx,this]
      .cases h'
   .cases h
  case slice e=>
   split at h
   .simp only[zb,eH]at h
    obtain⟨rfl,rfl,rfl⟩:=h
    cases cs with
    |nil=>cases h'
    |cons v l=>
     cases l with
     |cons _ _=>
      exfalso
      cases v<;>first|(cases h';done)|skip
      rename_i a len cap
      cases a<;>first|(cases h';done)|(cases len<;>cases cap<;>cases h')
     |nil=>
      cases v<;>first|(cases h';done)|skip
      rename_i a len cap
      cases a with
      |none=>
       cases len with
       |succ _=>cases h'
       |zero=>
        cases cap with
        |succ _=>cases h'
        |zero=>exact CE.none (λρ=>rfl)
      |some a=>
       simp only at h'
       split at h'
       .simp only[zu,zh]at h'
        obtain⟨_,_,_,_,h'⟩:=h'
        cases h'
       .cases h'
   .rename_i d0 elems spare
    cases y:zD (P.cellsOf e) 0 with
    |true=>rw[y]at h;cases h
    |false=>
     rw[y,cond_false]at h
     have y:P.cellsOf e≠0:=λe'=>by rw[e']at y;cases y
     split at h
     .rename_i c1 r1 n1 hl
      simp only[zb,eH]at h
      obtain⟨rfl,rfl,rfl⟩:=h
      cases cs with
      |nil=>cases h'
      |cons v l=>
       cases l with
       |cons _ _=>
      exfalso
      cases v<;>first|(cases h';done)|skip
      rename_i a len cap
      cases a<;>first|(cases h';done)|(cases len<;>cases cap<;>cases h')
       |nil=>
        cases v<;>first|(cases h';done)|skip
        rename_i a len cap
        cases a with
        |none=>cases len<;>cases cap<;>cases h'
        |some a=>
         simp only at h'
         split at h'
         .rename_i hcap
          simp only[zu,zh,if_true]at h'
          obtain⟨S,E,ys,Z,h'⟩:=h'
          simp only[eH,zer]at h'
          obtain⟨⟨F,k2⟩,_⟩:=h'
          have W:=(Cv E).length
          have U:=(Cv Z).length
          simp only[List.length_range]at W U
          let piece:Nat->List zg:=λi=>((w.cells? 0 (a.add (i*P.cellsOf e)) (P.cellsOf e))).getD []
          have V:JS (λi(x:l7 Unit×List oN)=>w.cells? 0 (a.add (i*P.cellsOf e)) (P.cellsOf e)=some (piece i)/\IY P w f1 e (piece i)=some x) (ev len) S:=
           K5 (Cv E) (λi x s=>by
            simp only[zu]at s
            obtain⟨l,C,z⟩:=s
            simp only[piece,C,eE]
            exact⟨trivial,z⟩)
          have M:JS (λi(x:l7 Unit×List oN)=>w.cells? 0 (a.add (i*P.cellsOf e)) (P.cellsOf e)=some (piece i)/\IY P w f1 e (piece i)=some x) ((ev (cap-len)).map (len+·)) ys:=by
           have:=K5 (Cv Z) (R':=λj(x:l7 Unit×List oN)=>w.cells? 0 (a.add ((len+j)*P.cellsOf e)) (P.cellsOf e)=some (piece (len+j))/\IY P w f1 e (piece (len+j))=some x) (λi x s=>by
            simp only[zu]at s
            obtain⟨l,C,z⟩:=s
            simp only[piece,C,eE]
            exact⟨trivial,z⟩)
           have:=this.maps (R':=λi(x:l7 Unit×List oN)=>w.cells? 0 (a.add (i*P.cellsOf e)) (P.cellsOf e)=some (piece i)/\IY P w f1 e (piece i)=some x) (g:=(len+·)) (k:=id) (λi x h=>h)
           simpa using this
          have o:=JS.append M V
          have G:ev len++(ev (cap-len)).map (len+·)=ev cap:=by
           have:=List.range_add (n:=len) (m:=cap-len)
           rw[show len+(cap-len)=cap by omega]at this
           exact this.symm
          rw[G]at o
          have I:=Ou (w:=w) (f:=SP P f2 e) (T:=λcs d=>∃p,IY P w f1 e cs=some (d,p)) (λd nx c r n2 cs C ⟨p,z⟩=>ih e d nx c r n2 cs p C z)
           (css:=(ev cap).map piece) (ds:=d0::elems++spare) (by
            have:=o.maps (g:=piece) (k:=(·.1)) (R':=λcs d=>∃p,IY P w f1 e cs=some (d,p)) (λi x s=>⟨x.2,s.2⟩)
            rw[ip,F,k2]at this
            exact this) hl
          have N:len=elems.length+1:=by
           have:=congrArg zd5 F
           simp only[l8,List.length_cons]at this
           omega
          have Q:cap-len=spare.length:=by
           have:=congrArg zd5 k2
           simp only[l8]at this
           omega
          have q:∀i,i<cap->w.cells? 0 (a.add (i*P.cellsOf e)) (P.cellsOf e)=some (piece i):=by
           intro i s
           exact Nx o i (by simpa using s)
          have A:a.spot=none:=by
           have h0:=q 0 (by omega)
           obtain⟨Y,R⟩:=Mo h0
           have O:0<(piece 0).length:=by omega
           have:=R 0 _ (zc O)
           simp only[Nat.zero_mul]at this
           unfold zS at this
           split at this
           .split at this
            .cases this
            .rename_i hs
             cases hq:a.spot with
             |none=>rfl
             |some x=>simp[Addr.add,hq]at hs
           .cases this
          obtain⟨B,D,sp⟩:=a
          simp only at A
          subst A
          obtain⟨q1,X,β,q3⟩:=I
          refine⟨by omega,λb l hb=>?_,λb=>if b=nx then(B,D)else β b,λρ hρ=>?_⟩
          .rcases zO.1 hb with H|hb
           .cases H;omega
           .have:=X b l hb;omega
          .obtain⟨Y,R⟩:=q3 ρ (λb C z=>by
            have:=hρ b (by omega) z
            simp only[if_neg (show¬b=nx by omega)]at this
            exact this)
           have J:=hρ nx (zn _) (by omega)
           simp only[if_true]at J
           refine⟨by simp[yG,yx,J,Ren.cap,N,<-Q];omega,λb l hb=>?_⟩
           rcases zO.1 hb with H|hb
           .cases H
            refine⟨_,Y,λj v hv=>?_⟩
            simp only[if_true]
            exact Ts (p:=λj v=>w.cell? ⟨B,D+j,none⟩=some v) (λi s=>(Mo (q i s)).1) (λi s j v hv=>by
             have:=(Mo (q i s)).2 j v hv
             rw[zcC,zcC]at this
             rw[show D+(i*P.cellsOf e+j)=D+i*P.cellsOf e+j by omega]
             exact this) j v hv
           .obtain⟨L,H,e2⟩:=R b l hb
            refine⟨L,H,?_⟩
            simp only[if_neg (show¬b=nx by have:=(X b l hb).1;omega)]
            exact e2
         .cases h'
     .cases h
   .cases h
  case array n e=>
   split at h
   .rename_i ds
    cases y:zD (n*P.cellsOf e) (P.cellsOf t)with
    |false=>rw[y]at h;cases h
    |true=>
     rw[y,cond_true]at h
     have y:=oF y
     simp only at h'
     split at h'
     .rename_i hlen
      simp only[zh]at h'
      obtain⟨S,E,h'⟩:=h'
      simp only[eH,zcr]at h'
      obtain⟨F,_⟩:=h'
      have o:=Cv E
      have:=Ou (w:=w) (f:=SP P f2 e) (T:=λcs d=>∃p,IY P w f1 e cs=some (d,p)) (λd nx c r n2 cs C ⟨p,z⟩=>ih e d nx c r n2 cs p C z)
       (css:=(ev n).map λi=>(cs.drop (i*P.cellsOf e)).take (P.cellsOf e)) (ds:=ds) ?_ h
      .rw[VC n cs (by rw[hlen,y])]at this
       exact this
      .rw[<-F]
       exact o.maps (λi x s=>⟨x.2,s⟩)
     .cases h'
   .cases h
  case struct fs=>
   split at h
   .rename_i ds
    cases y:Mv P 0 fs.toList (P.cellsOf t)with
    |false=>rw[y]at h;cases h
    |true=>
     rw[y,cond_true]at h
     simp only at h'
     split at h'
     .rename_i hlen
      simp only[zh]at h'
      obtain⟨S,E,h'⟩:=h'
      simp only[eH,zcr]at h'
      obtain⟨F,_⟩:=h'
      have o:=Cv E
      have:=SI (P:=P) (w:=w) (f:=SP P f2) (T:=λt cs d=>∃p,IY P w f1 t cs=some (d,p)) (λt d nx c r n2 cs C ⟨p,z⟩=>ih t d nx c r n2 cs p C z) (cs:=cs)
       fs.toList ds 0 nx c r n2 (by rw[hlen];exact y) ?_ h
      .simpa using this
      .rw[<-F]
       have:=o.maps (g:=id) (R':=λ(fd:ib) d=>∃p,IY P w f1 fd.type ((cs.drop fd.offset).take (P.cellsOf fd.type))=some (d,p)) (λi x s=>⟨x.2,s⟩)
       simpa using this
     .cases h'
   .cases h
section
variable{P:zZ}
end
def Jw(g:Nat)(c:List CV)(r:List (Nat×List CV)):List (Nat×Sf):=(g,.row c false 0 1 0)::r.map λx=>(x.1,.row x.2 false 0 1 0)
def TY(G n2:Nat)(β:Nat->Nat×Nat)(v:Nat->Option Wi):Ren:=⟨λb=>if b<G then some (b,0)else if b<n2 then some (β b)else none,λi=>if i=0 then some 0 else none,v⟩
def Qx(r:List (Nat×List CV)):Bool:=r.all λx=> !x.2.isEmpty&&Nat.blt x.2.length lim
theorem KE{h:Tr Bp}{r:List (Nat×Sf)}(hb:∀b l,(b,l)∈r->b<lim){b:Nat}{o:Bp}(hg:(NQ h r).get b=some o)(hn:h.get b=none):∃l,(b,l)∈r/\o=l.obj:=by
 rcases KU r h hb b o hg with a|⟨_,a⟩
 .exact a
 .rw[hn]at a;cases a
theorem Hs{P:zZ}{w:ze}{n:String}{d:l7 Unit}:∀{laid:List (String×l7 Unit)}{ps:List oN},DataW.LaidVars P w laid ps->(n,d)∈laid->∃g t cs fuel p,P.globalNamed n=some g/\(P.globals[g]?).map (·.type)=some t/\w.var? P n=some cs/\l9 (λ_=>()) P w 0 (λ_=>true) false fuel t cs.toList=some (d,p)
 |[],_,_,h=>by cases h
 |(n',d')::r,ps,hl,h=>by
  obtain⟨g,t,cs,fuel,p,q,h1,h2,h3,h4,h5,_⟩:=hl;rcases zO.1 h with e|h
  .cases e;exact⟨g,t,cs,fuel,p,h1,h2,h3,h4⟩
  .exact Hs h5 h
theorem Vb{P:zZ}{w:ze}{laid:List (String×l7 Unit)}(hm:laidMet P laid w){n:String}{d:l7 Unit}(hd:(n,d)∈laid){g:Nat}{t:zL}(hgn:P.globalNamed n=some g)(hgt:(P.globals[g]?).map (·.type)=some t){fuel:Nat}{c:List CV}{r:List (Nat×List CV)}{n2:Nat}(hlay:SP P fuel t d P.globals.size=some (c,r,n2))(hfull:Qx r=true)(hlim:n2<lim)(hcl:c.length<lim)(v:Nat->Option Wi):∃β,Rel (TY P.globals.size n2 β v) (SW (Jw g c r) n2 1) w/\FE P (TY P.globals.size n2 β v)/\∀b,¬(SW (Jw g c r) n2 1).hasW b:=by
 obtain⟨ps,T,_⟩:=hm;obtain⟨g',t',k,f1,p,J,H,M,h4⟩:=Hs T hd;rw[hgn]at J;cases J;rw[hgt]at H;cases H;obtain⟨q1,Z,β,q3⟩:=TC (w:=w) fuel f1 t d _ c r n2 k.toList p hlay h4;have Y:g<P.globals.size:=by
  cases hq:P.globals[g]?with
  |none=>rw[hq]at hgt;cases hgt
  |some x=>exact(Array.getElem?_eq_some_iff.1 hq).1
 have f:∃q m,w.heap[g]?=some (.cells k q m):=by
  simp only[World.var?,hgn,iG]at M;split at M
  .rename_i c2 q m hq;cases M;exact⟨q,m,hq⟩
  .cases M
 obtain⟨q,m,f⟩:=f;obtain⟨g1,g2⟩:=q3 (TY P.globals.size n2 β v) (λb J H=>by simp only[TY,if_neg (show¬b<P.globals.size by omega),if_pos H]);have hb:∀b l,(b,l)∈Jw g c r->b<n2:=by
  intro b l h;rcases zO.1 h with e|h
  .cases e;omega
  .obtain⟨x,A,e⟩:=lQ.1 h;cases e;exact(Z x.1 x.2 A).2
 have W:∀b l,(b,l)∈r->l≠[]/\l.length<lim:=by intro b l h;have:=List.all_eq_true.1 hfull (b,l) h;simp only[zo,Bool.not_eq_true']at this;refine⟨λe=>?_,yF this.2⟩;rw[e]at this;cases this.1
 have E:∀(a:List CV)(L:List zg)(B D:Nat)(k:Array zg)(q:zL)(m:Nat×Nat),a.length<lim->yG (TY P.globals.size n2 β v) a=some L->(∀(j:Nat)(V:zg),L[j]?=some V->k[D+j]?=some V)->Bt (TY P.globals.size n2 β v) D (Sf.row a false 0 1 0).obj (.cells k q m):=by intro a L B D k q m G X Q;refine⟨λi N=>?_,.inr ⟨by omega,0,rfl,λj hj=>by omega⟩,λh=>absurd rfl h⟩;have hgt:=ED a .leaf 0 i (by unfold lim at G;omega);rw[if_pos ⟨zbN _,by omega⟩,Nat.sub_zero]at hgt;have I:a[i]?=some a[i]:=zc N;obtain⟨V,hV,S⟩:=AX X i _ I;exact⟨a[i],V,by rw[Nat.add_zero,hgt,I],hV,by rw[Nat.add_comm];exact Q i V S,λh=>by cases h⟩
 have z:∀b,¬(SW (Jw g c r) n2 1).hasW b:=by
  rintro b ⟨o,y,O⟩;obtain⟨l,s,rfl⟩:=KE (λb l h=>by have:=hb b l h;omega) y rfl;rcases zO.1 s with e|s
  .cases e;cases O
  .obtain⟨x,A,e⟩:=lQ.1 s;cases e;cases O
 refine⟨β,⟨λb o y=>?_,λb b' B D D' J H O=>?_,λb C=>?_,λi N=>?_⟩,λg hg=>by simp only[TY,if_pos hg],z⟩
 .obtain⟨l,s,rfl⟩:=KE (λb l h=>by have:=hb b l h;omega) y rfl;rcases zO.1 s with e|s
  .cases e;refine⟨g,0,_,by simp only[TY,if_pos Y],f,E c k.toList g 0 k q m hcl g1 (λj V hj=>?_)⟩;rw[Nat.zero_add,<-Array.getElem?_toList];exact hj
  .obtain⟨x,A,e⟩:=lQ.1 s;cases e;obtain⟨L,k1,k2⟩:=g2 x.1 x.2 A;obtain⟨p1,p2⟩:=Z x.1 x.2 A;obtain⟨r1,r2⟩:=W x.1 x.2 A;have U:=Af k1;have F:0<L.length:=by rw[U];exact List.length_pos_iff.2 r1
   have R:=k2 0 _ (zc F);unfold zS at R;split at R
   .rename_i c2 t2 z2 hq;refine⟨(β x.1).1,(β x.1).2,_,by simp only[TY,if_neg (show¬x.1<P.globals.size by omega),if_pos p2],hq,E x.2 L (β x.1).1 (β x.1).2 c2 t2 z2 r2 k1 (λj V hj=>?_)⟩;have:=k2 j V hj;simp only[zS,hq]at this;simpa using this
   .cases R
 .exfalso;exact O.elim (z b) (z b')
 .have C:n2<=b:=C;simp only[TY];rw[if_neg (by omega),if_neg (by omega)]
 .have N:1<=i:=N;simp only[TY];rw[if_neg (by omega)]
end Go.Ev
