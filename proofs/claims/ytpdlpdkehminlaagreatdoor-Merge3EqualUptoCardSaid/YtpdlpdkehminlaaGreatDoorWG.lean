/-
  Part of the proof: Identifiers: the plain laws.
-/
import Derived.Test.YtpdlpdkehminlaaGreatDoorWF
import Derived.Laws.ResultCell
set_option linter.all false
set_option maxRecDepth 100000
set_option maxHeartbeats 20000000
open And renaming imp->lY
open Array renaming getD->zbz,getElem?_eq_some_iff->eh,replicate->eD
open Bool renaming false_eq_true->zH
open Decidable renaming byContradiction->zbc
open Go renaming Act->lH,Addr->oh,Calls->zM,Exit->zaO,Value->zg,World->ze,frozen_of_row->zk,heap_alloc_new->zx,heap_setCell_same->zA,mem_ready->zd6,undef->zl,wpOp_step->oQ
open Go.Callee renaming value->zdE
open Go.Departure renaming lateStores->zbQ
open Go.Ground renaming chain->zbV,data->iz,phase->iA,textOnly->zbd
open Go.Operand renaming func->zdt,tmp->iL
open Go.Region renaming Mode->zcj,binds->zR,ready->eu
open Go.Value renaming slice->eU
open Go.World.ownsRow renaming lt->zE
open List renaming count_pos_iff->zcN,getElem?_append_left->eI,getElem?_append_right->en,getElem?_eq_getElem->zc,getElem?_eq_some_iff->zm,getElem_inj->zdd,getElem_take->zc4,length_take->iR,map_append->ip,mem_append->eZ,mem_append_left->zaF,mem_iff_getElem->zcq,mem_of_getElem?->zq,mem_range->lD,mem_singleton->iI,range->ev,take_add_one->z6
open Nat renaming le_refl->zn,sub_self->ls,zero_le->zbN
open Option renaming isSome_none->zad
open Option.some renaming inj->eF,injEq->zb
open Or renaming inl->zdT,inr->eY
namespace Go.Proofs
open Classical
def BR(g:Int->Option Int)(n0:Int):Nat->List Int×Int
 |0=>([],n0)
 |x+1=>match g x with
  |some o=>((BR g n0 x).1++[o],(BR g n0 x).2)
  |none=>((BR g n0 x).1++[(BR g n0 x).2],(BR g n0 x).2+1)
theorem CY{g:Int->Option Int}{n0 o:Int}{x:Nat}(h:g x=some o):BR g n0 (x+1)=((BR g n0 x).1++[o],(BR g n0 x).2):=by rw[BR,h]
theorem Cw{g:Int->Option Int}{n0:Int}{x:Nat}(h:g x=none):BR g n0 (x+1)=((BR g n0 x).1++[(BR g n0 x).2],(BR g n0 x).2+1):=by rw[BR,h]
theorem BI(g:Int->Option Int)(n0:Int):∀x,(BR g n0 x).1.length=x
 |0=>rfl
 |x+1=>by
  have ih:=BI g n0 x;cases h:g x with
  |some o=>rw[CY h];simp[ih]
  |none=>rw[Cw h];simp[ih]
theorem Ct(g:Int->Option Int)(n0:Int):∀x,n0<=(BR g n0 x).2/\(BR g n0 x).2<=n0+x
 |0=>by simp[BR]
 |x+1=>by
  have ih:=Ct g n0 x;cases h:g x with
  |some o=>rw[CY h];simp only;omega
  |none=>rw[Cw h];simp only;omega
theorem Ix(g:Int->Option Int)(n0:Int){y:Nat}:∀x,y<x->(BR g n0 x).1[y]?=some ((g y).getD (BR g n0 y).2)
 |0,h=>absurd h (by omega)
 |x+1,h=>by
  have hl:=BI g n0 x;by_cases e:y=x
  .subst e;cases hg:g y with
   |some o=>rw[CY hg];simp only;rw[en (by omega),hl,ls];rfl
   |none=>rw[Cw hg];simp only;rw[en (by omega),hl,ls];rfl
  .have ih:=Ix g n0 (y:=y) x (by omega);cases hg:g x with
   |some o=>rw[CY hg];simp only;rw[eI (by omega)];exact ih
   |none=>rw[Cw hg];simp only;rw[eI (by omega)];exact ih
structure PM(rs:List An)(g:Int->Option Int)(nb:Nat):Prop where
 len:rs.length<=1000
 par:∀(x:Nat)(r:An),rs[x]?=some r->-1<=r.parent/\r.parent<x
 fit:∀(x:Nat)(o:Int),g x=some o->0<=o/\o<nb
theorem ET(t:T):∀(x:Nat)(r:An),(t.rows 0 (-1))[x]?=some r->-1<=r.parent/\r.parent<x:=by
 intro x r a;have l:x<t.size:=by have:=(zm.1 a).1;rwa [T.length_rows]at this
 obtain⟨q,u,b,h⟩:=Seg.find t _ 0 (-1) (Seg.root t) x (zbN _) (by omega);obtain⟨k,s,g,j⟩:=u;have e:=b.row;rw[a]at e;cases e;simp only;rcases h with rfl|⟨y,n,rfl,_,m,_⟩
 .obtain⟨d,i,f,c⟩:=t;rw[(Seg.root _).row]at a;simp only[zb,An.mk.injEq]at a;omega
 .omega
structure AQ(rs:List An)(g:Int->Option Int)(tw:Int->Option Int)(x:Nat):Prop where
 idem:∀i j,tw i=some j->j=i
 seen:∀i:Int,(tw i).isSome->∃(y:Nat)(p:Int)(t:T)(c:Nat),y<x/\Seg rs y p t/\g y=none/\(GQ rs g y).2=true/\c∈t.comp g y/\i=c
 done:∀(y:Nat)(p:Int)(t:T),y<x->Seg rs y p t->g y=none->(GQ rs g y).2=true->∀c∈t.comp g y,tw (c:Nat)=some (c:Int)
theorem AQ.start(rs:List An)(g:Int->Option Int):AQ rs g (λ_=>none) 0:=⟨λi j h=>(by simp at h),λi h=>(by simp at h),λy p t h=>absurd h (by omega)⟩
theorem EQ{rs:List An}{g:Int->Option Int}{x:Nat}(h:(GQ rs g x).2=true):g x=none/\∃r,rs[x]?=some r/\(r.parent<0\/(g r.parent).isSome=true):=by
 unfold GQ at h;cases hg:g x with
 |some o=>rw[hg]at h;simp at h
 |none=>
  rw[hg]at h;cases hr:rs[x]?with
  |none=>rw[hr]at h;simp at h
  |some r=>
   rw[hr]at h;simp only[zad,zH,if_false]at h;refine⟨rfl,r,rfl,?_⟩;by_cases a:r.parent<0
   .exact .inl a
   .rw[if_neg a]at h;exact .inr h
theorem AQ.fresh{rs:List An}{g tw:Int->Option Int}{x:Nat}(h:AQ rs g tw x)(ht:(GQ rs g x).2=true):tw x=none:=by
 cases hx:tw x with
 |none=>rfl
 |some j=>
  obtain⟨y,p,t,c,q,i,d,_,o,e⟩:=h.seen x (by rw[hx];rfl);have e:x=c:=by omega
  subst e;obtain⟨l,r,m,a⟩:=EQ ht;obtain⟨_,k⟩:=T.comp_parent g t rs y p i d x o;rcases k with rfl|⟨z,s,b,f,n⟩
  .omega
  .rw[m]at b;cases b;rw[f,n]at a;rcases a with a|a
   .omega
   .cases a
theorem AQ.taken{rs:List An}{g tw:Int->Option Int}{x y:Nat}(h:AQ rs g tw x)(hy:y<x)(ht:(GQ rs g y).2=true){p:Int}{t:T}(hs:Seg rs y p t):tw y=some (y:Int):=h.done y p t hy hs (EQ ht).1 ht y (T.comp_self g t y)
theorem AQ.skip{rs:List An}{g tw:Int->Option Int}{x:Nat}(h:AQ rs g tw x)(ht:(GQ rs g x).2=false):AQ rs g tw (x+1):=by
 refine⟨h.idem,λi hi=>?_,λy p t a hs hg htop=>?_⟩
 .obtain⟨y,p,t,c,a,r⟩:=h.seen i hi;exact⟨y,p,t,c,by omega,r⟩
 .by_cases e:y=x
  .subst e;rw[ht]at htop;cases htop
  .exact h.done y p t (by omega) hs hg htop
theorem Seg.same{rs:List An}{x:Nat}{p q:Int}{t u:T}(h1:Seg rs x p t)(h2:Seg rs x q u)(g:Int->Option Int):∀c,c∈t.comp g x->c∈u.comp g x:=by
 have:∀(t:T)(x:Nat)(p:Int),Seg rs x p t->∀(u:T)(q:Int),Seg rs x q u->∀c∈t.comp g x,c∈u.comp g x:=by
  refine T.ind λk s ga ks ih x p h1 u q h2 c hc=>?_;obtain⟨w,y,r,a⟩:=u;have e:=h1.row;rw[h2.row]at e;simp only[zb,An.mk.injEq]at e;obtain⟨_,_,_,_,o⟩:=e;rw[T.comp]at hc⊢;rcases List.mem_cons.1 hc with rfl|hc
  .exact List.mem_cons_self ..
  .obtain⟨j,v,h,n,i⟩:=T.mem_compL.1 hc;have d:=AM h (x+1);rw[<-o]at d;have f:j<a.length:=by have:=(zm.1 d).1;rwa [yK]at this
   have b:a[j]?=some a[j]:=zc f;rw[AM b]at d;have m:x+1+T.sizes (a.take j)=x+1+T.sizes (ks.take j):=by have:=eF d;omega
   refine List.mem_cons_of_mem _ (T.mem_compL.2 ⟨j,_,b,by rw[m];exact n,?_⟩);have l:=h2.kid b;rw[m]at l⊢;exact ih v (zq h) _ _ (h1.kid h) _ _ l c i
 exact this t x p h1 u q h2
theorem AQ.more{rs:List An}{g tw:Int->Option Int}{x:Nat}{p:Int}{t:T}(h:AQ rs g tw x)(ht:(GQ rs g x).2=true)(hs:Seg rs x p t):AQ rs g (gTw tw (t.comp g x)) (x+1):=by
 have f:=(EQ ht).1;refine⟨λi j hij=>?_,λi hi=>?_,λy q u k hs2 hg2 htop c b=>?_⟩
 .unfold gTw at hij;split at hij
  .exact(eF hij).symm
  .exact h.idem i j hij
 .unfold gTw at hi;split at hi
  .rename_i b;obtain⟨c,b,e⟩:=b;exact⟨x,p,t,c,by omega,hs,f,ht,b,e⟩
  .obtain⟨y,p,t,c,k,r⟩:=h.seen i hi;exact⟨y,p,t,c,by omega,r⟩
 .unfold gTw;by_cases a:∃d∈t.comp g x,((c:Nat):Int)=((d:Nat):Int)
  .rw[if_pos a]
  .rw[if_neg a];by_cases e:y=x
   .subst e;exact absurd ⟨c,Seg.same hs2 hs g c b,rfl⟩ a
   .exact h.done y q u (by omega) hs2 hg2 htop c b
theorem AQ.all{t:T}{g tw:Int->Option Int}(h:AQ (t.rows 0 (-1)) g tw t.size):∀y:Nat,y<t.size->g y=none->tw y=some (y:Int):=by
 have m:∀n y:Nat,y<=n->y<t.size->g y=none->∃(x:Nat)(p:Int)(u:T),x<t.size/\Seg (t.rows 0 (-1)) x p u/\g x=none/\(GQ (t.rows 0 (-1)) g x).2=true/\y∈u.comp g x:=by
  intro n;induction n with
  |zero=>
   intro y E b a;obtain rfl:y=0:=by omega
   refine⟨0,-1,t,b,Seg.root t,a,?_,T.comp_self g t 0⟩;obtain⟨k,s,G,I⟩:=t;unfold GQ;rw[a,(Seg.root _).row];rfl
  |succ n ih=>
   intro y E b a;by_cases A:y<=n
   .exact ih y A b a
   obtain⟨q,u,j,H⟩:=Seg.find t _ 0 (-1) (Seg.root t) y (zbN _) (by omega);have D:∃r,(t.rows 0 (-1))[y]?=some r/\r.parent=q:=by obtain⟨k,s,G,I⟩:=u;exact⟨_,j.row,rfl⟩
   obtain⟨r,D,C⟩:=D;rcases H with rfl|⟨z,J,e,_,L,l,B⟩
   .omega
   .subst e;by_cases f:g z=none
    .obtain⟨x,p,v,w,i,d,c,F⟩:=ih z (by omega) (by omega) f;exact⟨x,p,v,w,i,d,c,T.comp_kid g v _ x p i z F J y l B a⟩
    .refine⟨y,z,u,b,j,a,?_,T.comp_self g u y⟩;unfold GQ;rw[a,D];simp only[zad,zH,if_false];rw[C,if_neg (by omega)];simp only;cases hgz':g z with
     |none=>exact absurd hgz' f
     |some o=>rfl
 intro y E a;obtain⟨x,p,u,w,j,d,c,B⟩:=m y y (zn _) E a;exact h.done x p u w j d c y B
open Go.RowKit Go.Maps Go.MapKept
theorem Sj{P:Program}{md:zcj}{ops:Array Oper}{Q:zaO->lH->ze->Prop}(I:(Nat->Prop)->lH->ze->Prop)(hord:((ev ops.size).all λi=>((ops[i]?).map λo=>o.after.all λe=>decide (e.on<i)).getD true)=true)(hs:∀(L:Nat->Prop)(i:Nat)(o:Oper)(a:lH)(w:ze),ops[i]?=some o->¬L i->(∀e∈o.after,zR md e=true->L e.on)->I L a w->wpOp P ops Q i (I (λj=>j=i\/L j)) a w)(hd:∀(L:Nat->Prop)(a:lH)(w:ze),(∀i,i<ops.size->L i)->I L a w->Q .normal a w):∀(fuel:Nat)(listed:Array Bool)(a:lH)(w:ze),listed.size=ops.size->listed.toList.count false<=fuel->I (λj=>listed.getD j false=true) a w->wpAny P md ops Q fuel listed a w:=by
 have c:∀(l:Array Bool)(i:Nat),i<l.size->(l.getD i true=l.getD i false):=by intro l i h;simp[zbz,h]
 have p:∀listed:Array Bool,listed.size=ops.size->eu md ops listed=[]->∀i,i<ops.size->listed.getD i false=true:=by
  intro listed f r i;induction i using Nat.strongRecOn with
  |ind i ih=>
   intro d;refine zbc λhne=>?_;have m:listed.getD i false=false:=by simpa using hne
   obtain⟨o,k⟩:∃o,ops[i]?=some o:=⟨ops[i],Array.getElem?_eq_getElem d⟩
   have:i∈eu md ops listed:=by
    rw[zd6];refine⟨by rw[c _ _ (by omega)];exact m,o,k,λe s _=>?_⟩;have g:=List.all_eq_true.1 hord i (lD.2 d);rw[k]at g;simp only[Option.map_some,Option.getD_some]at g;have y:=Array.all_eq_true_iff_forall_mem.1 g e s;have A:e.on<i:=by simpa using y
    exact ih e.on A (by omega)
   rw[r]at this;cases this
 intro fuel;induction fuel with
 |zero=>
  intro listed a w f C q;have r:∀i,i<ops.size->listed.getD i false=true:=by
   intro i d;refine zbc λhne=>?_;have m:listed.getD i false=false:=by simpa using hne
   have v:false∈listed.toList:=by
    have z:i<listed.size:=by omega
    have:listed[i]=false:=by simpa[zbz,z]using m
    rw[<-this];simp
   have:=zcN.2 v;omega
  refine⟨?_,hd _ a w r q⟩;rw[List.eq_nil_iff_forall_not_mem];intro i d;rw[zd6]at d;obtain⟨g,o,k,_⟩:=d;have n:i<ops.size:=(eh.1 k).1;have:=r i n;rw[c _ _ (by omega),this]at g;cases g
 |succ fuel ih=>
  intro listed a w f C q;refine⟨λh=>hd _ a w (p listed f h) q,λi d=>?_⟩;rw[zd6]at d;obtain⟨g,o,k,y⟩:=d;have n:i<ops.size:=(eh.1 k).1;have b:i<listed.size:=by omega
  have m:listed.getD i false=false:=by rw[<-c _ _ b];exact g
  refine wpOp_mono (λa' w' h=>ih _ a' w' (by simp[f]) ?_ ?_) (hs _ i o a w k (by rw[m];simp) y q)
  .have x:i<listed.toList.length:=by simpa using b
   have s:listed.toList[i]=false:=by simpa[zbz,b]using m
   rw[Array.toList_setIfInBounds,List.count_set x,s];have v:false∈listed.toList:=by rw[<-s];exact List.getElem_mem _
   have:=zcN.2 v;show listed.toList.count false-1+0<=fuel;omega
  .have B:(λj=>(listed.setIfInBounds i true).getD j false=true)=λj=>j=i\/listed.getD j false=true:=by
    funext j;refine propext ?_;by_cases t:j=i
    .subst t;simp[zbz,b]
    .rw[getD_set_ne false (Ne.symm t)];simp[t]
   rw[B];exact h
theorem RJ{P:Program}{md:zcj}{ops:Array Oper}{Q:zaO->lH->ze->Prop}{a:lH}{w:ze}(I:(Nat->Prop)->lH->ze->Prop)(hord:((ev ops.size).all λi=>((ops[i]?).map λo=>o.after.all λe=>decide (e.on<i)).getD true)=true)(hs:∀(L:Nat->Prop)(i:Nat)(o:Oper)(a:lH)(w:ze),ops[i]?=some o->¬L i->(∀e∈o.after,zR md e=true->L e.on)->I L a w->wpOp P ops Q i (I (λj=>j=i\/L j)) a w)(hd:∀(L:Nat->Prop)(a:lH)(w:ze),(∀i,i<ops.size->L i)->I L a w->Q .normal a w)(h0:I (λ_=>False) a w):wpAny P md ops Q ops.size (eD ops.size false) a w:=by
 refine Sj I hord hs hd _ _ a w (by simp) (by rw[Array.toList_replicate,List.count_replicate];split<;>omega) ?_;have:(λj=>(eD ops.size false).getD j false=true)=λ_=>False:=by funext j;refine propext ⟨λh=>?_,λh=>h.elim⟩;rw[Array.getD_eq_getD_getElem?,Array.getElem?_replicate]at h;split at h<;>cases h
 rw[this];exact h0
structure DP(w:ze)(B hi:Nat)(p:Option oh)(c M n:Nat)(rs:List An)(g:Int->Option Int):Prop where
 rows:yP w B (λb=>hi<=b) (.slice p rs.length c) rs
 own:∀k,(eU p rs.length c).ownBlock=some k->k<hi
 map:Am w M n g
 lo:B<=M
 up:M<hi
 top:hi<=w.heap.size
theorem DP.at{w:ze}{B hi:Nat}{p:Option oh}{c M n:Nat}{rs:List An}{g:Int->Option Int}(h:DP w B hi p c M n rs g):GH w p c M n rs g:=⟨h.rows.val,h.map⟩
theorem DP.new{w:ze}{B:Nat}{p:Option oh}{c M n:Nat}{rs:List An}{g:Int->Option Int}(h1:yP w B (λ_=>False) (.slice p rs.length c) rs)(h2:Am w M n g)(h3:B<=M):DP w B w.heap.size p c M n rs g:=by
 refine⟨h1.weaken λb hb hB=>?_,λk hk=>?_,h2,h3,h2.lt,zn _⟩
 .omega
 .obtain⟨d,f,a,_⟩:=h1;exact(zE a k hk).2
theorem DP.grown{w w':ze}{B hi:Nat}{p:Option oh}{c M n:Nat}{rs:List An}{g:Int->Option Int}{row:Option Nat}(h:DP w B hi p c M n rs g)(hg:w.grownBy w' row)(hr:∀k,row=some k->k<B\/hi<=k):DP w' B hi p c M n rs g:=by
 have b:Am w' M n g:=Ae.block h.map (hg.block _ (by have:=h.up;have:=h.top;omega) (λe=>by have:=hr M e.symm;have:=h.lo;have:=h.up;omega));have a:hi<=w'.heap.size:=Nat.le_trans h.top hg.size;cases hrow:row with
 |none=>subst hrow;exact⟨h.rows.grown hg (by cases(eU p rs.length c).ownBlock<;>simp) (λk e=>by cases e),h.own,b,h.lo,h.up,a⟩
 |some k=>
  subst hrow;rcases hr k rfl with hk|hk
  .exact⟨h.rows.low hg hk,h.own,b,h.lo,h.up,a⟩
  .refine⟨h.rows.grown hg ?_ (λq e _=>by cases e;exact hk),h.own,b,h.lo,h.up,a⟩;cases ho:(eU p rs.length c).ownBlock with
   |none=>exact .inl rfl
   |some q=>refine .inr λe=>?_;have:=h.own q ho;cases e;omega
@[reducible]def CK:Array Oper:=#[{dst:=some 45,op:=Op.load 25 (iL 6),type:=25,pos:= "ident.go:73",after:=#[],guard:=none},{dst:=some 46,op:=Op.move (iL 3),type:=26,pos:= "ident.go:73",after:=#[],guard:=none},{dst:=some 47,op:=Op.call {callee:=zdE (zdt 35),args:=#[iL 45,iL 46],argTypes:=#[25,26]},type:=87,pos:= "ident.go:73",after:=#[{on:=0,ground:=iz},{on:=1,ground:=iz}],guard:=none},{dst:=some 48,op:=Op.load 25 (iL 7),type:=25,pos:= "ident.go:73",after:=#[],guard:=none},{dst:=some 49,op:=Op.move (iL 4),type:=26,pos:= "ident.go:73",after:=#[],guard:=none},{dst:=some 50,op:=Op.call {callee:=zdE (zdt 35),args:=#[iL 48,iL 49],argTypes:=#[25,26]},type:=87,pos:= "ident.go:73",after:=#[{on:=3,ground:=iz},{on:=4,ground:=iz},{on:=2,ground:=zbV}],guard:=none},{dst:=some 12,op:=Op.alloc 87,type:=0,pos:= "ident.go:73",after:=#[],guard:=none},{dst:=some 13,op:=Op.alloc 87,type:=0,pos:= "ident.go:73",after:=#[],guard:=none},{dst:=none,op:=Op.store 87 (iL 12) (iL 47),type:=0,pos:= "ident.go:73",after:=#[{on:=6,ground:=iz},{on:=2,ground:=iz},{on:=5,ground:=zbV},{on:=0,ground:=iA},{on:=1,ground:=iA},{on:=2,ground:=iA},{on:=3,ground:=zbd zbQ},{on:=4,ground:=zbd zbQ},{on:=5,ground:=zbd Departure.lateStoresUnsure},{on:=6,ground:=iA},{on:=7,ground:=iA}],guard:=none},{dst:=none,op:=Op.store 87 (iL 13) (iL 50),type:=0,pos:= "ident.go:73",after:=#[{on:=7,ground:=iz},{on:=5,ground:=iz},{on:=8,ground:=zbV},{on:=0,ground:=iA},{on:=1,ground:=iA},{on:=2,ground:=iA},{on:=3,ground:=iA},{on:=4,ground:=iA},{on:=5,ground:=iA},{on:=6,ground:=iA},{on:=7,ground:=iA},{on:=8,ground:=iA}],guard:=none}]
@[reducible]def Bo (x0 x1 x2 x5 x8 x9 x10 x11 x14 x15 x16 x17 x18 x19 x20 x21 x22 x23 x24 x25 x26 x27 x28 x29 x30 x31 x32 x33 x34 x35 x36 x37 x38 x39 x40 x41 x42 x43 x44 xl xr:zg) (al ar:oh) (v12 v13 v45 v46 v47 v48 v49 v50:zg):lH:={tmps:=#[x0,x1,x2,xl,xr,x5,(.pointer (some al)),(.pointer (some ar)),x8,x9,x10,x11,v12,v13,x14,x15,x16,x17,x18,x19,x20,x21,x22,x23,x24,x25,x26,x27,x28,x29,x30,x31,x32,x33,x34,x35,x36,x37,x38,x39,x40,x41,x42,x43,x44,v45,v46,v47,v48,v49,v50,zl,zl,zl,zl,zl,zl,zl,zl,zl,zl,zl,zl,zl,zl,zl,zl,zl,zl,zl,zl,zl,zl,zl,zl,zl,zl,zl,zl,zl,zl,zl,zl,zl,zl,zl,zl,zl,zl,zl,zl,zl,zl,zl,zl,zl,zl,zl,zl,zl,zl,zl,zl,zl,zl,zl,zl,zl,zl,zl,zl,zl,zl,zl,zl,zl,zl,zl,zl,zl,zl,zl,zl,zl,zl,zl,zl,zl,zl,zl,zl,zl,zl,zl,zl,zl,zl,zl,zl,zl,zl,zl,zl,zl,zl,zl,zl,zl,zl,zl,zl,zl,zl,zl,zl,zl,zl,zl,zl,zl,zl,zl,zl,zl,zl,zl,zl,zl,zl,zl,zl,zl,zl,zl,zl,zl,zl,zl,zl,zl,zl,zl,zl,zl,zl,zl,zl,zl,zl,zl,zl,zl,zl,zl,zl,zl,zl,zl,zl],defers:=[]}
@[reducible]def Ru (p:Option oh) (n c M:Nat):zg:=.agg #[.slice p n c,.map (some M)]
structure XC(w1:ze)(A:zg->zg->zg->zg->zg->zg->zg->zg->lH)(VL VR xl xr:zg)(nl nr:Nat)(rsl rsr:List An)(gl gr:Int->Option Int)(L:Nat->Prop)(a:lH)(w:ze)(v12 v13 v45 v46 v47 v48 v49 v50:zg)(B1 h1:Nat)(p1:Option oh)(c1 M1 B2 h2:Nat)(p2:Option oh)(c2 M2 b12 b13:Nat):Prop where
 act:a=A v12 v13 v45 v46 v47 v48 v49 v50
 bel:Below w1.heap.size w1 w
 k0:L 0->v45=VL
 k1:L 1->v46=xl
 k3:L 3->v48=VR
 k4:L 4->v49=xr
 k2:L 2->v47=Ru p1 rsl.length c1 M1/\DP w B1 h1 p1 c1 M1 nl rsl gl
 k5:L 5->v50=Ru p2 rsr.length c2 M2/\DP w B2 h2 p2 c2 M2 nr rsr gr
 k6:L 6->v12=.pointer (some ⟨b12,0,none⟩)/\w1.heap.size<=b12/\∃x y,w.heap[b12]?=some (.cells #[x,y] 87 (0,0))/\(L 8->x=.slice p1 rsl.length c1/\y=.map (some M1))
 k7:L 7->v13=.pointer (some ⟨b13,0,none⟩)/\w1.heap.size<=b13/\∃x y,w.heap[b13]?=some (.cells #[x,y] 87 (0,0))/\(L 9->x=.slice p2 rsr.length c2/\y=.map (some M2))
 d26:L 2->L 6->b12<B1\/h1<=b12
 d27:L 2->L 7->b13<B1\/h1<=b13
 d56:L 5->L 6->b12<B2\/h2<=b12
 d57:L 5->L 7->b13<B2\/h2<=b13
 d67:L 6->L 7->b12≠b13
 u8:L 8->L 2/\L 6
 u9:L 9->L 5/\L 7
theorem Tp(w:ze)(b:Nat)(x y u v:zg)(h:w.heap[b]?=some (.cells #[x,y] 87 (0,0))):((w.setCell ⟨b,0,none⟩ u).setCell ⟨b,1,none⟩ v).heap[b]?=some (.cells #[u,v] 87 (0,0)):=zA _ _ 1 _ _ _ (zA w _ 0 _ _ _ h)
theorem NC(w:ze)(b:Nat)(u v:zg):w.grownBy ((w.setCell ⟨b,0,none⟩ u).setCell ⟨b,1,none⟩ v) (some b):=yc (yn _ _ _ _) (yn _ _ _ _)
theorem yz{w:ze}{b:Nat}{o:Obj}(h:w.heap[b]?=some o):b<w.heap.size:=(eh.1 h).1
@[reducible]def Dz (w1:ze) (A:zg->zg->zg->zg->zg->zg->zg->zg->lH) (VL VR xl xr:zg) (nl nr:Nat) (rsl rsr:List An) (gl gr:Int->Option Int) (L:Nat->Prop) (a:lH) (w:ze):Prop:=∃v12 v13 v45 v46 v47 v48 v49 v50 B1 h1 p1 c1 M1 B2 h2 p2 c2 M2 b12 b13,XC w1 A VL VR xl xr nl nr rsl rsr gl gr L a w v12 v13 v45 v46 v47 v48 v49 v50 B1 h1 p1 c1 M1 B2 h2 p2 c2 M2 b12 b13
theorem Ux{w1:ze}{x0 x1 x2 x5 x8 x9 x10 x11 x14 x15 x16 x17 x18 x19 x20 x21 x22 x23 x24 x25 x26 x27 x28 x29 x30 x31 x32 x33 x34 x35 x36 x37 x38 x39 x40 x41 x42 x43 x44 xl xr VR:zg}{ar:oh}{tkl:Int}{tsl:ByteArray}{pgl pkl:Option oh}{ngl cgl nkl ckl:Nat}{bl:Nat}{nl nr:Nat}{rsl rsr:List An}{gl gr:Int->Option Int}{Q:zaO->lH->ze->Prop}(HB:∀W,Below w1.heap.size w1 W->W.cell? ⟨bl,0,none⟩=some (.int .i64 tkl)/\W.cell? ⟨bl,1,none⟩=some (.string tsl)/\W.cell? ⟨bl,2,none⟩=some (.slice pgl ngl cgl)/\W.cell? ⟨bl,3,none⟩=some (.slice pkl nkl ckl)){L:Nat->Prop}{a:lH}{w:ze}(_hp:∀e∈(CK[0]!).after,zR .any e=true->L e.on)(hn:¬L 0)(H:(Dz w1 (Bo x0 x1 x2 x5 x8 x9 x10 x11 x14 x15 x16 x17 x18 x19 x20 x21 x22 x23 x24 x25 x26 x27 x28 x29 x30 x31 x32 x33 x34 x35 x36 x37 x38 x39 x40 x41 x42 x43 x44 xl xr ⟨bl,0,none⟩ ar) (.agg #[.int .i64 tkl,.string tsl,.slice pgl ngl cgl,.slice pkl nkl ckl]) VR xl xr nl nr rsl rsr gl gr) L a w):wpOp Tryz.prog CK Q 0 ((Dz w1 (Bo x0 x1 x2 x5 x8 x9 x10 x11 x14 x15 x16 x17 x18 x19 x20 x21 x22 x23 x24 x25 x26 x27 x28 x29 x30 x31 x32 x33 x34 x35 x36 x37 x38 x39 x40 x41 x42 x43 x44 xl xr ⟨bl,0,none⟩ ar) (.agg #[.int .i64 tkl,.string tsl,.slice pgl ngl cgl,.slice pkl nkl ckl]) VR xl xr nl nr rsl rsr gl gr) (λj=>j=0\/L j)) a w:=by obtain⟨b,k,s,g,o,n,m,d,z,r,t,E,C,B,D,F,A,v,i,l,H⟩:=H;obtain rfl:=H.act;obtain⟨I,J,G,M⟩:=HB _ H.bel;refine oQ rfl (λK hK=>?_);simp only[Bo];go_simp;refine hK _ _ ?_;exact⟨b,k,_,g,o,n,m,d,z,r,t,E,C,B,D,F,A,v,i,l,{act:=rfl,bel:=H.bel,k0:=λ_=>rfl,k1:=λh=>H.k1 (h.resolve_left (by decide)),k3:=λh=>H.k3 (h.resolve_left (by decide)),k4:=λh=>H.k4 (h.resolve_left (by decide)),k2:=λh=>H.k2 (h.resolve_left (by decide)),k5:=λh=>H.k5 (h.resolve_left (by decide)),k6:=λh=>by obtain⟨f,c,x,y,q,p⟩:=H.k6 (h.resolve_left (by decide));exact⟨f,c,x,y,q,λh=>p (h.resolve_left (by decide))⟩,k7:=λh=>by obtain⟨f,c,x,y,q,p⟩:=H.k7 (h.resolve_left (by decide));exact⟨f,c,x,y,q,λh=>p (h.resolve_left (by decide))⟩,d26:=λh h'=>H.d26 (h.resolve_left (by decide)) (h'.resolve_left (by decide)),d27:=λh h'=>H.d27 (h.resolve_left (by decide)) (h'.resolve_left (by decide)),d56:=λh h'=>H.d56 (h.resolve_left (by decide)) (h'.resolve_left (by decide)),d57:=λh h'=>H.d57 (h.resolve_left (by decide)) (h'.resolve_left (by decide)),d67:=λh h'=>H.d67 (h.resolve_left (by decide)) (h'.resolve_left (by decide)),u8:=λh=>lY eY eY (H.u8 (h.resolve_left (by decide))),u9:=λh=>lY eY eY (H.u9 (h.resolve_left (by decide)))}⟩
theorem UT{w1:ze}{x0 x1 x2 x5 x8 x9 x10 x11 x14 x15 x16 x17 x18 x19 x20 x21 x22 x23 x24 x25 x26 x27 x28 x29 x30 x31 x32 x33 x34 x35 x36 x37 x38 x39 x40 x41 x42 x43 x44 xl xr VL:zg}{al:oh}{tkr:Int}{tsr:ByteArray}{pgr pkr:Option oh}{ngr cgr nkr ckr:Nat}{br:Nat}{nl nr:Nat}{rsl rsr:List An}{gl gr:Int->Option Int}{Q:zaO->lH->ze->Prop}(HB:∀W,Below w1.heap.size w1 W->W.cell? ⟨br,0,none⟩=some (.int .i64 tkr)/\W.cell? ⟨br,1,none⟩=some (.string tsr)/\W.cell? ⟨br,2,none⟩=some (.slice pgr ngr cgr)/\W.cell? ⟨br,3,none⟩=some (.slice pkr nkr ckr)){L:Nat->Prop}{a:lH}{w:ze}(_hp:∀e∈(CK[3]!).after,zR .any e=true->L e.on)(hn:¬L 3)(H:(Dz w1 (Bo x0 x1 x2 x5 x8 x9 x10 x11 x14 x15 x16 x17 x18 x19 x20 x21 x22 x23 x24 x25 x26 x27 x28 x29 x30 x31 x32 x33 x34 x35 x36 x37 x38 x39 x40 x41 x42 x43 x44 xl xr al ⟨br,0,none⟩) VL (.agg #[.int .i64 tkr,.string tsr,.slice pgr ngr cgr,.slice pkr nkr ckr]) xl xr nl nr rsl rsr gl gr) L a w):wpOp Tryz.prog CK Q 3 ((Dz w1 (Bo x0 x1 x2 x5 x8 x9 x10 x11 x14 x15 x16 x17 x18 x19 x20 x21 x22 x23 x24 x25 x26 x27 x28 x29 x30 x31 x32 x33 x34 x35 x36 x37 x38 x39 x40 x41 x42 x43 x44 xl xr al ⟨br,0,none⟩) VL (.agg #[.int .i64 tkr,.string tsr,.slice pgr ngr cgr,.slice pkr nkr ckr]) xl xr nl nr rsl rsr gl gr) (λj=>j=3\/L j)) a w:=by obtain⟨b,l,c,i,o,B,n,f,v,r,s,E,C,A,D,F,z,t,k,m,H⟩:=H;obtain rfl:=H.act;obtain⟨I,J,G,M⟩:=HB _ H.bel;refine oQ rfl (λK hK=>?_);simp only[Bo];go_simp;refine hK _ _ ?_;exact⟨b,l,c,i,o,_,n,f,v,r,s,E,C,A,D,F,z,t,k,m,{act:=rfl,bel:=H.bel,k0:=λh=>H.k0 (h.resolve_left (by decide)),k1:=λh=>H.k1 (h.resolve_left (by decide)),k3:=λ_=>rfl,k4:=λh=>H.k4 (h.resolve_left (by decide)),k2:=λh=>H.k2 (h.resolve_left (by decide)),k5:=λh=>H.k5 (h.resolve_left (by decide)),k6:=λh=>by obtain⟨g,d,x,y,q,p⟩:=H.k6 (h.resolve_left (by decide));exact⟨g,d,x,y,q,λh=>p (h.resolve_left (by decide))⟩,k7:=λh=>by obtain⟨g,d,x,y,q,p⟩:=H.k7 (h.resolve_left (by decide));exact⟨g,d,x,y,q,λh=>p (h.resolve_left (by decide))⟩,d26:=λh h'=>H.d26 (h.resolve_left (by decide)) (h'.resolve_left (by decide)),d27:=λh h'=>H.d27 (h.resolve_left (by decide)) (h'.resolve_left (by decide)),d56:=λh h'=>H.d56 (h.resolve_left (by decide)) (h'.resolve_left (by decide)),d57:=λh h'=>H.d57 (h.resolve_left (by decide)) (h'.resolve_left (by decide)),d67:=λh h'=>H.d67 (h.resolve_left (by decide)) (h'.resolve_left (by decide)),u8:=λh=>lY eY eY (H.u8 (h.resolve_left (by decide))),u9:=λh=>lY eY eY (H.u9 (h.resolve_left (by decide)))}⟩
theorem UV{w1:ze}{x0 x1 x2 x5 x8 x9 x10 x11 x14 x15 x16 x17 x18 x19 x20 x21 x22 x23 x24 x25 x26 x27 x28 x29 x30 x31 x32 x33 x34 x35 x36 x37 x38 x39 x40 x41 x42 x43 x44 xl xr VL VR:zg}{al ar:oh}{nl nr:Nat}{rsl rsr:List An}{gl gr:Int->Option Int}{Q:zaO->lH->ze->Prop}{L:Nat->Prop}{a:lH}{w:ze}(_hp:∀e∈(CK[1]!).after,zR .any e=true->L e.on)(hn:¬L 1)(H:(Dz w1 (Bo x0 x1 x2 x5 x8 x9 x10 x11 x14 x15 x16 x17 x18 x19 x20 x21 x22 x23 x24 x25 x26 x27 x28 x29 x30 x31 x32 x33 x34 x35 x36 x37 x38 x39 x40 x41 x42 x43 x44 xl xr al ar) VL VR xl xr nl nr rsl rsr gl gr) L a w):wpOp Tryz.prog CK Q 1 ((Dz w1 (Bo x0 x1 x2 x5 x8 x9 x10 x11 x14 x15 x16 x17 x18 x19 x20 x21 x22 x23 x24 x25 x26 x27 x28 x29 x30 x31 x32 x33 x34 x35 x36 x37 x38 x39 x40 x41 x42 x43 x44 xl xr al ar) VL VR xl xr nl nr rsl rsr gl gr) (λj=>j=1\/L j)) a w:=by obtain⟨b,k,c,s,o,n,m,f,z,r,t,E,C,B,D,F,A,v,i,l,H⟩:=H;obtain rfl:=H.act;refine oQ rfl (λK hK=>?_);simp only[Bo];go_simp;refine hK _ _ ?_;exact⟨b,k,c,_,o,n,m,f,z,r,t,E,C,B,D,F,A,v,i,l,{act:=rfl,bel:=H.bel,k0:=λh=>H.k0 (h.resolve_left (by decide)),k1:=λ_=>rfl,k3:=λh=>H.k3 (h.resolve_left (by decide)),k4:=λh=>H.k4 (h.resolve_left (by decide)),k2:=λh=>H.k2 (h.resolve_left (by decide)),k5:=λh=>H.k5 (h.resolve_left (by decide)),k6:=λh=>by obtain⟨g,d,x,y,q,p⟩:=H.k6 (h.resolve_left (by decide));exact⟨g,d,x,y,q,λh=>p (h.resolve_left (by decide))⟩,k7:=λh=>by obtain⟨g,d,x,y,q,p⟩:=H.k7 (h.resolve_left (by decide));exact⟨g,d,x,y,q,λh=>p (h.resolve_left (by decide))⟩,d26:=λh h'=>H.d26 (h.resolve_left (by decide)) (h'.resolve_left (by decide)),d27:=λh h'=>H.d27 (h.resolve_left (by decide)) (h'.resolve_left (by decide)),d56:=λh h'=>H.d56 (h.resolve_left (by decide)) (h'.resolve_left (by decide)),d57:=λh h'=>H.d57 (h.resolve_left (by decide)) (h'.resolve_left (by decide)),d67:=λh h'=>H.d67 (h.resolve_left (by decide)) (h'.resolve_left (by decide)),u8:=λh=>lY eY eY (H.u8 (h.resolve_left (by decide))),u9:=λh=>lY eY eY (H.u9 (h.resolve_left (by decide)))}⟩
theorem U7{w1:ze}{x0 x1 x2 x5 x8 x9 x10 x11 x14 x15 x16 x17 x18 x19 x20 x21 x22 x23 x24 x25 x26 x27 x28 x29 x30 x31 x32 x33 x34 x35 x36 x37 x38 x39 x40 x41 x42 x43 x44 xl xr VL VR:zg}{al ar:oh}{nl nr:Nat}{rsl rsr:List An}{gl gr:Int->Option Int}{Q:zaO->lH->ze->Prop}{L:Nat->Prop}{a:lH}{w:ze}(_hp:∀e∈(CK[4]!).after,zR .any e=true->L e.on)(hn:¬L 4)(H:(Dz w1 (Bo x0 x1 x2 x5 x8 x9 x10 x11 x14 x15 x16 x17 x18 x19 x20 x21 x22 x23 x24 x25 x26 x27 x28 x29 x30 x31 x32 x33 x34 x35 x36 x37 x38 x39 x40 x41 x42 x43 x44 xl xr al ar) VL VR xl xr nl nr rsl rsr gl gr) L a w):wpOp Tryz.prog CK Q 4 ((Dz w1 (Bo x0 x1 x2 x5 x8 x9 x10 x11 x14 x15 x16 x17 x18 x19 x20 x21 x22 x23 x24 x25 x26 x27 x28 x29 x30 x31 x32 x33 x34 x35 x36 x37 x38 x39 x40 x41 x42 x43 x44 xl xr al ar) VL VR xl xr nl nr rsl rsr gl gr) (λj=>j=4\/L j)) a w:=by obtain⟨b,l,c,i,o,n,A,f,v,r,s,E,C,B,D,F,z,t,k,m,H⟩:=H;obtain rfl:=H.act;refine oQ rfl (λK hK=>?_);simp only[Bo];go_simp;refine hK _ _ ?_;exact⟨b,l,c,i,o,n,_,f,v,r,s,E,C,B,D,F,z,t,k,m,{act:=rfl,bel:=H.bel,k0:=λh=>H.k0 (h.resolve_left (by decide)),k1:=λh=>H.k1 (h.resolve_left (by decide)),k3:=λh=>H.k3 (h.resolve_left (by decide)),k4:=λ_=>rfl,k2:=λh=>H.k2 (h.resolve_left (by decide)),k5:=λh=>H.k5 (h.resolve_left (by decide)),k6:=λh=>by obtain⟨g,d,x,y,q,p⟩:=H.k6 (h.resolve_left (by decide));exact⟨g,d,x,y,q,λh=>p (h.resolve_left (by decide))⟩,k7:=λh=>by obtain⟨g,d,x,y,q,p⟩:=H.k7 (h.resolve_left (by decide));exact⟨g,d,x,y,q,λh=>p (h.resolve_left (by decide))⟩,d26:=λh h'=>H.d26 (h.resolve_left (by decide)) (h'.resolve_left (by decide)),d27:=λh h'=>H.d27 (h.resolve_left (by decide)) (h'.resolve_left (by decide)),d56:=λh h'=>H.d56 (h.resolve_left (by decide)) (h'.resolve_left (by decide)),d57:=λh h'=>H.d57 (h.resolve_left (by decide)) (h'.resolve_left (by decide)),d67:=λh h'=>H.d67 (h.resolve_left (by decide)) (h'.resolve_left (by decide)),u8:=λh=>lY eY eY (H.u8 (h.resolve_left (by decide))),u9:=λh=>lY eY eY (H.u9 (h.resolve_left (by decide)))}⟩
set_option linter.unusedVariables false
theorem Ur{w1:ze}{x0 x1 x2 x5 x8 x9 x10 x11 x14 x15 x16 x17 x18 x19 x20 x21 x22 x23 x24 x25 x26 x27 x28 x29 x30 x31 x32 x33 x34 x35 x36 x37 x38 x39 x40 x41 x42 x43 x44 xl xr VL VR:zg}{al ar:oh}{nl nr:Nat}{rsl rsr:List An}{gl gr:Int->Option Int}{Q:zaO->lH->ze->Prop}(HN:∀W,Below w1.heap.size w1 W->zM Tryz.prog 35 #[VL,xl] W λe w'=>∃p c M,e=.returned (.agg #[.slice p rsl.length c,.map (some M)])/\W.heap.size+2<=M/\yP w' (W.heap.size+2) (λ_=>False) (.slice p rsl.length c) rsl/\Am w' M nl gl/\Below W.heap.size W w'){L:Nat->Prop}{a:lH}{w:ze}(_hp:∀e∈(CK[2]!).after,zR .any e=true->L e.on)(hn:¬L 2)(H:(Dz w1 (Bo x0 x1 x2 x5 x8 x9 x10 x11 x14 x15 x16 x17 x18 x19 x20 x21 x22 x23 x24 x25 x26 x27 x28 x29 x30 x31 x32 x33 x34 x35 x36 x37 x38 x39 x40 x41 x42 x43 x44 xl xr al ar) VL VR xl xr nl nr rsl rsr gl gr) L a w):wpOp Tryz.prog CK Q 2 ((Dz w1 (Bo x0 x1 x2 x5 x8 x9 x10 x11 x14 x15 x16 x17 x18 x19 x20 x21 x22 x23 x24 x25 x26 x27 x28 x29 x30 x31 x32 x33 x34 x35 x36 x37 x38 x39 x40 x41 x42 x43 x44 xl xr al ar) VL VR xl xr nl nr rsl rsr gl gr) (λj=>j=2\/L j)) a w:=by obtain⟨g,s,i,o,O,z,v,m,V,T,U,Y,X,I,R,S,F,D,r,t,H⟩:=H;obtain rfl:=H.act;have B:=H.k0 (_hp ⟨0,iz⟩ (by simp) rfl);have E:=H.k1 (_hp ⟨1,iz⟩ (by simp) rfl);subst B E;refine oQ rfl (λK hK=>?_);simp only[Bo];go_simp;refine(HN _ H.bel).mono ?_;rintro e P ⟨q,d,N,rfl,G,J,C,f⟩;refine hK _ _ ?_;exact⟨g,s,i,o,_,z,v,m,w.heap.size+2,P.heap.size,q,d,N,I,R,S,F,D,r,t,{act:=rfl,bel:=H.bel.trans (f.mono H.bel.size),k0:=λh=>H.k0 (h.resolve_left (by decide)),k1:=λh=>H.k1 (h.resolve_left (by decide)),k3:=λh=>H.k3 (h.resolve_left (by decide)),k4:=λh=>H.k4 (h.resolve_left (by decide)),k2:=λ_=>⟨rfl,DP.new J C G⟩,k5:=λh=>⟨(H.k5 (h.resolve_left (by decide))).1,(H.k5 (h.resolve_left (by decide))).2.grown (Bc f) (λk e=>by cases e)⟩,k6:=λh=>by obtain⟨n,l,x,y,b,A⟩:=H.k6 (h.resolve_left (by decide));exact⟨n,l,x,y,(f.block _ (yz b)).trans b,λh=>absurd (H.u8 (h.resolve_left (by decide))).1 hn⟩,k7:=λh=>by obtain⟨n,l,x,y,b,A⟩:=H.k7 (h.resolve_left (by decide));exact⟨n,l,x,y,(f.block _ (yz b)).trans b,λh=>A (h.resolve_left (by decide))⟩,d26:=λ_ h'=>by obtain⟨_,_,x,y,b,_⟩:=H.k6 (h'.resolve_left (by decide));have:=yz b;exact zdT (by omega),d27:=λ_ h'=>by obtain⟨_,_,x,y,b,_⟩:=H.k7 (h'.resolve_left (by decide));have:=yz b;exact zdT (by omega),d56:=λh h'=>H.d56 (h.resolve_left (by decide)) (h'.resolve_left (by decide)),d57:=λh h'=>H.d57 (h.resolve_left (by decide)) (h'.resolve_left (by decide)),d67:=λh h'=>H.d67 (h.resolve_left (by decide)) (h'.resolve_left (by decide)),u8:=λh=>lY eY eY (H.u8 (h.resolve_left (by decide))),u9:=λh=>lY eY eY (H.u9 (h.resolve_left (by decide)))}⟩
theorem Vk{w1:ze}{x0 x1 x2 x5 x8 x9 x10 x11 x14 x15 x16 x17 x18 x19 x20 x21 x22 x23 x24 x25 x26 x27 x28 x29 x30 x31 x32 x33 x34 x35 x36 x37 x38 x39 x40 x41 x42 x43 x44 xl xr VL VR:zg}{al ar:oh}{nl nr:Nat}{rsl rsr:List An}{gl gr:Int->Option Int}{Q:zaO->lH->ze->Prop}(HN:∀W,Below w1.heap.size w1 W->zM Tryz.prog 35 #[VR,xr] W λe w'=>∃p c M,e=.returned (.agg #[.slice p rsr.length c,.map (some M)])/\W.heap.size+2<=M/\yP w' (W.heap.size+2) (λ_=>False) (.slice p rsr.length c) rsr/\Am w' M nr gr/\Below W.heap.size W w'){L:Nat->Prop}{a:lH}{w:ze}(_hp:∀e∈(CK[5]!).after,zR .any e=true->L e.on)(hn:¬L 5)(H:(Dz w1 (Bo x0 x1 x2 x5 x8 x9 x10 x11 x14 x15 x16 x17 x18 x19 x20 x21 x22 x23 x24 x25 x26 x27 x28 x29 x30 x31 x32 x33 x34 x35 x36 x37 x38 x39 x40 x41 x42 x43 x44 xl xr al ar) VL VR xl xr nl nr rsl rsr gl gr) L a w):wpOp Tryz.prog CK Q 5 ((Dz w1 (Bo x0 x1 x2 x5 x8 x9 x10 x11 x14 x15 x16 x17 x18 x19 x20 x21 x22 x23 x24 x25 x26 x27 x28 x29 x30 x31 x32 x33 x34 x35 x36 x37 x38 x39 x40 x41 x42 x43 x44 xl xr al ar) VL VR xl xr nl nr rsl rsr gl gr) (λj=>j=5\/L j)) a w:=by obtain⟨g,r,i,n,z,v,t,D,G,C,E,S,P,V,X,Y,U,T,o,s,H⟩:=H;obtain rfl:=H.act;have B:=H.k3 (_hp ⟨3,iz⟩ (by simp) rfl);have I:=H.k4 (_hp ⟨4,iz⟩ (by simp) rfl);subst B I;refine oQ rfl (λK hK=>?_);simp only[Bo];go_simp;refine(HN _ H.bel).mono ?_;rintro e R ⟨q,d,N,rfl,J,O,F,f⟩;refine hK _ _ ?_;exact⟨g,r,i,n,z,v,t,_,G,C,E,S,P,w.heap.size+2,R.heap.size,q,d,N,o,s,{act:=rfl,bel:=H.bel.trans (f.mono H.bel.size),k0:=λh=>H.k0 (h.resolve_left (by decide)),k1:=λh=>H.k1 (h.resolve_left (by decide)),k3:=λh=>H.k3 (h.resolve_left (by decide)),k4:=λh=>H.k4 (h.resolve_left (by decide)),k2:=λh=>⟨(H.k2 (h.resolve_left (by decide))).1,(H.k2 (h.resolve_left (by decide))).2.grown (Bc f) (λk e=>by cases e)⟩,k5:=λ_=>⟨rfl,DP.new O F J⟩,k6:=λh=>by obtain⟨m,l,x,y,b,A⟩:=H.k6 (h.resolve_left (by decide));exact⟨m,l,x,y,(f.block _ (yz b)).trans b,λh=>A (h.resolve_left (by decide))⟩,k7:=λh=>by obtain⟨m,l,x,y,b,A⟩:=H.k7 (h.resolve_left (by decide));exact⟨m,l,x,y,(f.block _ (yz b)).trans b,λh=>absurd (H.u9 (h.resolve_left (by decide))).1 hn⟩,d26:=λh h'=>H.d26 (h.resolve_left (by decide)) (h'.resolve_left (by decide)),d27:=λh h'=>H.d27 (h.resolve_left (by decide)) (h'.resolve_left (by decide)),d56:=λ_ h'=>by obtain⟨_,_,x,y,b,_⟩:=H.k6 (h'.resolve_left (by decide));have:=yz b;exact zdT (by omega),d57:=λ_ h'=>by obtain⟨_,_,x,y,b,_⟩:=H.k7 (h'.resolve_left (by decide));have:=yz b;exact zdT (by omega),d67:=λh h'=>H.d67 (h.resolve_left (by decide)) (h'.resolve_left (by decide)),u8:=λh=>lY eY eY (H.u8 (h.resolve_left (by decide))),u9:=λh=>lY eY eY (H.u9 (h.resolve_left (by decide)))}⟩
theorem Ua{w1:ze}{x0 x1 x2 x5 x8 x9 x10 x11 x14 x15 x16 x17 x18 x19 x20 x21 x22 x23 x24 x25 x26 x27 x28 x29 x30 x31 x32 x33 x34 x35 x36 x37 x38 x39 x40 x41 x42 x43 x44 xl xr VL VR:zg}{al ar:oh}{nl nr:Nat}{rsl rsr:List An}{gl gr:Int->Option Int}{Q:zaO->lH->ze->Prop}{L:Nat->Prop}{a:lH}{w:ze}(_hp:∀e∈(CK[6]!).after,zR .any e=true->L e.on)(hn:¬L 6)(H:(Dz w1 (Bo x0 x1 x2 x5 x8 x9 x10 x11 x14 x15 x16 x17 x18 x19 x20 x21 x22 x23 x24 x25 x26 x27 x28 x29 x30 x31 x32 x33 x34 x35 x36 x37 x38 x39 x40 x41 x42 x43 x44 xl xr al ar) VL VR xl xr nl nr rsl rsr gl gr) L a w):wpOp Tryz.prog CK Q 6 ((Dz w1 (Bo x0 x1 x2 x5 x8 x9 x10 x11 x14 x15 x16 x17 x18 x19 x20 x21 x22 x23 x24 x25 x26 x27 x28 x29 x30 x31 x32 x33 x34 x35 x36 x37 x38 x39 x40 x41 x42 x43 x44 xl xr al ar) VL VR xl xr nl nr rsl rsr gl gr) (λj=>j=6\/L j)) a w:=by obtain⟨p,i,d,g,o,n,m,f,A,q,v,G,D,C,F,J,B,z,t,l,H⟩:=H;obtain rfl:=H.act;refine oQ rfl (λK hK=>?_);simp only[Bo];go_simp;refine hK _ _ ?_;have b:=ya (w:=w) (.cells #[.slice none 0 0,.map none] 87);have E:¬L 8:=λh=>hn (H.u8 h).2;exact⟨_,i,d,g,o,n,m,f,A,q,v,G,D,C,F,J,B,z,w.heap.size,l,{act:=rfl,bel:=H.bel.trans (b.mono H.bel.size),k0:=λh=>H.k0 (h.resolve_left (by decide)),k1:=λh=>H.k1 (h.resolve_left (by decide)),k3:=λh=>H.k3 (h.resolve_left (by decide)),k4:=λh=>H.k4 (h.resolve_left (by decide)),k2:=λh=>⟨(H.k2 (h.resolve_left (by decide))).1,(H.k2 (h.resolve_left (by decide))).2.grown (Bc b) (λk e=>by cases e)⟩,k5:=λh=>⟨(H.k5 (h.resolve_left (by decide))).1,(H.k5 (h.resolve_left (by decide))).2.grown (Bc b) (λk e=>by cases e)⟩,k6:=λ_=>⟨rfl,H.bel.size,_,_,zx _ _,λh=>(E (h.resolve_left (by decide))).elim⟩,k7:=λh=>by obtain⟨s,r,x,y,c,I⟩:=H.k7 (h.resolve_left (by decide));exact⟨s,r,x,y,(b.block _ (yz c)).trans c,λh=>I (h.resolve_left (by decide))⟩,d26:=λh _=>eY (H.k2 (h.resolve_left (by decide))).2.top,d27:=λh h'=>H.d27 (h.resolve_left (by decide)) (h'.resolve_left (by decide)),d56:=λh _=>eY (H.k5 (h.resolve_left (by decide))).2.top,d57:=λh h'=>H.d57 (h.resolve_left (by decide)) (h'.resolve_left (by decide)),d67:=λ_ h=>by obtain⟨_,_,x,y,c,_⟩:=H.k7 (h.resolve_left (by decide));have:=yz c;omega,u8:=λh=>lY eY eY (H.u8 (h.resolve_left (by decide))),u9:=λh=>lY eY eY (H.u9 (h.resolve_left (by decide)))}⟩
theorem UL{w1:ze}{x0 x1 x2 x5 x8 x9 x10 x11 x14 x15 x16 x17 x18 x19 x20 x21 x22 x23 x24 x25 x26 x27 x28 x29 x30 x31 x32 x33 x34 x35 x36 x37 x38 x39 x40 x41 x42 x43 x44 xl xr VL VR:zg}{al ar:oh}{nl nr:Nat}{rsl rsr:List An}{gl gr:Int->Option Int}{Q:zaO->lH->ze->Prop}{L:Nat->Prop}{a:lH}{w:ze}(_hp:∀e∈(CK[7]!).after,zR .any e=true->L e.on)(hn:¬L 7)(H:(Dz w1 (Bo x0 x1 x2 x5 x8 x9 x10 x11 x14 x15 x16 x17 x18 x19 x20 x21 x22 x23 x24 x25 x26 x27 x28 x29 x30 x31 x32 x33 x34 x35 x36 x37 x38 x39 x40 x41 x42 x43 x44 xl xr al ar) VL VR xl xr nl nr rsl rsr gl gr) L a w):wpOp Tryz.prog CK Q 7 ((Dz w1 (Bo x0 x1 x2 x5 x8 x9 x10 x11 x14 x15 x16 x17 x18 x19 x20 x21 x22 x23 x24 x25 x26 x27 x28 x29 x30 x31 x32 x33 x34 x35 x36 x37 x38 x39 x40 x41 x42 x43 x44 xl xr al ar) VL VR xl xr nl nr rsl rsr gl gr) (λj=>j=7\/L j)) a w:=by obtain⟨d,s,f,i,o,n,m,g,A,p,t,G,D,C,F,J,B,z,l,v,H⟩:=H;obtain rfl:=H.act;refine oQ rfl (λK hK=>?_);simp only[Bo];go_simp;refine hK _ _ ?_;have b:=ya (w:=w) (.cells #[.slice none 0 0,.map none] 87);have E:¬L 9:=λh=>hn (H.u9 h).2;exact⟨d,_,f,i,o,n,m,g,A,p,t,G,D,C,F,J,B,z,l,w.heap.size,{act:=rfl,bel:=H.bel.trans (b.mono H.bel.size),k0:=λh=>H.k0 (h.resolve_left (by decide)),k1:=λh=>H.k1 (h.resolve_left (by decide)),k3:=λh=>H.k3 (h.resolve_left (by decide)),k4:=λh=>H.k4 (h.resolve_left (by decide)),k2:=λh=>⟨(H.k2 (h.resolve_left (by decide))).1,(H.k2 (h.resolve_left (by decide))).2.grown (Bc b) (λk e=>by cases e)⟩,k5:=λh=>⟨(H.k5 (h.resolve_left (by decide))).1,(H.k5 (h.resolve_left (by decide))).2.grown (Bc b) (λk e=>by cases e)⟩,k6:=λh=>by obtain⟨r,q,x,y,c,I⟩:=H.k6 (h.resolve_left (by decide));exact⟨r,q,x,y,(b.block _ (yz c)).trans c,λh=>I (h.resolve_left (by decide))⟩,k7:=λ_=>⟨rfl,H.bel.size,_,_,zx _ _,λh=>(E (h.resolve_left (by decide))).elim⟩,d26:=λh h'=>H.d26 (h.resolve_left (by decide)) (h'.resolve_left (by decide)),d27:=λh _=>eY (H.k2 (h.resolve_left (by decide))).2.top,d56:=λh h'=>H.d56 (h.resolve_left (by decide)) (h'.resolve_left (by decide)),d57:=λh _=>eY (H.k5 (h.resolve_left (by decide))).2.top,d67:=λh _=>by obtain⟨_,_,x,y,c,_⟩:=H.k6 (h.resolve_left (by decide));have:=yz c;omega,u8:=λh=>lY eY eY (H.u8 (h.resolve_left (by decide))),u9:=λh=>lY eY eY (H.u9 (h.resolve_left (by decide)))}⟩
theorem UM{w1:ze}{x0 x1 x2 x5 x8 x9 x10 x11 x14 x15 x16 x17 x18 x19 x20 x21 x22 x23 x24 x25 x26 x27 x28 x29 x30 x31 x32 x33 x34 x35 x36 x37 x38 x39 x40 x41 x42 x43 x44 xl xr VL VR:zg}{al ar:oh}{nl nr:Nat}{rsl rsr:List An}{gl gr:Int->Option Int}{Q:zaO->lH->ze->Prop}{L:Nat->Prop}{a:lH}{w:ze}(_hp:∀e∈(CK[8]!).after,zR .any e=true->L e.on)(hn:¬L 8)(H:(Dz w1 (Bo x0 x1 x2 x5 x8 x9 x10 x11 x14 x15 x16 x17 x18 x19 x20 x21 x22 x23 x24 x25 x26 x27 x28 x29 x30 x31 x32 x33 x34 x35 x36 x37 x38 x39 x40 x41 x42 x43 x44 xl xr al ar) VL VR xl xr nl nr rsl rsr gl gr) L a w):wpOp Tryz.prog CK Q 8 ((Dz w1 (Bo x0 x1 x2 x5 x8 x9 x10 x11 x14 x15 x16 x17 x18 x19 x20 x21 x22 x23 x24 x25 x26 x27 x28 x29 x30 x31 x32 x33 x34 x35 x36 x37 x38 x39 x40 x41 x42 x43 x44 xl xr al ar) VL VR xl xr nl nr rsl rsr gl gr) (λj=>j=8\/L j)) a w:=by obtain⟨A,m,g,l,O,p,o,i,G,C,r,v,t,N,P,U,I,F,b,n,H⟩:=H;obtain rfl:=H.act;have s:=_hp ⟨2,iz⟩ (by simp) rfl;have c:=_hp ⟨6,iz⟩ (by simp) rfl;obtain⟨J,q,x,y,f,_⟩:=H.k6 c;have B:=(H.k2 s).1;subst J B;have d:=NC w b (.slice r rsl.length v) (.map (some t));obtain⟨V,M⟩:=yD f;have X:=zk w b 0 _ _ f;have W:=zk w b 1 _ _ f;refine oQ rfl (λK hK=>?_);simp only[Bo];go_simp;refine hK _ _ ?_;exact⟨_,m,g,l,_,p,o,i,G,C,r,v,t,N,P,U,I,F,b,n,{act:=rfl,bel:=yd H.bel d (λk e=>by cases e;exact q) H.bel.size,k0:=λh=>H.k0 (h.resolve_left (by decide)),k1:=λh=>H.k1 (h.resolve_left (by decide)),k3:=λh=>H.k3 (h.resolve_left (by decide)),k4:=λh=>H.k4 (h.resolve_left (by decide)),k2:=λh=>⟨(H.k2 (h.resolve_left (by decide))).1,(H.k2 (h.resolve_left (by decide))).2.grown d (λk e=>by cases e;exact H.d26 (h.resolve_left (by decide)) c)⟩,k5:=λh=>⟨(H.k5 (h.resolve_left (by decide))).1,(H.k5 (h.resolve_left (by decide))).2.grown d (λk e=>by cases e;exact H.d56 (h.resolve_left (by decide)) c)⟩,k6:=λ_=>⟨rfl,q,_,_,Tp w b x y _ _ f,λ_=>⟨rfl,rfl⟩⟩,k7:=λh=>by obtain⟨E,D,S,R,z,T⟩:=H.k7 (h.resolve_left (by decide));exact⟨E,D,S,R,(d.block _ (yz z) (λe=>H.d67 c (h.resolve_left (by decide)) (by cases e;rfl))).trans z,λh=>T (h.resolve_left (by decide))⟩,d26:=λh h'=>H.d26 (h.resolve_left (by decide)) (h'.resolve_left (by decide)),d27:=λh h'=>H.d27 (h.resolve_left (by decide)) (h'.resolve_left (by decide)),d56:=λh h'=>H.d56 (h.resolve_left (by decide)) (h'.resolve_left (by decide)),d57:=λh h'=>H.d57 (h.resolve_left (by decide)) (h'.resolve_left (by decide)),d67:=λh h'=>H.d67 (h.resolve_left (by decide)) (h'.resolve_left (by decide)),u8:=λ_=>⟨eY s,eY c⟩,u9:=λh=>lY eY eY (H.u9 (h.resolve_left (by decide)))}⟩
theorem U0{w1:ze}{x0 x1 x2 x5 x8 x9 x10 x11 x14 x15 x16 x17 x18 x19 x20 x21 x22 x23 x24 x25 x26 x27 x28 x29 x30 x31 x32 x33 x34 x35 x36 x37 x38 x39 x40 x41 x42 x43 x44 xl xr VL VR:zg}{al ar:oh}{nl nr:Nat}{rsl rsr:List An}{gl gr:Int->Option Int}{Q:zaO->lH->ze->Prop}{L:Nat->Prop}{a:lH}{w:ze}(_hp:∀e∈(CK[9]!).after,zR .any e=true->L e.on)(hn:¬L 9)(H:(Dz w1 (Bo x0 x1 x2 x5 x8 x9 x10 x11 x14 x15 x16 x17 x18 x19 x20 x21 x22 x23 x24 x25 x26 x27 x28 x29 x30 x31 x32 x33 x34 x35 x36 x37 x38 x39 x40 x41 x42 x43 x44 xl xr al ar) VL VR xl xr nl nr rsl rsr gl gr) L a w):wpOp Tryz.prog CK Q 9 ((Dz w1 (Bo x0 x1 x2 x5 x8 x9 x10 x11 x14 x15 x16 x17 x18 x19 x20 x21 x22 x23 x24 x25 x26 x27 x28 x29 x30 x31 x32 x33 x34 x35 x36 x37 x38 x39 x40 x41 x42 x43 x44 xl xr al ar) VL VR xl xr nl nr rsl rsr gl gr) (λj=>j=9\/L j)) a w:=by obtain⟨g,F,i,l,p,o,n,D,I,B,G,S,O,N,P,v,s,r,m,b,H⟩:=H;obtain rfl:=H.act;have t:=_hp ⟨5,iz⟩ (by simp) rfl;have c:=_hp ⟨7,iz⟩ (by simp) rfl;obtain⟨J,q,x,y,f,_⟩:=H.k7 c;have A:=(H.k5 t).1;subst J A;have d:=NC w b (.slice v rsr.length s) (.map (some r));obtain⟨V,M⟩:=yD f;have X:=zk w b 0 _ _ f;have W:=zk w b 1 _ _ f;refine oQ rfl (λK hK=>?_);simp only[Bo];go_simp;refine hK _ _ ?_;exact⟨g,_,i,l,p,o,n,_,I,B,G,S,O,N,P,v,s,r,m,b,{act:=rfl,bel:=yd H.bel d (λk e=>by cases e;exact q) H.bel.size,k0:=λh=>H.k0 (h.resolve_left (by decide)),k1:=λh=>H.k1 (h.resolve_left (by decide)),k3:=λh=>H.k3 (h.resolve_left (by decide)),k4:=λh=>H.k4 (h.resolve_left (by decide)),k2:=λh=>⟨(H.k2 (h.resolve_left (by decide))).1,(H.k2 (h.resolve_left (by decide))).2.grown d (λk e=>by cases e;exact H.d27 (h.resolve_left (by decide)) c)⟩,k5:=λh=>⟨(H.k5 (h.resolve_left (by decide))).1,(H.k5 (h.resolve_left (by decide))).2.grown d (λk e=>by cases e;exact H.d57 (h.resolve_left (by decide)) c)⟩,k6:=λh=>by obtain⟨E,C,T,R,z,U⟩:=H.k6 (h.resolve_left (by decide));exact⟨E,C,T,R,(d.block _ (yz z) (λe=>H.d67 (h.resolve_left (by decide)) c (by cases e;rfl))).trans z,λh=>U (h.resolve_left (by decide))⟩,k7:=λ_=>⟨rfl,q,_,_,Tp w b x y _ _ f,λ_=>⟨rfl,rfl⟩⟩,d26:=λh h'=>H.d26 (h.resolve_left (by decide)) (h'.resolve_left (by decide)),d27:=λh h'=>H.d27 (h.resolve_left (by decide)) (h'.resolve_left (by decide)),d56:=λh h'=>H.d56 (h.resolve_left (by decide)) (h'.resolve_left (by decide)),d57:=λh h'=>H.d57 (h.resolve_left (by decide)) (h'.resolve_left (by decide)),d67:=λh h'=>H.d67 (h.resolve_left (by decide)) (h'.resolve_left (by decide)),u8:=λh=>lY eY eY (H.u8 (h.resolve_left (by decide))),u9:=λ_=>⟨eY t,eY c⟩}⟩
theorem Xy{w1:ze}{x0 x1 x2 x5 x8 x9 x10 x11 x14 x15 x16 x17 x18 x19 x20 x21 x22 x23 x24 x25 x26 x27 x28 x29 x30 x31 x32 x33 x34 x35 x36 x37 x38 x39 x40 x41 x42 x43 x44 xl xr:zg}{tkl:Int}{tsl:ByteArray}{pgl pkl:Option oh}{ngl cgl nkl ckl:Nat}{bl:Nat}{tkr:Int}{tsr:ByteArray}{pgr pkr:Option oh}{ngr cgr nkr ckr:Nat}{br:Nat}{nl nr:Nat}{rsl rsr:List An}{gl gr:Int->Option Int}{Q:zaO->lH->ze->Prop}(HBl:∀W,Below w1.heap.size w1 W->W.cell? ⟨bl,0,none⟩=some (.int .i64 tkl)/\W.cell? ⟨bl,1,none⟩=some (.string tsl)/\W.cell? ⟨bl,2,none⟩=some (.slice pgl ngl cgl)/\W.cell? ⟨bl,3,none⟩=some (.slice pkl nkl ckl))(HBr:∀W,Below w1.heap.size w1 W->W.cell? ⟨br,0,none⟩=some (.int .i64 tkr)/\W.cell? ⟨br,1,none⟩=some (.string tsr)/\W.cell? ⟨br,2,none⟩=some (.slice pgr ngr cgr)/\W.cell? ⟨br,3,none⟩=some (.slice pkr nkr ckr))(HNl:∀W,Below w1.heap.size w1 W->zM Tryz.prog 35 #[(.agg #[.int .i64 tkl,.string tsl,.slice pgl ngl cgl,.slice pkl nkl ckl]),xl] W λe w'=>∃p c M,e=.returned (.agg #[.slice p rsl.length c,.map (some M)])/\W.heap.size+2<=M/\yP w' (W.heap.size+2) (λ_=>False) (.slice p rsl.length c) rsl/\Am w' M nl gl/\Below W.heap.size W w')(HNr:∀W,Below w1.heap.size w1 W->zM Tryz.prog 35 #[(.agg #[.int .i64 tkr,.string tsr,.slice pgr ngr cgr,.slice pkr nkr ckr]),xr] W λe w'=>∃p c M,e=.returned (.agg #[.slice p rsr.length c,.map (some M)])/\W.heap.size+2<=M/\yP w' (W.heap.size+2) (λ_=>False) (.slice p rsr.length c) rsr/\Am w' M nr gr/\Below W.heap.size W w'){w3:ze}(h3:Below w1.heap.size w1 w3)(hQ:∀(v45 v46 v48 v49:zg)(B1 h1:Nat)(p1:Option oh)(c1 M1 B2 h2:Nat)(p2:Option oh)(c2 M2 b12 b13:Nat)(W:ze),Below w1.heap.size w1 W->DP W B1 h1 p1 c1 M1 nl rsl gl->DP W B2 h2 p2 c2 M2 nr rsr gr->w1.heap.size<=b12->w1.heap.size<=b13->W.heap[b12]?=some (.cells #[.slice p1 rsl.length c1,.map (some M1)] 87 (0,0))->W.heap[b13]?=some (.cells #[.slice p2 rsr.length c2,.map (some M2)] 87 (0,0))->Q .normal (Bo x0 x1 x2 x5 x8 x9 x10 x11 x14 x15 x16 x17 x18 x19 x20 x21 x22 x23 x24 x25 x26 x27 x28 x29 x30 x31 x32 x33 x34 x35 x36 x37 x38 x39 x40 x41 x42 x43 x44 xl xr ⟨bl,0,none⟩ ⟨br,0,none⟩ (.pointer (some ⟨b12,0,none⟩)) (.pointer (some ⟨b13,0,none⟩)) v45 v46 (Ru p1 rsl.length c1 M1) v48 v49 (Ru p2 rsr.length c2 M2)) W):wpAny Tryz.prog .any CK Q CK.size (eD CK.size false) (Bo x0 x1 x2 x5 x8 x9 x10 x11 x14 x15 x16 x17 x18 x19 x20 x21 x22 x23 x24 x25 x26 x27 x28 x29 x30 x31 x32 x33 x34 x35 x36 x37 x38 x39 x40 x41 x42 x43 x44 xl xr ⟨bl,0,none⟩ ⟨br,0,none⟩ zl zl zl zl zl zl zl zl) w3:=by
 refine RJ (Dz w1 (Bo x0 x1 x2 x5 x8 x9 x10 x11 x14 x15 x16 x17 x18 x19 x20 x21 x22 x23 x24 x25 x26 x27 x28 x29 x30 x31 x32 x33 x34 x35 x36 x37 x38 x39 x40 x41 x42 x43 x44 xl xr ⟨bl,0,none⟩ ⟨br,0,none⟩) (.agg #[.int .i64 tkl,.string tsl,.slice pgl ngl cgl,.slice pkl nkl ckl]) (.agg #[.int .i64 tkr,.string tsr,.slice pgr ngr cgr,.slice pkr nkr ckr]) xl xr nl nr rsl rsr gl gr) (by kernel_rfl) ?_ ?_ ?_
 .intro L i o a w j f d H;have I:i<10:=(eh.1 j).1;have g:o=CK[i]!:=by rw[getElem!_def,j]
  subst g;obtain rfl|rfl|rfl|rfl|rfl|rfl|rfl|rfl|rfl|rfl:i=0\/i=1\/i=2\/i=3\/i=4\/i=5\/i=6\/i=7\/i=8\/i=9:=by omega
  .exact Ux HBl d f H
  .exact UV d f H
  .exact Ur HNl d f H
  .exact UT HBr d f H
  .exact U7 d f H
  .exact Vk HNr d f H
  .exact Ua d f H
  .exact UL d f H
  .exact UM d f H
  .exact U0 d f H
 .intro L a w z H;have b:∀i,i<10->L i:=z;obtain⟨k,q,v45,v46,D,v48,v49,m,B1,h1,p1,c1,M1,B2,h2,p2,c2,M2,b12,b13,H⟩:=H;obtain rfl:=H.act;obtain⟨l,E⟩:=H.k2 (b 2 (by decide));obtain⟨A,C⟩:=H.k5 (b 5 (by decide));obtain⟨v,G,x,y,r,B⟩:=H.k6 (b 6 (by decide));obtain⟨n,s,N,J,F,t⟩:=H.k7 (b 7 (by decide));obtain⟨rfl,rfl⟩:=B (b 8 (by decide));obtain⟨rfl,rfl⟩:=t (b 9 (by decide));subst l A v n;exact hQ _ _ _ _ _ _ _ _ _ _ _ _ _ _ _ _ w H.bel E C G s r F
 .exact⟨zl,zl,zl,zl,zl,zl,zl,zl,0,0,none,0,0,0,0,none,0,0,0,0,{act:=rfl,bel:=h3,k0:=λh=>h.elim,k1:=λh=>h.elim,k3:=λh=>h.elim,k4:=λh=>h.elim,k2:=λh=>h.elim,k5:=λh=>h.elim,k6:=λh=>h.elim,k7:=λh=>h.elim,d26:=λh=>h.elim,d27:=λh=>h.elim,d56:=λh=>h.elim,d57:=λh=>h.elim,d67:=λh=>h.elim,u8:=λh=>h.elim,u9:=λh=>h.elim}⟩
theorem Dn{w6 wr w2 W:ze}{B n:Nat}{A:Obj}{u v':zg}{L:List Int}{x:Int}(hgr:w6.grownBy wr (some B))(hu:yj wr w6.heap.size u L)(h2:w2.ownsRow w6.heap.size 3 1 v' n (L.map (Value.int .i64)++[.int .i64 x]))(hn:n=L.length+1)(hg:(wr.alloc A).grownBy w2 u.ownBlock)(hB:B<w6.heap.size)(hW:w2.grownBy W (some B)):yj W w6.heap.size v' (L++[x])/\w6.grownBy W (some B):=by
 subst hn;constructor
 .have a:=h2.kept hW (by
   cases h:v'.ownBlock with
   |none=>exact .inl rfl
   |some k=>refine .inr λe=>?_;have:=yf h2 k h;cases e;omega)
  unfold yj;rw[List.length_append,ip];exact a
 .exact yc (Ag (yc hgr (World.grownBy_alloc _ _ _)) hg (.inr λk hk=>yf hu k hk)) hW
theorem OH(w:ze)(B:Nat)(i j:Nat)(u v:zg):w.grownBy ((w.setCell ⟨B,i,none⟩ u).setCell ⟨B,j,none⟩ v) (some B):=yc (yn _ _ _ _) (yn _ _ _ _)
theorem P4(k:Nat):(ev (k+1)).map (λi=>((i:Nat):Int))=(ev k).map (λi=>((i:Nat):Int))++[(k:Int)]:=by rw[List.range_succ,ip];rfl
theorem EY{w6 wr w2:ze}{B:Nat}{A o:Obj}{u:zg}{L:List Int}(hu:yj wr w6.heap.size u L)(hg:(wr.alloc A).grownBy w2 u.ownBlock)(hB:B<w6.heap.size)(h:wr.heap[B]?=some o):w2.heap[B]?=some o:=by have a:=((ya (w:=wr) A).block B (yz h)).trans h;exact(hg.block B (yz a) (λe=>by have:=yf hu B e.symm;omega)).trans a
theorem A8{w W:ze}{base B:Nat}{u:zg}{L:List Int}(h:yj w base u L)(hg:w.grownBy W (some B))(hne:∀k,u.ownBlock=some k->k≠B):yj W base u L:=by
 refine h.kept hg ?_;cases hk:u.ownBlock with
 |none=>exact .inl rfl
 |some k=>exact .inr λe=>hne k hk (by cases e;rfl)
theorem Qy(w:ze)(n:Nat)(x:zg)(t:TypeId)(hn:w.heap.size=n):∀j u,[x][j]?=some u->(w.alloc (.cells #[x] t)).cell? ((⟨n,0,none⟩:oh).add j)=some u:=by subst hn;exact AR w x t
theorem V6:(Tryz.prog.info? 57).map (·.size)=some 4:=by kernel_rfl
theorem IE{fn:Func}{p q:Tmp}(h:fn.results=#[.cell p 57,.tmp q])(tmps:Array zg)(w:ze)(g:Nat)(a b c d:zg)(fr:Nat×Nat)(hp:tmps.getD p zl=.pointer (some ⟨g,0,none⟩))(hg:w.heap[g]?=some (.cells #[a,b,c,d] 57 fr))(v:zg)(hv:tmps.getD q zl=v):(results fn tmps).run Tryz.prog w=.ok (.tuple #[.agg #[a,b,c,d],v]) w:=by rw[results_cell_tmp h,hp,hv];simp[asAddr,run_loadVar_row w g 57 57 #[a,b,c,d] fr _ hg Tryz.underlying57 rfl V6,Result.andThen]
theorem AO(w:ze)(b:Nat)(t:TypeId)(x0 x1 x2 x3 u0 u1 u2 u3:zg)(h:w.heap[b]?=some (.cells #[x0,x1,x2,x3] t (0,0))):((((w.setCell ⟨b,0,none⟩ u0).setCell ⟨b,1,none⟩ u1).setCell ⟨b,2,none⟩ u2).setCell ⟨b,3,none⟩ u3).heap[b]?=some (.cells #[u0,u1,u2,u3] t (0,0)):=zA _ _ 3 _ _ _ (zA _ _ 2 _ _ _ (zA _ _ 1 _ _ _ (zA w _ 0 _ _ _ h)))
theorem AT(w:ze)(b:Nat)(u0 u1 u2 u3:zg):w.grownBy ((((w.setCell ⟨b,0,none⟩ u0).setCell ⟨b,1,none⟩ u1).setCell ⟨b,2,none⟩ u2).setCell ⟨b,3,none⟩ u3) (some b):=yc (OH _ _ _ _ _ _) (OH _ _ _ _ _ _)
def Eg(B:Ver)(N:Nat):Prop:=∀p y,B p=some y->0<=p/\p<N/\-1<=y.parent/\y.parent<N/\y.kids.length<=300/\y.kids.Nodup/\∀k∈y.kids,p<k/\k<N/\∃z,B k=some z/\z.parent=p
theorem C3{l:List Int}{N:Nat}(hd:l.Nodup)(h:∀x∈l,0<=x/\x<N):l.length<=N:=by
 have c:(l.map Int.toNat).Nodup:=by rw[List.nodup_iff_pairwise_ne,List.pairwise_map]at*;refine hd.imp_of_mem λ{a b} ha hb hne e=>?_;have:=h a ha;have:=h b hb;omega
 have f:(l.map Int.toNat)⊆ev N:=λx hx=>by obtain⟨y,d,rfl⟩:=List.mem_map.1 hx;have:=h y d;exact lD.2 (by omega)
 have:=c.length_le_of_subset f;simpa using this
structure Ed(B S:Ver)(root:Int)(i:Nat)(p:Int)(done:List Int)(L:List Int):Prop where
 gone:∀x∈L,FB B S x=true
 nodup:L.Nodup
 up:∀x∈L,root<=x
 from_:∀x∈L,x=root\/∃z,B x=some z/\(z.parent∈L.take i\/z.parent=p/\x∈done)
theorem Ed.start{B S:Ver}{root:Int}(h:FB B S root=true):Ed B S root 0 0 [] [root]:=⟨λx hx=>by rw[iI.1 hx];exact h,by simp,λx hx=>by rw[iI.1 hx];exact Int.le_refl _,λx hx=>.inl (iI.1 hx)⟩
theorem Ed.next{B S:Ver}{root p:Int}{i:Nat}{ks L:List Int}(h:Ed B S root i p ks L)(hp:L[i]?=some p)(q:Int):Ed B S root (i+1) q [] L:=⟨h.gone,h.nodup,h.up,λx hx=>by
  rcases h.from_ x hx with h|⟨z,a,h|⟨h,_⟩⟩
  .exact .inl h
  .exact .inr ⟨z,a,.inl (by rw[z6];exact zaF _ h)⟩
  .exact .inr ⟨z,a,.inl (by rw[z6,hp,h];simp)⟩⟩
theorem Ed.begin{B S:Ver}{root p q:Int}{i:Nat}{L:List Int}(h:Ed B S root i p [] L):Ed B S root i q [] L:=⟨h.gone,h.nodup,h.up,λx hx=>by
  rcases h.from_ x hx with h|⟨z,a,h|⟨_,h⟩⟩
  .exact .inl h
  .exact .inr ⟨z,a,.inl h⟩
  .cases h⟩
theorem Ed.skip{B S:Ver}{root p:Int}{i q:Nat}{ks L:List Int}(h:Ed B S root i p (ks.take q) L):Ed B S root i p (ks.take (q+1)) L:=⟨h.gone,h.nodup,h.up,λx hx=>by
  rcases h.from_ x hx with h|⟨z,a,h|⟨b,c⟩⟩
  .exact .inl h
  .exact .inr ⟨z,a,.inl h⟩
  .exact .inr ⟨z,a,.inr ⟨b,by rw[z6];exact zaF _ c⟩⟩⟩
theorem Ed.add{B S:Ver}{N:Nat}(hT:Eg B N){root p k:Int}{i q:Nat}{y:Dl}{L:List Int}(h:Ed B S root i p (y.kids.take q) L)(hp:L[i]?=some p)(hy:B p=some y)(hk:y.kids[q]?=some k)(hg:FB B S k=true):Ed B S root i p (y.kids.take (q+1)) (L++[k]):=by
 obtain⟨_,_,_,_,_,w,n⟩:=hT p y hy;obtain⟨t,v,z,l,d⟩:=n k (zq hk);have f:=zq hp;have s:i<L.length:=(zm.1 hp).1;have c:k∉L:=λhm=>by
  rcases h.from_ k hm with e|⟨A,g,m|⟨_,m⟩⟩
  .have:=h.up p f;omega
  .rw[l]at g;cases g;rw[d]at m;obtain⟨j,o,e⟩:=zcq.1 m;rw[iR]at o;rw[zc4]at e;have r:L[i]=p:=by rw[zc s]at hp;exact eF hp
   have:=(zdd h.nodup).1 (e.trans r.symm);omega
  .obtain⟨j,o,e⟩:=zcq.1 m;rw[iR]at o;rw[zc4]at e;obtain⟨C,r⟩:=zm.1 hk;have:=(zdd w).1 (e.trans r.symm);omega
 refine⟨λx hx=>?_,?_,λx hx=>?_,λx hx=>?_⟩
 .rcases eZ.1 hx with hx|hx
  .exact h.gone x hx
  .rw[iI.1 hx];exact hg
 .rw[List.nodup_append];exact⟨h.nodup,by simp,λa ha b hb e=>c (by rw[<-iI.1 hb,<-e];exact ha)⟩
 .rcases eZ.1 hx with hx|hx
  .exact h.up x hx
  .rw[iI.1 hx];have:=h.up p f;omega
 .rw[List.take_append_of_le_length (by omega)];rcases eZ.1 hx with hx|hx
  .rcases h.from_ x hx with h|⟨z,l,h|⟨t,v⟩⟩
   .exact .inl h
   .exact .inr ⟨z,l,.inl h⟩
   .exact .inr ⟨z,l,.inr ⟨t,by rw[z6];exact zaF _ v⟩⟩
  .rw[iI.1 hx];exact .inr ⟨z,l,.inr ⟨d,by rw[z6,hk];simp⟩⟩
theorem Gl{B S:Ver}{x:Int}(h:FB B S x=true):∃y,B x=some y/\S x=none:=by
 unfold FB at h;simp only[Bool.and_eq_true,Bool.not_eq_true']at h;obtain⟨y,a⟩:=Option.isSome_iff_exists.1 h.1;refine⟨y,a,?_⟩;cases e:S x with
 |none=>rfl
 |some z=>rw[e]at h;simp at h
theorem Ed.len{B S:Ver}{N:Nat}(hT:Eg B N){root p:Int}{i:Nat}{ks L:List Int}(h:Ed B S root i p ks L):L.length<=N:=C3 h.nodup λx hx=>by obtain⟨y,a,_⟩:=Gl (h.gone x hx);have:=hT x y a;omega
end Go.Proofs
