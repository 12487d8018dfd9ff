/-
  Part of the proof: What the evaluator's values stand for, and how its state stands to a world of the model.
-/
import Derived.Test.YtpdlpdkehminlaaGreatDoorEvA
import Derived.Laws.Cells
import Derived.Laws.IdiomCopy
import Derived.Calls
set_option linter.all false
set_option maxRecDepth 100000
set_option maxHeartbeats 20000000
open Array renaming ext'->iq
open Bool renaming and_eq_true->zo,false_eq_true->zH
open Go renaming Act->lH,Field->ib,IntKind->iB,Operand->eo,Program->zZ,TypeId->zL,Value->zg,World->ze
open Go.Act renaming eval->zcv,put->z8
open Go.Instr renaming findNow->iK,index->zdR,indexAt->zdy,slice->zce,sliceAt->zaI,sliceBound->zcW,sliceBounds->zcH,sureAddr->zbr
open Go.Result renaming andThen_ok->zr
open Go.Sem renaming run_bind->zK,run_pure->zP
open Go.Value.func renaming injEq->zet
open Go.Value.slice renaming injEq->lg
open Int renaming emod_eq_of_lt->za9
open List renaming take_drop->zdx
open Nat renaming beq->zD,ble->ic,blt->zB,blt_eq->zel,le_refl->zn,le_trans->zI,lt_of_lt_of_le->ez
open Option renaming bind_eq_some_iff->zu,bind_some->iG,getD_none->iP,getD_some->eE,isSome_none->zad,isSome_some->zaP,map_eq_some_iff->zh,map_none->zcX,map_some->zQ,rec->iO
open Option.some renaming injEq->zb
open UInt8 renaming ofNat->eX,toNat->zcs
namespace Go.Ev
inductive Wi where
 |str (s:ByteArray)
 |int (k:iB) (n:Int)
 |raw (s:ByteArray)
def Wi.val:Wi->zg
 |.str s=>.string s
 |.int k n=>.int k n
 |.raw s=>.string s
structure Ren where
 b:Nat->Option (Nat×Nat)
 k:Nat->Option Nat
 v:Nat->Option Wi
def Ren.cap(ρ:Ren):Cap->Option Nat
 |.ex n=>some n
 |.sy id base=>(ρ.k id).map (base+·)
def yH(s:List Nat):ByteArray:=⟨(s.map eX).toArray⟩
def Xz(ρ:Ren):Prop:=∀(i j:Nat)(s:ByteArray),ρ.v i=some (.str s)->ρ.v j=some (.str s)->i=j
open Classical in
noncomputable def Ren.ustr (ρ:Ren) (c lo hi:Nat):Option ByteArray:=
 match ρ.v c with
 |some (.str s)=>if Xz ρ/\lo<=s.size/\s.size<=hi then some s else none
 |_=>none
theorem Ren.ustr_some{ρ:Ren}{c lo hi:Nat}{s:ByteArray}(h:ρ.ustr c lo hi=some s):ρ.v c=some (.str s)/\Xz ρ/\lo<=s.size/\s.size<=hi:=by
 unfold Ren.ustr at h;split at h
 .rename_i s' hs;split at h
  .rename_i hc;cases h;exact⟨hs,hc⟩
  .cases h
 .cases h
mutual
noncomputable def yx (ρ:Ren):CV->Option zg
 |.bool b=>some (.bool b)
 |.int k n=>some (.int k n)
 |.str s=>some (.string (yH s))
 |.nilp=>some (.pointer none)
 |.ptr b o=>(ρ.b b).map λx=>.pointer (some ⟨x.1,o+x.2,none⟩)
 |.nils=>some (.slice none 0 0)
 |.slice b o len c=>(ρ.b b).bind λx=>(ρ.cap c).map λc=>.slice (some ⟨x.1,o+x.2,none⟩) len c
 |.nilm=>some (.map none)
 |.map r=>(ρ.b r).map λx=>.map (some x.1)
 |.func f fi ca=>(yG ρ fi).bind λx=>(yG ρ ca).map λy=>.func (.func f) x.toArray y.toArray
 |.nilf=>some .nilFunc
 |.iface t v=>(yx ρ v).map (.iface t)
 |.nili=>some .nilIface
 |.agg l=>(yG ρ l).map λx=>.agg x.toArray
 |.tup l=>(yG ρ l).map λx=>.tuple x.toArray
 |.opq i=>(ρ.v i).map Wi.val
 |.ustr c lo hi=>(ρ.ustr c lo hi).map .string
 |.ulen c lo hi=>(ρ.ustr c lo hi).map λs=>.int .i64 s.size
 |.tail b o sh id=>(ρ.b b).bind λx=>(ρ.k id).map λn=>.slice (some ⟨x.1,o+x.2+(if n=0 then 0 else sh),none⟩) 0 n
noncomputable def yG (ρ:Ren):List CV->Option (List zg)
 |[]=>some []
 |v::vs=>(yx ρ v).bind λx=>(yG ρ vs).map λy=>x::y
end
structure Ren.Le(ρ ρ':Ren):Prop where
 b:∀i x,ρ.b i=some x->ρ'.b i=some x
 k:∀i x,ρ.k i=some x->ρ'.k i=some x
 v:ρ'.v=ρ.v
theorem Ren.Le.refl(ρ:Ren):ρ.Le ρ:=⟨λ_ _ h=>h,λ_ _ h=>h,rfl⟩
theorem Ren.Le.trans{a b c:Ren}(h:a.Le b)(h':b.Le c):a.Le c:=⟨λi x e=>h'.b i x (h.b i x e),λi x e=>h'.k i x (h.k i x e),h'.v.trans h.v⟩
theorem Ren.Le.cap{ρ ρ':Ren}(h:ρ.Le ρ'){c:Cap}{n:Nat}(e:ρ.cap c=some n):ρ'.cap c=some n:=by
 cases c with
 |ex m=>exact e
 |sy i base=>simp only[Ren.cap,zh]at e⊢;obtain⟨x,a,rfl⟩:=e;exact⟨x,h.k _ _ a,rfl⟩
theorem Ren.Le.ustr{ρ ρ':Ren}(h:ρ.Le ρ'):ρ'.ustr=ρ.ustr:=by funext c lo hi;unfold Ren.ustr Xz;rw[h.v]
theorem AS{ρ ρ':Ren}(h:ρ.Le ρ')(v:CV):∀V,yx ρ v=some V->yx ρ' v=some V:=by
 refine CV.rec (motive_1:=λv=>∀V,yx ρ v=some V->yx ρ' v=some V) (motive_2:=λl=>∀L,yG ρ l=some L->yG ρ' l=some L) ?_ ?_ ?_ ?_ ?_ ?_ ?_ ?_ ?_ ?_ ?_ ?_ ?_ ?_ ?_ ?_ ?_ ?_ ?_ ?_ ?_ v
 .intro b V e;simpa[yx]using e
 .intro k n V e;simpa[yx]using e
 .intro s V e;simpa[yx]using e
 .intro V e;simpa[yx]using e
 .intro b o V e;simp only[yx,zh]at e⊢;obtain⟨x,a,rfl⟩:=e;exact⟨x,h.b _ _ a,rfl⟩
 .intro V e;simpa[yx]using e
 .intro b o q c V e;simp only[yx,zu,zh]at e⊢;obtain⟨x,a,y,g,rfl⟩:=e;exact⟨x,h.b _ _ a,y,h.cap g,rfl⟩
 .intro V e;simpa[yx]using e
 .intro b V e;simp only[yx,zh]at e⊢;obtain⟨x,a,rfl⟩:=e;exact⟨x,h.b _ _ a,rfl⟩
 .intro f z w d j V e;simp only[yx,zu,zh]at e⊢;obtain⟨x,a,y,g,rfl⟩:=e;exact⟨x,d _ a,y,j _ g,rfl⟩
 .intro V e;simpa[yx]using e
 .intro t v ih V e;simp only[yx,zh]at e⊢;obtain⟨x,a,rfl⟩:=e;exact⟨x,ih _ a,rfl⟩
 .intro V e;simpa[yx]using e
 .intro l ih V e;simp only[yx,zh]at e⊢;obtain⟨x,a,rfl⟩:=e;exact⟨x,ih _ a,rfl⟩
 .intro l ih V e;simp only[yx,zh]at e⊢;obtain⟨x,a,rfl⟩:=e;exact⟨x,ih _ a,rfl⟩
 .intro i V e;simp only[yx,zh]at e⊢;obtain⟨x,a,rfl⟩:=e;exact⟨x,by rw[h.v];exact a,rfl⟩
 .intro b o A r V e;simp only[yx,zu,zh]at e⊢;obtain⟨x,a,y,g,rfl⟩:=e;exact⟨x,h.b _ _ a,y,h.k _ _ g,rfl⟩
 .intro c p m V e;simp only[yx]at e⊢;rw[h.ustr];exact e
 .intro c p m V e;simp only[yx]at e⊢;rw[h.ustr];exact e
 .intro L e;simpa[yG]using e
 .intro v l d j L e;simp only[yG,zu,zh]at e⊢;obtain⟨x,a,y,g,rfl⟩:=e;exact⟨x,d _ a,y,j _ g,rfl⟩
theorem G6{ρ ρ':Ren}(h:ρ.Le ρ'):∀(l:List CV)(L:List zg),yG ρ l=some L->yG ρ' l=some L
 |[],L,e=>by simpa[yG]using e
 |v::l,L,e=>by simp only[yG,zu,zh]at e⊢;obtain⟨x,hx,y,hy,rfl⟩:=e;exact⟨x,AS h v _ hx,y,G6 h l _ hy,rfl⟩
theorem AX{ρ:Ren}:∀{l:List CV}{L:List zg},yG ρ l=some L->∀(i:Nat)(v:CV),l[i]?=some v->∃V:zg,yx ρ v=some V/\L[i]?=some V
 |[],L,e,i,v,h=>by simp at h
 |u::l,L,e,i,v,h=>by
  simp only[yG,zu,zh]at e;obtain⟨x,hx,y,hy,rfl⟩:=e;cases i with
  |zero=>simp at h;subst h;exact⟨x,hx,rfl⟩
  |succ i=>simpa using AX hy i v (by simpa using h)
theorem Af{ρ:Ren}:∀{l:List CV}{L:List zg},yG ρ l=some L->L.length=l.length
 |[],L,e=>by simp[yG]at e;subst e;rfl
 |u::l,L,e=>by simp only[yG,zu,zh]at e;obtain⟨x,hx,y,hy,rfl⟩:=e;simp[Af hy]
theorem Ds{ρ:Ren}:∀{l m:List CV}{L M:List zg},yG ρ l=some L->yG ρ m=some M->yG ρ (l++m)=some (L++M)
 |[],m,L,M,e,f=>by simp[yG]at e;subst e;simpa using f
 |u::l,m,L,M,e,f=>by simp only[yG,zu,zh]at e;obtain⟨x,hx,y,hy,rfl⟩:=e;simp only[List.cons_append,yG,zu,zh];exact⟨x,hx,y++M,Ds hy f,rfl⟩
theorem BM{ρ:Ren}{v:CV}{V:zg}{l:List CV}{L:List zg}(h:yx ρ v=some V)(e:yG ρ l=some L):yG ρ (v::l)=some (V::L):=by simp[yG,h,e]
def BS:List (CV×CV×Nat)->Bool
 |[]=>true
 |e::l=>(l.all λe'=>match Fh e.1 e'.1 with|some b=> !b|none=>false)&&BS l
def Bt(ρ:Ren)(D:Nat):Bp->Obj->Prop
 |.row cells sh hi wr id sz ty,.cells c u fz=>
  (∀i,i<hi->∃v V,cells.get (i+sh)=some v/\yx ρ v=some V/\c[i+D]?=some V/\(wr=true->¬(fz.1<=i+D/\i+D<fz.2)))/\
  ((sz=0/\D=0)\/(sz≠0/\∃x,ρ.k id=some x/\∀j,j<x*sz->(∃V,c[hi+D+j]?=some V)/\(wr=true->¬(fz.1<=hi+D+j/\hi+D+j<fz.2))))/\
  (ty≠0->u+1=ty)
 |.map es clock,.map es' clock'=>D=0/\clock'=clock/\∃l:List (zg×zg×Nat),es'.toList=l.map (λe=>⟨e.1,e.2.1,e.2.2⟩)/\l.length=es.length/\∀(i:Nat)(e:CV×CV×Nat),es[i]?=some e->∃e':zg×zg×Nat,l[i]?=some e'/\yx ρ e.1=some e'.1/\yx ρ e.2.1=some e'.2.1/\e.2.2=e'.2.2
 |.siter s pos,.stringIter s' pos'=>D=0/\s'=yH s/\pos'=pos
 |.miter m since seen last,.mapIter m' since' seen' last'=>D=0/\(match m with|none=>m'=none|some r=>∃R,ρ.b r=some (R,0)/\m'=some R)/\since'=since/\seen'=seen.toArray/\last'=last
 |.mapU es,.map es' _=>D=0/\BS es=true/\∃l:List (zg×zg),(es'.toList.map λe=>(e.key,e.val)).Perm l/\l.length=es.length/\∀(i:Nat)(e:CV×CV×Nat),es[i]?=some e->∃e':zg×zg,l[i]?=some e'/\yx ρ e.1=some e'.1/\yx ρ e.2.1=some e'.2
 |.mapQ hs,.map es' _=>D=0/\∀q,q∈hs->∃s,yx ρ q.1=some (.string s)/\(match q.2 with
  |none=>iK .string (.string s) es'.toList 0=some none
  |some v=>∃V i,yx ρ v=some V/\iK .string (.string s) es'.toList 0=some (some (i,V)))
 |_,_=>False
theorem Bt.mono{ρ ρ':Ren}(h:ρ.Le ρ'){D:Nat}{o:Bp}{O:Obj}(e:Bt ρ D o O):Bt ρ' D o O:=by
 cases o with
 |row cells sh hi wr id sz ty=>
  cases O with
  |cells c t fz=>
   obtain⟨e,p,y⟩:=e;refine⟨λi hi'=>?_,?_,y⟩
   .obtain⟨v,V,g,n,f,j⟩:=e i hi';exact⟨v,V,g,AS h _ _ n,f,j⟩
   .rcases p with p|⟨B,x,A,p⟩
    .exact .inl p
    .exact .inr ⟨B,x,h.k _ _ A,p⟩
  |_=>exact e.elim
 |map es clock=>
  cases O with
  |map es' clock'=>obtain⟨w,g,l,n,f,j⟩:=e;refine⟨w,g,l,n,f,λi e he=>?_⟩;obtain⟨p,a,b,c,d⟩:=j i e he;exact⟨p,a,AS h _ _ b,AS h _ _ c,d⟩
  |_=>exact e.elim
 |siter s pos=>
  cases O with
  |stringIter s' pos'=>exact e
  |_=>exact e.elim
 |miter m since seen last=>
  cases O with
  |mapIter m' since' seen' last'=>
   obtain⟨w,g,n⟩:=e;refine⟨w,?_,n⟩;cases m with
   |none=>exact g
   |some r=>obtain⟨R,f,j⟩:=g;exact⟨R,h.b _ _ f,j⟩
  |_=>exact e.elim
 |mapU es=>
  cases O with
  |map es' clock'=>obtain⟨w,g,l,n,f,j⟩:=e;refine⟨w,g,l,n,f,λi e he=>?_⟩;obtain⟨p,a,b,c⟩:=j i e he;exact⟨p,a,AS h _ _ b,AS h _ _ c⟩
  |_=>exact e.elim
 |mapQ hs=>
  cases O with
  |map es' clock'=>
   obtain⟨w,g⟩:=e;refine⟨w,λq hq=>?_⟩;obtain⟨s,n,f⟩:=g q hq;refine⟨s,AS h _ _ n,?_⟩;cases hv:q.2 with
   |none=>rw[hv]at f;exact f
   |some v=>rw[hv]at f;obtain⟨V,i,j,z⟩:=f;exact⟨V,i,AS h _ _ j,z⟩
  |_=>exact e.elim
def St.has(S:St)(b:Nat):Prop:=∃o,S.heap.get b=some o
def St.hasW(S:St)(b:Nat):Prop:=∃o,S.heap.get b=some o/\o.wr=true
theorem St.hasW.has{S:St}{b:Nat}(h:S.hasW b):S.has b:=h.elim λo ho=>⟨o,ho.1⟩
structure Rel(ρ:Ren)(S:St)(w:ze):Prop where
 obj:∀b o,S.heap.get b=some o->∃B D O,ρ.b b=some (B,D)/\w.heap[B]?=some O/\Bt ρ D o O
 inj:∀b b'(B D D':Nat),S.has b->S.has b'->S.hasW b\/S.hasW b'->ρ.b b=some (B,D)->ρ.b b'=some (B,D')->b=b'
 fresh:∀b,S.next<=b->ρ.b b=none
 freshk:∀i,S.nk<=i->ρ.k i=none
structure Ii(N:Nat)(ρ:Ren)(S:St)(w:ze)(ρ':Ren)(S':St)(w':ze):Prop where
 ext:ρ.Le ρ'
 rel:Rel ρ' S' w'
 next:S.next<=S'.next
 nk:S.nk<=S'.nk
 keep:∀x,x<w.heap.size->(∀b D,S.hasW b->ρ.b b≠some (x,D))->w'.heap[x]?=w.heap[x]?
 size:w.heap.size<=w'.heap.size
 dom:∀b B D,S'.has b->ρ'.b b=some (B,D)->B<w.heap.size->∃b0 D0,S.has b0/\ρ.b b0=some (B,D0)
 os:w'.os=w.os
 tape:w'.tape=w.tape
 output:w'.output=w.output
 old:∀b,b<N->ρ'.b b=ρ.b b
 domW:∀b B D,S'.hasW b->ρ'.b b=some (B,D)->B<w.heap.size->∃b0 D0,S.hasW b0/\ρ.b b0=some (B,D0)
abbrev Stp(ρ:Ren)(S:St)(w:ze)(ρ':Ren)(S':St)(w':ze):Prop:=Ii S.next ρ S w ρ' S' w'
theorem Stp.refl{ρ:Ren}{S:St}{w:ze}(h:Rel ρ S w):Stp ρ S w ρ S w:=⟨.refl ρ,h,zn _,zn _,λ_ _ _=>rfl,zn _,λb _ D hb e _=>⟨b,D,hb,e⟩,rfl,rfl,rfl,λ_ _=>rfl,λb _ D hb e _=>⟨b,D,hb,e⟩⟩
theorem Ii.comp{N N':Nat}{ρ ρ1 ρ2:Ren}{S S1 S2:St}{w w1 w2:ze}(h:Ii N ρ S w ρ1 S1 w1)(h':Ii N' ρ1 S1 w1 ρ2 S2 w2)(hN:N<=N'):Ii N ρ S w ρ2 S2 w2 where
 ext:=h.ext.trans h'.ext
 rel:=h'.rel
 next:=zI h.next h'.next
 nk:=zI h.nk h'.nk
 keep:=λx hx hn=>by rw[h'.keep x (ez hx h.size) (λb D hb e=>by obtain⟨k,g,j,i⟩:=h.domW b x D hb e hx;exact hn k g j i)];exact h.keep x hx hn
 size:=zI h.size h'.size
 dom:=λb B D hb e hB=>by obtain⟨f,c,a,d⟩:=h'.dom b B D hb e (ez hB h.size);exact h.dom f B c a d hB
 os:=h'.os.trans h.os
 tape:=h'.tape.trans h.tape
 output:=h'.output.trans h.output
 old:=λb hb=>(h'.old b (ez hb hN)).trans (h.old b hb)
 domW:=λb B D hb e hB=>by obtain⟨f,c,a,d⟩:=h'.domW b B D hb e (ez hB h.size);exact h.domW f B c a d hB
theorem Stp.trans{ρ ρ1 ρ2:Ren}{S S1 S2:St}{w w1 w2:ze}(h:Stp ρ S w ρ1 S1 w1)(h':Stp ρ1 S1 w1 ρ2 S2 w2):Stp ρ S w ρ2 S2 w2:=Ii.comp h h' h.next
theorem CH(t:Nat)(v:CV)(tm:Tm)(h:t<256):Ei t (WD t v tm)=some v:=by unfold Ei WD;rw[N16.sel_upd_eq _ _ _ (by omega),N16.sel_upd_eq _ _ _ (by omega)]
theorem Cz(t u:Nat)(v:CV)(tm:Tm)(h:t<256)(h':u<256)(hn:t≠u):Ei u (WD t v tm)=Ei u tm:=by
 unfold Ei WD;by_cases e:u/16=t/16
 .rw[e,N16.sel_upd_eq _ _ _ (by omega),N16.sel_upd_ne _ _ _ _ (by omega) (by omega) (by omega)]
 .rw[N16.sel_upd_ne _ _ _ _ (by omega) (by omega) e]
theorem QX(t:Nat)(h:t<256):Ei t .empty=none:=by unfold Ei Tm.empty;rw[N16.sel_all _ _ (by omega),N16.sel_all _ _ (by omega)]
theorem yF{n m:Nat}(h:zB n m=true):n<m:=by simpa[zel]using h
theorem A9{n m:Nat}(h:ic n m=true):n<=m:=Nat.le_of_ble_eq_true h
theorem yZ{n m:Nat}(h:zD n m=true):n=m:=Nat.eq_of_beq_eq_true h
theorem CD(t:Nat)(tm:Tm):(RQ t).eval tm=if t<256 then Ei t tm else none:=by
 unfold RQ;by_cases h:t<256
 .rw[if_pos h];have a:zB t 256=true:=by simpa[zel]using h
  rw[a,cond_true,N16.selB_eq _ (by omega),N16.selB_eq _ (by omega)];rfl
 .rw[if_neg h];have a:zB t 256=false:=by
   cases e:zB t 256 with
   |false=>rfl
   |true=>exact absurd (yF e) h
  rw[a,cond_false];rfl
structure A6(ρ:Ren)(nt:Nat)(tm:Tm)(a:lH):Prop where
 size:nt<=a.tmps.size
 val:∀t v,t<256->Ei t tm=some v->∃V,yx ρ v=some V/\a.tmps[t]?=some V
theorem A6.mono{ρ ρ':Ren}{nt:Nat}{tm:Tm}{a:lH}(h:A6 ρ nt tm a)(hl:ρ.Le ρ'):A6 ρ' nt tm a:=⟨h.size,λt v ht e=>by obtain⟨V,b,c⟩:=h.val t v ht e;exact⟨V,AS hl _ _ b,c⟩⟩
theorem EV{nt:Nat}{dst:Option Tmp}{x:Dst}(h:Dg nt dst=some x):(dst=none/\∀v tm,De x v tm=tm)\/∃d:Nat,dst=some d/\d<nt/\d<256/\∀v tm,De x v tm=WD d v tm:=by
 cases dst with
 |none=>simp[Dg]at h;subst h;exact .inl ⟨rfl,λ_ _=>rfl⟩
 |some d=>
  simp only[Dg]at h;cases e:(zB d nt&&zB d 256)with
  |false=>rw[e]at h;simp at h
  |true=>rw[e,cond_true]at h;simp only[zo]at e;have a:=yF e.1;have b:=yF e.2;rw[N16.selB_eq _ (by omega),N16.updB_eq _ (by omega),N16.updB_eq _ (by omega)]at h;simp only[zb]at h;subst h;exact .inr ⟨d,rfl,a,b,λ_ _=>rfl⟩
theorem A6.put{ρ:Ren}{nt:Nat}{tm:Tm}{a:lH}(h:A6 ρ nt tm a){dst:Option Tmp}{x:Dst}(hd:Dg nt dst=some x){v:CV}{V:zg}(hv:yx ρ v=some V):A6 ρ nt (De x v tm) (a.put dst V):=by
 rcases EV hd with⟨rfl,f⟩|⟨d,rfl,k,i,f⟩
 .rw[f];exact h
 .rw[f];refine⟨by simpa[z8]using h.size,λt u ht e=>?_⟩;by_cases b:d=t
  .subst b;rw[CH _ _ _ i]at e;cases e;refine⟨V,hv,?_⟩;simp only[z8];rw[Array.getElem?_setIfInBounds_self_of_lt (by have:=h.size;omega)]
  .have c:¬(d:Nat)=t:=b;rw[Cz _ _ _ _ i ht c]at e;obtain⟨U,j,g⟩:=h.val t u ht e;refine⟨U,j,?_⟩;simp only[z8];rw[Array.getElem?_setIfInBounds_ne b];exact g
theorem BO(a:lH)(dst:Option Tmp)(V:zg):(a.put dst V).defers=a.defers:=by cases dst<;>rfl
theorem LA(s:ByteArray):yH (s.data.toList.map zcs)=s:=by
 unfold yH;rw[List.map_map];have:(eX∘zcs)=id:=by funext x;simp
 rw[this,List.map_id]
theorem JH{ρ:Ren}{f:zg->Option CV}(hf:∀v c,f v=some c->yx ρ c=some v):∀(l:List zg)(L:List CV),l.mapM f=some L->yG ρ L=some l
 |[],L,h=>by simp at h;subst h;rfl
 |v::l,L,h=>by rw[List.mapM_cons]at h;simp only[Option.pure_def,Option.bind_eq_bind,zu,zb]at h;obtain⟨c,hc,C,hC,rfl⟩:=h;exact BM (hf _ _ hc) (JH hf l C hC)
theorem E8{ρ:Ren}:∀(n:Nat)(v:zg)(c:CV),ofV n v=some c->yx ρ c=some v
 |0,v,c,h=>by simp[ofV]at h
 |n+1,v,c,h=>by
  unfold ofV at h;split at h
  .cases h;rfl
  .cases h;rfl
  .cases h;simp[yx,LA]
  .cases h;rfl
  .cases h;rfl
  .cases h;rfl
  .cases h;rfl
  .cases h;rfl
  .rename_i f fi ca;split at h
   .rename_i he;cases h;simp only[zo,Array.isEmpty_iff]at he;obtain⟨h1,h2⟩:=he;subst h1;subst h2;simp[yx,yG]
   .cases h
  .rename_i cs;simp only[zh]at h;obtain⟨L,a,rfl⟩:=h;have:=JH (ρ:=ρ) (λv c=>E8 n v c) _ _ a;simp[yx,this]
  .rename_i cs;simp only[zh]at h;obtain⟨L,a,rfl⟩:=h;have:=JH (ρ:=ρ) (λv c=>E8 n v c) _ _ a;simp[yx,this]
  .cases h
def FE(P:zZ)(ρ:Ren):Prop:=∀g,g<P.globals.size->ρ.b g=some (g,0)
theorem FE.mono{P:zZ}{ρ ρ':Ren}(h:FE P ρ)(hl:ρ.Le ρ'):FE P ρ':=λg hg=>hl.b _ _ (h g hg)
theorem ym{P:zZ}{ρ:Ren}{nt:Nat}{tm:Tm}{a:lH}(h:A6 ρ nt tm a)(hg:FE P ρ)(x:eo)(v:CV)(e:(opd P x).eval tm=some v):yx ρ v=some (a.eval x):=by
 cases x with
 |tmp t=>
  simp only[opd,CD]at e;split at e
  .rename_i ht;obtain⟨V,b,d⟩:=h.val t v ht e;simp[zcv,b,d]
  .cases e
 |const c=>
  simp only[opd]at e;split at e
  .rename_i c' hc;have:v=c':=by simpa[Opd.eval]using e.symm
   subst this;simpa[zcv]using E8 _ _ _ hc
  .simp[Opd.eval]at e
 |global g=>
  simp only[opd]at e;cases hb:zB g P.globals.size with
  |false=>rw[hb]at e;simp[Opd.eval]at e
  |true=>
   rw[hb]at e;have:v=.ptr g 0:=by simpa[Opd.eval]using e.symm
   subst this;simp[yx,hg g (yF hb),zcv]
 |func f=>
  have:v=.func f [] []:=by simpa[opd,Opd.eval]using e.symm
  subst this;simp[yx,yG,zcv]
theorem GY(x:Opd)(l:List Opd)(tm:Tm):If (x::l) tm=(x.eval tm).bind λv=>(If l tm).bind λvs=>some (v::vs):=by
 have h:If (x::l) tm=iO (motive:=λ_=>Option (List CV)) none (λv=>iO (motive:=λ_=>Option (List CV)) none (λvs=>some (v::vs)) (If l tm)) (x.eval tm):=rfl;rw[h];cases x.eval tm with
 |none=>rfl
 |some v=>cases If l tm<;>rfl
theorem GJ{P:zZ}{ρ:Ren}{nt:Nat}{tm:Tm}{a:lH}(h:A6 ρ nt tm a)(hg:FE P ρ):∀(xs:List eo)(vs:List CV),If (Rg P xs) tm=some vs->yG ρ vs=some (xs.map a.eval)
 |[],vs,e=>by
  have:vs=[]:=by simpa[Rg,If]using e.symm
  subst this;rfl
 |x::xs,vs,e=>by rw[Rg,GY]at e;simp only[zu,zb]at e;obtain⟨v,c,d,b,rfl⟩:=e;exact BM (ym h hg x v c) (GJ h hg xs d b)
theorem Be{P:zZ}{t:zL}{i:TyE}(h:Ac P t=some i):∃info,P.info? t=some info/\P.underlying t=some i.desc/\info.size=i.size/\info.bytes=i.bytes/\info.zero=i.zero:=by
 unfold Ac at h;split at h
 .cases h
 .rename_i info hi;split at h
  .cases h
  .rename_i d hd;cases h;exact⟨info,hi,hd,rfl,rfl,rfl⟩
section
variable{P:zZ} {t:zL} {i:TyE} (h:Ac P t=some i) (w:ze)
include h
theorem Gq:∃info,(typeInfo t).run P w=.ok info w/\info.size=i.size/\info.bytes=i.bytes/\info.zero=i.zero:=by obtain⟨info,a,c,b⟩:=Be h;exact⟨info,by simp[typeInfo,a],b⟩
theorem yg:(underlying t).run P w=.ok i.desc w:=by obtain⟨a,c,b,d⟩:=Be h;simp[underlying,b]
theorem yW:(sizeOf t).run P w=.ok i.size w:=by obtain⟨a,b,c,d⟩:=Gq h w;simp[sizeOf,b,c]
theorem E3:(isAgg t).run P w=.ok (Bs i.desc) w:=by simp only[isAgg,zK,yg h w,zr];cases i.desc<;>rfl
end
theorem AD{P:zZ}{t:zL}{z:CV}(h:BW P t=some z){ρ:Ren}(w:ze):∃Z,(zeroValue t).run P w=.ok Z w/\yx ρ z=some Z:=by
 unfold BW at h;split at h
 .cases h
 .rename_i i hi;split at h
  .cases h
  .rename_i v hv;obtain⟨b,c,d,f,a⟩:=Gq hi w;rw[hv]at a;exact⟨v,by simp[zeroValue,c,a],E8 _ _ _ h⟩
def Ax(P:zZ)(o:Oper)(f:Tm->Option CV):Prop:=∀(ρ:Ren)(nt:Nat)(tm:Tm)(a:lH)(v:CV),A6 ρ nt tm a->FE P ρ->f tm=some v->∃V,yx ρ v=some V/\∀w,(execOp a.eval o).run P w=.ok (.value V) w
theorem AJ{x:Opd}{f:CV->Option CV}{tm:Tm}{v:CV}(h:BE x f tm=some v):∃u,x.eval tm=some u/\f u=some v:=by
 unfold BE at h;cases e:x.eval tm with
 |none=>rw[e]at h;cases h
 |some u=>rw[e]at h;exact⟨u,rfl,h⟩
theorem Bj{x y:Opd}{f:CV->CV->Option CV}{tm:Tm}{v:CV}(h:Ca x y f tm=some v):∃u t,x.eval tm=some u/\y.eval tm=some t/\f u t=some v:=by
 unfold Ca at h;cases e:x.eval tm with
 |none=>rw[e]at h;cases h
 |some u=>
  rw[e]at h;cases e':y.eval tm with
  |none=>rw[e']at h;cases h
  |some t=>rw[e']at h;exact⟨u,t,rfl,rfl,h⟩
section
variable{P:zZ} {o:Oper}
theorem Sz{x:eo}(ho:o.op=.move x):Ax P o (opd P x).eval:=by intro ρ nt tm a v hf hg h;exact⟨_,ym hf hg x v h,λw=>by simp[execOp,ho]⟩
theorem Pz{x:eo}(ho:o.op=.assign x):Ax P o (opd P x).eval:=by intro ρ nt tm a v hf hg h;exact⟨_,ym hf hg x v h,λw=>by simp[execOp,ho]⟩
theorem SK{c x y:eo}(ho:o.op=.pick c x y):Ax P o (QI (opd P c) (opd P x) (opd P y)):=by
 intro ρ nt tm a v hf hg h;unfold QI at h;split at h
 .rename_i t ht;have b:=ym hf hg c _ ht;simp only[yx,zb]at b;cases t with
  |true=>rw[cond_true]at h;exact⟨_,ym hf hg x v h,λw=>by simp[execOp,ho,asBool,<-b]⟩
  |false=>rw[cond_false]at h;exact⟨_,ym hf hg y v h,λw=>by simp[execOp,ho,asBool,<-b]⟩
 .cases h
theorem Me{x:eo}(ho:o.op=.nilCheck x):Ax P o (BE (opd P x) I7):=by
 intro ρ nt tm a v hf hg h;obtain⟨u,d,h⟩:=AJ h;have b:=ym hf hg x u d;cases u<;>simp only[I7,zb,reduceCtorEq]at h<;>subst h
 .simp only[yx,zh]at b;obtain⟨y,c,e⟩:=b;refine⟨_,by simp only[yx,c,zQ];rfl,λw=>?_⟩;simp[execOp,ho,<-e]
 .simp only[yx,zu,zh]at b;obtain⟨y,c,z,f,e⟩:=b;refine⟨_,by simp only[yx,c,f,iG,zQ];rfl,λw=>?_⟩;simp[execOp,ho,<-e]
theorem Vn{t:zL}{x:eo}(ho:o.op=.unOp .not t x):Ax P o (BE (opd P x) XH):=by intro ρ nt tm a v hf hg h;obtain⟨u,c,h⟩:=AJ h;have b:=ym hf hg x u c;cases u<;>simp only[XH,zb,reduceCtorEq]at h<;>subst h;simp only[yx,zb]at b;exact⟨_,rfl,λw=>by simp[execOp,ho,<-b,Op.unary]⟩
theorem D5(b:Nat)(n:Int)(h1:-(2^b:Int)<=n)(h2:n<2^b):(if(true&&decide (n%(2^(b+1):Int)>=(2^b:Int)))=true then n%(2^(b+1):Int) -(2^(b+1):Int)else n%(2^(b+1):Int))=n:=by
 have c:(2:Int)^(b+1)=2*2^b:=by rw[Int.pow_succ];omega
 rw[c];generalize(2:Int)^b=q at*;by_cases a:0<=n
 .rw[za9 a (by omega)];simp;omega
 .have:n%(2*q)=n+2*q:=by rw[<-Int.add_emod_right,za9 (by omega) (by omega)]
  rw[this];simp;omega
theorem CO(b:Nat)(n:Int)(h1:0<=n)(h2:n<2^b):(if(false&&decide (n%(2^b:Int)>=(2^(b-1):Int)))=true then n%(2^b:Int) -(2^b:Int)else n%(2^b:Int))=n:=by simp only[Bool.false_and,zH,if_false];exact za9 h1 h2
theorem U6(k:iB):((fits k:Nat):Int)=2^(if k.signed then k.bits-1 else k.bits):=by cases k<;>rfl
theorem N1(k:iB)(n:Int)(h1:(if k.signed then-((fits k:Nat):Int)else 0)<=n)(h2:n<(fits k:Nat)):k.wrap n=n:=by
 unfold IntKind.wrap;have a:=U6 k;cases k<;>simp only[IntKind.signed,if_true,zH,if_false,IntKind.bits]at a h1 h2⊢<;>rw[a]at h2<;>(try rw[a]at h1)
 .exact D5 7 n h1 h2
 .exact D5 15 n h1 h2
 .exact D5 31 n h1 h2
 .exact D5 63 n h1 h2
 .exact CO 8 n h1 h2
 .exact CO 16 n h1 h2
 .exact CO 32 n h1 h2
 .exact CO 64 n h1 h2
theorem Ns(k:iB)(n:Int):wr k n=k.wrap n:=by
 unfold wr;cases n with
 |ofNat m=>
  simp only;cases h:zB m (fits k)with
  |false=>rfl
  |true=>
   have h:=yF h;rw[cond_true,N1]
   .split<;>simp<;>omega
   .simpa using h
 |negSucc m=>
  simp only;cases h:(k.signed&&zB m (fits k))with
  |false=>rfl
  |true=>
   simp only[zo]at h;obtain⟨b,a⟩:=h;have a:=yF a;rw[cond_true,N1]
   .rw[b];simp;omega
   .omega
theorem US{t:zL}{x:eo}(ho:o.op=.unOp .neg t x):Ax P o (BE (opd P x) XE):=by intro ρ nt tm a v hf hg h;obtain⟨u,c,h⟩:=AJ h;have b:=ym hf hg x u c;cases u<;>simp only[XE,zb,reduceCtorEq]at h<;>subst h;simp only[yx,zb]at b;exact⟨_,rfl,λw=>by rw[Ns];simp[execOp,ho,<-b,Op.unary,Op.intArith];rw[show Int.sub 0 _=-_ from Int.zero_sub _]⟩
theorem Mw{t:zL}{x:eo}{i:TyE}(ht:Ac P t=some i)(hi:∀ms,i.desc≠ .interface ms)(ho:o.op=.makeInterface t x):Ax P o (BE (opd P x) (N8 t)):=by intro ρ nt tm a v hf hg h;obtain⟨u,b,h⟩:=AJ h;have c:=ym hf hg x u b;simp only[N8,zb]at h;subst h;refine⟨.iface t (a.eval x),by simp[yx,c],λw=>?_⟩;have:=yg ht w;simp only[execOp,ho,Instr.makeInterface,zK,this,zr];cases hd:i.desc<;>simp_all
theorem OZ{f:FuncId}{fi ca:Array eo}(ho:o.op=.makeFunc (.func f) fi ca):Ax P o (KF f (Rg P fi.toList) (Rg P ca.toList)):=by
 intro ρ nt tm a v hf hg h;unfold KF at h;split at h
 .rename_i x y hx hy;cases h;have b:=GJ hf hg _ _ hx;have c:=GJ hf hg _ _ hy;refine⟨.func (.func f) (fi.map a.eval) (ca.map a.eval),?_,λw=>by simp[execOp,ho,Instr.makeFunc]⟩;simp only[yx,b,c,iG,zQ,zb,zet,true_and];constructor<;>(apply iq;simp)
 .cases h
theorem MP{t:eo}{i:Nat}(ho:o.op=.extract t i):Ax P o (BE (opd P t) (Ly i)):=by intro ρ nt tm a v hf hg h;obtain⟨u,f,h⟩:=AJ h;have c:=ym hf hg t u f;cases u<;>simp only[Ly,reduceCtorEq]at h;simp only[yx,zh]at c;obtain⟨L,d,e⟩:=c;obtain⟨V,g,b⟩:=AX d i v h;exact⟨V,g,λw=>by simp[execOp,ho,Instr.extract,<-e,b]⟩
theorem Ng{s t:zL}{x:eo}{i j:TyE}{k k':iB}(hs:Ac P s=some i)(ht:Ac P t=some j)(hi:i.desc=.int k')(hj:j.desc=.int k)(ho:o.op=.convert s t x):Ax P o (BE (opd P x) (OT k)):=by intro ρ nt tm a v hf hg h;obtain⟨u,f,h⟩:=AJ h;have c:=ym hf hg x u f;cases u<;>simp only[OT,zb,reduceCtorEq]at h<;>subst h;simp only[yx,zb]at c;refine⟨_,rfl,λw=>?_⟩;have b:=yg hs w;have d:=yg ht w;rw[hi]at b;rw[hj]at d;simp[execOp,ho,convert,b,d,<-c,Conv.intToInt,Ns]
theorem NL{s t:zL}{x:eo}{i j:TyE}(hs:Ac P s=some i)(ht:Ac P t=some j)(hi:i.desc=.string)(hj:j.desc=.string)(ho:o.op=.convert s t x):Ax P o (BE (opd P x) OE):=by intro ρ nt tm a v hf hg h;obtain⟨u,f,h⟩:=AJ h;have c:=ym hf hg x u f;cases u<;>simp only[OE,zb,reduceCtorEq]at h<;>subst h;simp only[yx,zb]at c;refine⟨_,rfl,λw=>?_⟩;have b:=yg hs w;have d:=yg ht w;rw[hi]at b;rw[hj]at d;simp[execOp,ho,convert,b,d,<-c]
theorem KP{ρ:Ren}:∀{l:List CV}{L:List zg}(n:Nat),yG ρ l=some L->yG ρ (l.drop n)=some (L.drop n)
 |l,L,0,e=>by simpa using e
 |[],L,n+1,e=>by simp[yG]at e;subst e;rfl
 |v::l,L,n+1,e=>by simp only[yG,zu,zh]at e;obtain⟨x,hx,y,hy,rfl⟩:=e;simpa using KP n hy
theorem Kf{ρ:Ren}:∀{l:List CV}{L:List zg}(n:Nat),yG ρ l=some L->yG ρ (l.take n)=some (L.take n)
 |l,L,0,e=>by simp[yG]
 |[],L,n+1,e=>by simp[yG]at e;subst e;rfl
 |v::l,L,n+1,e=>by simp only[yG,zu,zh]at e;obtain⟨x,hx,y,hy,rfl⟩:=e;simpa using BM hx (Kf n hy)
theorem Dq{ρ:Ren}{t:zL}{i:TyE}(ht:Ac P t=some i){cs:List CV}{L:List zg}(hL:yG ρ cs=some L){off:Nat}{v:CV}(h:IK i.size (Bs i.desc) cs off=some v):∃V,yx ρ v=some V/\∀w,(part t L.toArray off).run P w=.ok V w:=by
 unfold IK at h;cases hb:Bs i.desc with
 |true=>rw[hb,cond_true]at h;cases h;refine⟨.agg ((L.drop off).take i.size).toArray,by simp[yx,Kf _ (KP _ hL)],λw=>?_⟩;simp only[part,zK,E3 ht w,hb,zr,if_true,yW ht w,zP];congr 2;apply iq;simp[zdx]
 |false=>rw[hb,cond_false]at h;obtain⟨V,b,a⟩:=AX hL off v h;refine⟨V,b,λw=>?_⟩;simp[part,E3 ht w,hb,a]
theorem QQ{t:zL}{x:eo}{f:Nat}{i:TyE}{fields:Array ib}{fd:ib}{fi:TyE}(ht:Ac P t=some i)(hi:i.desc=.struct fields)(hfd:fields[f]?=some fd)(hfi:Ac P fd.type=some fi)(ho:o.op=.field t x f):Ax P o (BE (opd P x) (SX fi.size (Bs fi.desc) fd.offset)):=by intro ρ nt tm a v hf hg h;obtain⟨u,j,h⟩:=AJ h;have d:=ym hf hg x u j;cases u<;>simp only[SX,reduceCtorEq]at h;simp only[yx,zh]at d;obtain⟨L,g,e⟩:=d;obtain⟨V,k,b⟩:=Dq hfi g h;refine⟨V,k,λw=>?_⟩;have c:=yg ht w;rw[hi]at c;simp[execOp,ho,Instr.field,c,hfd,<-e,asAgg,b]
theorem J1{t:zL}{x:eo}{f:Nat}{i:TyE}{fields:Array ib}{fd:ib}{fi:TyE}(ht:Ac P t=some i)(hi:i.desc=.struct fields)(hfd:fields[f]?=some fd)(hfi:Ac P fd.type=some fi)(hz:fi.size≠0)(ho:o.op=.fieldAddr t x f):Ax P o (BE (opd P x) (Hd fd.offset)):=by intro ρ nt tm a v hf hg h;obtain⟨u,j,h⟩:=AJ h;have d:=ym hf hg x u j;cases u<;>simp only[Hd,zb,reduceCtorEq]at h;subst h;simp only[yx,zh]at d;obtain⟨y,k,e⟩:=d;rename_i b off;refine⟨.pointer (some ⟨y.1,off+fd.offset+y.2,none⟩),by simp[yx,k],λw=>?_⟩;have c:=yg ht w;rw[hi]at c;have g:=yW hfi w;simp[execOp,ho,Instr.fieldAt,c,hfd,<-e,zbr,fieldPlace,g,hz,Addr.add];split<;>simp_all;omega
end
theorem Cg{v:CV}{n:Nat}(h:LT v=some n):∃k,v=.int k (.ofNat n):=by
 unfold LT at h;split at h
 .cases h;exact⟨_,rfl⟩
 .cases h
def Bnd(a:lH)(x:Option eo)(r:Option Nat):Prop:=
 match x,r with
 |none,none=>True
 |some x,some n=>∃k,a.eval x=.int k (.ofNat n)
 |_,_=>False
section
variable{P:zZ} {o:Oper}
theorem FP{ρ:Ren}{nt:Nat}{tm:Tm}{a:lH}(hf:A6 ρ nt tm a)(hg:FE P ρ){x:Option eo}{r:Option Nat}(h:Gy (x.map (opd P)) tm=some r):Bnd a x r:=by
 cases x with
 |none=>simp[Gy]at h;subst h;trivial
 |some x=>
  simp only[Gy,zQ]at h;split at h
  .rename_i v hv;split at h
   .rename_i n hn;cases h;obtain⟨k,rfl⟩:=Cg hn;have:=ym hf hg x _ hv;simp only[yx,zb]at this;exact⟨k,this.symm⟩
   .cases h
  .cases h
theorem Dw(k:iB)(n y:Nat)(code:BoundsCode)(h:n<=y)(w:ze):(zcW (.int k (.ofNat n)) y code).run P w=.ok n w:=by simp[zcW,asIntOf,h]
theorem BU{a:lH}(isSlice:Bool)(len cap:Nat){lo hi mx:Option eo}{l h m:Option Nat}(hl:Bnd a lo l)(hh:Bnd a hi h)(hm:Bnd a mx m)
  (h1:l.getD 0<=h.getD len)(h2:h.isSome=true->h.getD len<=m.getD cap)(h3:m.isSome=true->h.isSome=true/\m.getD cap<=cap)(w:ze):
  (zcH isSlice len cap (lo.map a.eval) (hi.map a.eval) (mx.map a.eval)).run P w=.ok (l.getD 0,h.getD len,m.getD cap) w:=by
 unfold zcH
 cases lo<;>cases l<;>simp only[Bnd]at hl<;>cases hi<;>cases h<;>simp only[Bnd]at hh<;>cases mx<;>cases m<;>simp only[Bnd]at hm
 all_goals simp only[eE,iP,zaP,zad,zH,forall_const,false_implies,false_and,imp_false]at h1 h2 h3
 all_goals(try(obtain⟨i,c⟩:=hl))<;>(try(obtain⟨g,b⟩:=hh))<;>(try(obtain⟨f,d⟩:=hm))
 all_goals simp only[zQ,zcX,zK,zP,zr,eE,iP,zaP,zad]
 all_goals(try rw[d])<;>(try rw[b])<;>(try rw[c])
 all_goals(try rw[Dw _ _ _ _ (by omega)])<;>simp only[zr]
 all_goals(try rw[Dw _ _ _ _ (by omega)])<;>(try simp only[zr])
 all_goals(try rw[Dw _ _ _ _ (by omega)])<;>(try simp only[zr])
theorem FO{k:SlK}{x:eo}{lo hi mx:Option eo}{ρ:Ren}{nt:Nat}{tm:Tm}{a:lH}(hf:A6 ρ nt tm a)(hg:FE P ρ){v:CV}(h:EI k (opd P x) (lo.map (opd P)) (hi.map (opd P)) (mx.map (opd P)) tm=some v):∃u l h' m,yx ρ u=some (a.eval x)/\Bnd a lo l/\Bnd a hi h'/\Bnd a mx m/\MR k u l h' m=some v:=by
 unfold EI at h;split at h
 .rename_i u l h' m h1 h2 h3 h4;exact⟨u,l,h',m,ym hf hg x _ h1,FP hf hg h2,FP hf hg h3,FP hf hg h4,h⟩
 .cases h
theorem Px{a:lH}{x:Option eo}(h:Bnd a x none):x=none:=by cases x<;>simp_all [Bnd]
theorem AL(s:List Nat):(yH s).size=s.length:=by simp[yH,ByteArray.size]
theorem Lg(s:List Nat)(l h:Nat):yH ((s.drop l).take (h-l))=(yH s).extract l h:=by apply ByteArray.ext;rw[ByteArray.data_extract];apply iq;simp[yH,List.map_take,List.map_drop,zdx]
theorem K8{t:zL}{x:eo}{lo hi mx:Option eo}{i:TyE}(ht:Ac P t=some i)(hi':i.desc=.string)(ho:o.op=.slice t x lo hi mx):Ax P o (EI .str (opd P x) (lo.map (opd P)) (hi.map (opd P)) (mx.map (opd P))):=by
 intro ρ nt tm a v hf hg h;obtain⟨u,l,k,m,f,r,p,j,b⟩:=FO hf hg h;clear h;cases u<;>simp only[MR,reduceCtorEq]at b;rename_i s;cases m with
 |some m=>cases b
 |none=>
  simp only at b;have d:=Px j;subst d;unfold Qi at b;cases hc:(ic (l.getD 0) (k.getD s.length)&&ic (k.getD s.length) s.length)with
  |false=>rw[hc]at b;cases b
  |true=>rw[hc,cond_true]at b;cases b;simp only[zo]at hc;have n:=A9 hc.1;have q:=A9 hc.2;simp only[yx,zb]at f;refine⟨_,rfl,λw=>?_⟩;have c:=yg ht w;rw[hi']at c;have g:=BU (P:=P) (w:=w) false s.length s.length r p j n (λ_=>q) (λh=>by simp at h);simp only[zcX]at g;simp[execOp,ho,zaI,c,zce,<-f,AL,g,Lg]
theorem PX{ρ:Ren}{c:Cap}{n l:Nat}(hc:ρ.cap c=some n)(h:Il l c=true):l<=n:=by
 cases c with
 |ex m=>simp only[Ren.cap,zb]at hc;subst hc;exact A9 h
 |sy i base=>simp only[Ren.cap,zh]at hc;obtain⟨x,a,rfl⟩:=hc;have:=A9 h;omega
theorem GL(B off n:Nat):(⟨B,off,none⟩:Addr).add n=⟨B,off+n,none⟩:=by unfold Addr.add;split<;>simp_all
theorem N3{ρ:Ren}{size b off len:Nat}{c:Cap}{l h' m:Option Nat}{v:CV}(h:LW size b off len c (l.getD 0) h' m=some v){B D n:Nat}(hb:ρ.b b=some (B,D))(hc:ρ.cap c=some n):l.getD 0<=h'.getD len/\(h'.isSome=true->h'.getD len<=m.getD n)/\(m.isSome=true->h'.isSome=true/\m.getD n<=n)/\yx ρ v=some (.slice (some (if m.getD n=l.getD 0 then⟨B,off+D,none⟩else⟨B,off+D+l.getD 0*size,none⟩)) (h'.getD len-l.getD 0) (m.getD n-l.getD 0)):=by
 unfold LW at h;cases g:ic (l.getD 0) (h'.getD len)with
 |false=>rw[g]at h;cases h
 |true=>
  rw[g,cond_true]at h;have g:=A9 g;cases m with
  |none=>
   simp only at h;cases h2:Il (h'.getD len) c with
   |false=>rw[h2]at h;cases h
   |true=>
    rw[h2,cond_true]at h;have i:=PX hc h2;cases d:PI c (l.getD 0)with
    |none=>
     rw[d]at h;cases c with
     |ex q=>cases h
     |sy id base=>
      simp only[VF]at h;cases a:zD (l.getD 0) base with
      |false=>rw[a]at h;cases h
      |true=>
       rw[a,cond_true]at h;cases h;have a:=yZ a;have j:h'.getD len<=base:=A9 h2;simp only[Ren.cap,zh]at hc;obtain⟨x,k,rfl⟩:=hc;refine⟨g,λ_=>by simpa using i,λh=>by simp at h,?_⟩;simp only[iP,yx,hb,iG,k,zQ,zb,lg];refine⟨?_,by omega,by omega⟩;by_cases o:x=0
       .rw[if_pos o,if_pos (by omega),Nat.add_zero]
       .rw[if_neg o,if_neg (by omega)]
    |some c'=>
     rw[d]at h;cases h;refine⟨g,λ_=>by simpa using i,λh=>by simp at h,?_⟩;simp only[iP];cases c with
     |ex q=>
      simp only[Ren.cap,zb]at hc;subst hc;simp only[PI]at d;cases a:ic (l.getD 0) q with
      |false=>rw[a]at d;cases d
      |true=>
       rw[a,cond_true]at d;cases d;simp only[yx,hb,iG,Ren.cap,zQ,Wm,zb,lg,true_and,and_true];by_cases f:q=l.getD 0
       .rw[Dy f,if_pos f,cond_true]
       .rw[Fs f,if_neg f,cond_false];congr 1;omega
     |sy id base=>
      simp only[Ren.cap,zh]at hc;obtain⟨x,k,rfl⟩:=hc;simp only[PI]at d;cases a:zB (l.getD 0) base with
      |false=>rw[a]at d;cases d
      |true=>
       rw[a,cond_true]at d;cases d;have a:=yF a;rw[if_neg (by omega)];simp only[yx,hb,iG,Ren.cap,k,zQ,Wm,cond_false,zb,lg,true_and];constructor
       .congr 1;omega
       .omega
  |some m=>
   simp only at h;cases h2:(h'.isSome&&ic (h'.getD len) m&&Il m c)with
   |false=>rw[h2]at h;cases h
   |true=>
    rw[h2,cond_true]at h;cases h;simp only[zo]at h2;obtain⟨⟨d,a⟩,j⟩:=h2;have a:=A9 a;have j:=PX hc j;refine⟨g,λ_=>by simpa using a,λ_=>⟨d,by simpa using j⟩,?_⟩;simp only[eE,yx,hb,iG,Ren.cap,zQ,zb,lg,true_and,and_true];by_cases f:m=l.getD 0
    .rw[Dy f,if_pos f,cond_true]
    .rw[Fs f,if_neg f,cond_false];congr 1;omega
theorem Ni{t:zL}{x:eo}{lo hi mx:Option eo}{i:TyE}{e:zL}{ei:TyE}(ht:Ac P t=some i)(hi':i.desc=.slice e)(he:Ac P e=some ei)(ho:o.op=.slice t x lo hi mx):Ax P o (EI (.sl ei.size) (opd P x) (lo.map (opd P)) (hi.map (opd P)) (mx.map (opd P))):=by
 intro ρ nt tm a v hf hg h;obtain⟨u,l,p,m,g,s,r,q,h⟩:=FO hf hg h;cases u<;>simp only[MR,reduceCtorEq]at h
 .
  cases k:(Gp l&&Gp p&&Gp m&&XA p m)with
  |false=>rw[k]at h;cases h
  |true=>
   rw[k,cond_true]at h;cases h;simp only[zo]at k;obtain⟨⟨⟨H,J⟩,L⟩,I⟩:=k;simp only[yx,zb]at g;refine⟨_,rfl,λw=>?_⟩;have d:=yg ht w;rw[hi']at d;have f:=yW he w;have A:l.getD 0=0:=by cases l<;>simp_all [Gp]
   have z:p.getD 0=0:=by cases p<;>simp_all [Gp]
   have G:m.getD 0=0:=by cases m<;>simp_all [Gp]
   have j:=BU (P:=P) (w:=w) true 0 0 s r q (by omega) (λ_=>by omega) (λhm'=>⟨by cases p<;>cases m<;>simp_all [XA],by omega⟩);rw[A,z,G]at j;simp[execOp,ho,zaI,d,zce,<-g,j,f]
 .rename_i b off len c;simp only[yx,zu,zh]at g;obtain⟨⟨B,D⟩,j,n,k,g⟩:=g;obtain⟨y,F,C,E⟩:=N3 h j k;refine⟨_,E,λw=>?_⟩;have d:=yg ht w;rw[hi']at d;have f:=yW he w;have j:=BU (P:=P) (w:=w) true len n s r q y F C;simp[execOp,ho,zaI,d,zce,<-g,j,f,GL];split<;>simp_all
theorem LC{t:zL}{x:eo}{lo hi mx:Option eo}{i:TyE}{e:zL}{ei:TyE}{n:Nat}(ht:Ac P t=some i)(hi':i.desc=.array n e)(he:Ac P e=some ei)(ho:o.op=.slice t x lo hi mx):Ax P o (EI (.arr n ei.size) (opd P x) (lo.map (opd P)) (hi.map (opd P)) (mx.map (opd P))):=by intro ρ nt tm a v hf hg h;obtain⟨u,l,z,m,d,s,k,y,h⟩:=FO hf hg h;cases u<;>simp only[MR,reduceCtorEq]at h;rename_i b off;simp only[yx,zh]at d;obtain⟨⟨B,D⟩,g,d⟩:=d;obtain⟨j,q,r,p⟩:=N3 h g rfl;refine⟨_,p,λw=>?_⟩;have c:=yg ht w;rw[hi']at c;have f:=yW he w;have g:=BU (P:=P) (w:=w) false n n s k y j q r;simp[execOp,ho,zaI,c,<-d,g,f,GL,zbr]
theorem Hk{t:zL}{x ix:eo}{i:TyE}{e:zL}{ei:TyE}{n:Nat}(ht:Ac P t=some i)(hi':i.desc=.array n e)(he:Ac P e=some ei)(ho:o.op=.indexAddr t x ix):Ax P o (Ca (opd P x) (opd P ix) (Eo n ei.size)):=by
 intro ρ nt tm a v hf hg h;obtain⟨u,y,g,f,c⟩:=Bj h;have l:=ym hf hg x u g;have p:=ym hf hg ix y f;clear g f h;unfold Eo at c;split at c
 .rename_i b off q hq;obtain⟨k,rfl⟩:=Cg hq;cases j:zB q n with
  |false=>rw[j]at c;cases c
  |true=>rw[j,cond_true]at c;cases c;have j:=yF j;simp only[yx,zh]at l;obtain⟨⟨B,D⟩,r,l⟩:=l;simp only[yx,zb]at p;refine⟨.pointer (some ⟨B,off+q*ei.size+D,none⟩),by simp[yx,r],λw=>?_⟩;have d:=yg ht w;rw[hi']at d;have m:=yW he w;simp[execOp,ho,zdy,asIntOf,<-p,d,<-l,zbr,j,m,GL];omega
 .cases c
theorem Ik{t:zL}{x ix:eo}{i:TyE}{e:zL}{ei:TyE}(ht:Ac P t=some i)(hi':i.desc=.slice e)(he:Ac P e=some ei)(ho:o.op=.indexAddr t x ix):Ax P o (Ca (opd P x) (opd P ix) (FH ei.size)):=by
 intro ρ nt tm a v hf hg h;obtain⟨u,y,j,g,d⟩:=Bj h;have n:=ym hf hg x u j;have r:=ym hf hg ix y g;clear j g h;unfold FH at d;split at d
 .rename_i b off len c q hq;obtain⟨k,rfl⟩:=Cg hq;cases l:zB q len with
  |false=>rw[l]at d;cases d
  |true=>rw[l,cond_true]at d;cases d;have l:=yF l;simp only[yx,zu,zh]at n;obtain⟨⟨B,D⟩,s,m,z,n⟩:=n;simp only[yx,zb]at r;refine⟨.pointer (some ⟨B,off+q*ei.size+D,none⟩),by simp[yx,s],λw=>?_⟩;have f:=yg ht w;rw[hi']at f;have p:=yW he w;simp[execOp,ho,zdy,asIntOf,<-r,f,<-n,l,p,GL];omega
 .cases d
theorem LS{t:zL}{x ix:eo}{i:TyE}{e:zL}{ei:TyE}{n:Nat}(ht:Ac P t=some i)(hi':i.desc=.array n e)(he:Ac P e=some ei)(ho:o.op=.index t x ix):Ax P o (Ca (opd P x) (opd P ix) (Lc n ei.size (Bs ei.desc))):=by
 intro ρ nt tm a v hf hg h;obtain⟨u,y,f,d,b⟩:=Bj h;have j:=ym hf hg x u f;have p:=ym hf hg ix y d;clear f d h;unfold Lc at b;split at b
 .rename_i cs q hq;obtain⟨k,rfl⟩:=Cg hq;cases g:zB q n with
  |false=>rw[g]at b;cases b
  |true=>rw[g,cond_true]at b;have g:=yF g;simp only[yx,zh]at j;obtain⟨L,r,j⟩:=j;simp only[yx,zb]at p;obtain⟨V,s,m⟩:=Dq he r b;refine⟨V,s,λw=>?_⟩;have c:=yg ht w;rw[hi']at c;have l:=yW he w;simp[execOp,ho,zdR,asIntOf,<-p,c,<-j,g,l,m]
 .cases b
theorem Mc{t:zL}{x ix:eo}{i:TyE}(ht:Ac P t=some i)(hi':i.desc=.string)(ho:o.op=.index t x ix):Ax P o (Ca (opd P x) (opd P ix) Ln):=by
 intro ρ nt tm a v hf hg h;obtain⟨u,y,m,l,c⟩:=Bj h;have r:=ym hf hg x u m;have z:=ym hf hg ix y l;clear m l h;unfold Ln at c;split at c
 .rename_i s q hq;obtain⟨k,rfl⟩:=Cg hq;split at c
  .rename_i b hb;cases n:zB b 256 with
   |false=>rw[n]at c;cases c
   |true=>
    rw[n,cond_true]at c;cases c;have n:=yF n;simp only[yx,zb]at r z;refine⟨_,rfl,λw=>?_⟩;have j:=yg ht w;rw[hi']at j;have d:q<s.length:=by
     rcases Nat.lt_or_ge q s.length with h|h
     .exact h
     .simp[List.getElem?_eq_none h]at hb
    have p:(yH s)[q]?=some (eX b):=by
     have g:q<(yH s).size:=by rw[AL];exact d
     rw[getElem?_pos (yH s) q g];have:s[q]=b:=by rw[List.getElem?_eq_getElem d]at hb;simpa using hb
     simp[yH,ByteArray.getElem_eq_getElem_data,this]
    have f:(eX b).toNat=b:=by simp;omega
    simp[execOp,ho,zdR,asIntOf,<-z,j,<-r,p,f]
  .cases c
 .cases c
end
end Go.Ev
