/-
  Part of the proof: A function told by hand: a copy of a map, made entry by entry in an order that nobody knows.
-/
import Derived.Test.YtpdlpdkehminlaaGreatDoorEvW
import Derived.Test.YtpdlpdkehminlaaGreatDoorEvV
import Derived.Maps.Range
import Derived.Test.YtpdlpdkehminlaaGreatDoorProg
import Derived.WalkKit
import Derived.Maps.Ext
import Derived.Maps.RangeWalk
import Derived.Maps.Own
set_option linter.all false
set_option maxRecDepth 100000
set_option maxHeartbeats 20000000
open Bool renaming and_eq_true->zo
open Function renaming comp->zcO
open Go renaming DataW->l7,Program->zZ,TypeId->zL,Value->zg,World->ze
open Go.DataW renaming insert->zb4
open Go.IntKind renaming bits->zdk,max->zdz,min->zdF,signed->zcV
open Go.Lit renaming int->zdQ
open Go.Maps renaming size->zbB
open Go.Sem renaming run->o8
open Go.WideShapes renaming sorted_perm->zaT
open List renaming all_eq_true->iu,getElem?_eq_getElem->zc,getElem?_eq_some_iff->zm,getElem_mem->zaq,map_congr_left->zcA,map_map->zb6,mem_cons->zO,mem_iff_getElem?->o6,mem_map->lQ
open List.Pairwise renaming cons->zea,nil->zbi
open Nat renaming blt->zB,le_refl->zn
open Option.some renaming inj->eF,injEq->zb
namespace Go.Ev
open Go.RowKit Go.Maps Go.MapKept
open Go.WideElems (Fit rd rg pl rd_key rd_val rg_of rd_mk)
def CB(size:Nat)(v:zg):Option (l7 zg×List MemPlace):=
 match v with
 |.agg cs=>if cs.size=size/\cs.toList.all (·.oneCell')=true then some (.held (.agg cs),[])else none
 |_=>none
theorem G9{size:Nat}{v:zg}{y:l7 zg×List MemPlace}(h:CB size v=some y):∃cs:Array zg,v=.agg cs/\cs.size=size/\(∀x∈cs.toList,x.oneCell'=true)/\y=(.held v,[]):=by
 unfold CB at h;split at h
 .rename_i cs;split at h
  .rename_i hc;cases h;exact⟨cs,rfl,hc.1,iu.1 hc.2,rfl⟩
  .cases h
 .cases h
def MF(P:zZ)(f:FuncId)(kt:zL)(size:Nat):Prop:=∀(b n:Nat)(D0:l7 zg)(W:ze),W.ownsMap P kt (CB size) b n D0->zbB D0<=maxLen->Calls P f #[.map (some b)] W λe w'=>e=.returned (.map (some W.heap.size))/\w'.ownsMap P kt (CB size) W.heap.size (zbB D0) D0/\Below W.heap.size W w'
noncomputable def SD:CV->Bool
 |.int .i64 (.ofNat n)=>zB n 9223372036854775808
 |.int .i64 (.negSucc n)=>zB n 9223372036854775808
 |_=>false
noncomputable def En:List (CV×CV×Nat)->Bool
 |[]=>true
 |e::es=>SD e.1&&En es
noncomputable def JF(size:Nat):List (CV×CV×Nat)->Bool
 |[]=>true
 |(_,.agg l,_)::es=>Nat.beq l.length size&&Aa l&&JF size es
 |_=>false
noncomputable def GT(size:Nat)(args:List CV)(S:St):N6:=
 match args,S with
 |[.map r],⟨h,nx,nk⟩=>(match h.get r with
  |some (.map es clock)=>bif BS es&&En es&&JF size es&&SO 0 es clock&&zB es.length 1000&&zB nx lim then .ok (.map nx) ⟨h.set big nx (some (.mapU es)),nx+1,nk+1⟩else .fail
  |_=>.fail)
 |_,_=>.fail
def WM:Lit->zg
 |.int k n=>.int k n
 |_=>.nilFunc
def TX:l7 zg->zg
 |.held v=>v
 |_=>.nilFunc
theorem Ok{k:CV}(h:SD k=true):∃n:Int,k=.int .i64 n/\(zdQ .i64 n).wf=true:=by
 unfold SD at h;split at h
 .have a:=yF h;refine⟨_,rfl,?_⟩;simp[Lit.wf,zdF,zdz,zcV,zdk];omega
 .have a:=yF h;refine⟨_,rfl,?_⟩;simp[Lit.wf,zdF,zdz,zcV,zdk];omega
 .cases h
theorem Et:∀(es:List (CV×CV×Nat)),En es=true->∀e,e∈es->∃n:Int,e.1=.int .i64 n/\(zdQ .i64 n).wf=true
 |[],_,e,he=>by cases he
 |x::es,h,e,he=>by
  simp only[En,zo]at h;rcases zO.1 he with rfl|he
  .exact Ok h.1
  .exact Et es h.2 e he
theorem Hw{size:Nat}:∀(es:List (CV×CV×Nat)),JF size es=true->∀e,e∈es->∃l,e.2.1=.agg l/\l.length=size/\Aa l=true
 |[],_,e,he=>by cases he
 |(k,v,b)::es,h,e,he=>by
  cases v<;>simp only[JF,Bool.false_eq_true]at h;rename_i l;simp only[zo]at h;rcases zO.1 he with rfl|he
  .exact⟨l,rfl,yZ h.1.1,h.1.2⟩
  .exact Hw es h.2 e he
theorem Ro{P:zZ}{kt:zL}(hk:P.underlying kt=some (.int .i64)){v:zg}{l:Lit}(h:keyOf P kt v=some l):v=WM l:=by simp only[keyOf,hk,mapKey]at h;cases v<;>simp at h;obtain⟨⟨rfl,_⟩,rfl⟩:=h;rfl
theorem Ky{ρ:Ren}:∀(es:List (CV×CV×Nat))(l:List (zg×zg×Nat)),GR ρ es l->BS es=true->En es=true->l.Pairwise (λx y=>x.1≠y.1)
 |[],l,h,_,_=>by have:l=[]:=List.length_eq_zero_iff.1 h.1;subst this;exact zbi
 |(k,v,b)::es,l,h,ha,hi=>by
  have hall:=Et _ hi;obtain⟨e',l',rfl,a1,a2,a3,he'⟩:=h.tail;simp only[BS,zo]at ha;have hi':En es=true:=by simp only[En,zo]at hi;exact hi.2
  refine zea (λy hy=>?_) (Ky es l' he' ha.2 hi');obtain⟨i,c⟩:=o6.1 hy;have a:i<es.length:=by rw[<-he'.1];exact(zm.1 c).1
  have j:es[i]?=some es[i]:=zc a;obtain⟨x,o,g,_,_⟩:=he'.2 i _ j;rw[c]at o;cases o;obtain⟨n,f,_⟩:=hall (k,v,b) List.mem_cons_self;obtain⟨m,p,_⟩:=hall es[i] (List.mem_cons_of_mem _ (zaq a));have d:=iu.1 ha.1 es[i] (zaq a);simp only at f;rw[f,p]at d;simp only[Fh,Eh,if_true]at d;rw[B4]at d;simp only at a1;rw[f]at a1;rw[p]at g;simp only[yx,zb]at a1 g;rw[<-a1,<-g];intro e;simp only[Value.int.injEq,true_and]at e;subst e;simp at d
theorem O9{P:zZ}{f:FuncId}{kt:zL}{size:Nat}(hk:P.underlying kt=some (.int .i64))(he:∀args w,(callFunc f args).run P w=.ok (.enter f args) w)(hs:MF P f kt size):Vu P f (GT size):=by
 intro args S v S' ρ w L h hr hg hL o a next Q hK;obtain⟨hp,nx,nk⟩:=S;unfold GT at h;split at h
 .rename_i r h0 nx0 nk0 hS;cases hS;split at h
  .rename_i es clock hmap;cases hc:(BS es&&En es&&JF size es&&SO 0 es clock&&zB es.length 1000&&zB nx lim)with
   |false=>rw[hc]at h;cases h
   |true=>
    rw[hc,cond_true]at h;cases h;simp only[zo]at hc;obtain⟨⟨⟨⟨⟨c1,c2⟩,c3⟩,c4⟩,c5⟩,Z⟩:=hc;have c5:=yF c5;have Z:=yF Z;obtain⟨R,l,e1,e2,C⟩:=C2 hr.has hmap;obtain⟨b1,b2⟩:=M4 es l 0 clock C c4;simp only[yG,yx,e1,Option.map_some,Option.bind_some,zb]at hL;subst hL;have d:=C.1;have O:=Ky es l C c1 c2;have ac:∀b∈l,∃n:Int,b.1=.int .i64 n/\(zdQ .i64 n).wf=true/\∃E:Array zg,b.2.1=.agg E/\E.size=size/\E.toList.all (·.oneCell')=true:=by
     intro b k;obtain⟨i,I⟩:=o6.1 k;have j:i<es.length:=by rw[<-d];exact(zm.1 I).1
     have V:es[i]?=some es[i]:=zc j;obtain⟨x,D,t,s,_⟩:=C.2 i _ V;rw[I]at D;cases D;obtain⟨n,G,N⟩:=Et es c2 _ (zaq j);obtain⟨cl,W,g4,T⟩:=Hw es c3 _ (zaq j);rw[G]at t;simp only[yx,zb]at t;rw[W]at s;simp only[yx,Option.map_eq_some_iff]at s;obtain⟨L0,a4,a5⟩:=s;exact⟨n,t.symm,N,L0.toArray,a5.symm,by rw[List.size_toArray,Af a4,g4],iu.2 (F1 T a4)⟩
    have B:∀b∈l,∃H,rd P kt (CB size) (yC b)=some (H,.held b.2.1)/\WM H=b.1:=by intro b k;obtain⟨n,G,N,E,W,g4,T⟩:=ac b k;refine⟨.int .i64 n,?_,G.symm⟩;refine rd_mk (yv:=(.held b.2.1,[])) ?_ (by rw[W];simp only[CB];rw[if_pos ⟨g4,T⟩]);show keyOf P kt b.1=_;rw[G];exact keyOf_int_mk hk N
    have g:w.ownsMap P kt (CB size) R l.length (.map (((l.map yC).map (rg P kt (CB size))).foldr zb4 [])):=by
     refine⟨(l.map yC).toArray,clock,e2,⟨by simp[maxLen];omega,⟨λx hx=>?_,?_,?_⟩,λx hx=>?_⟩,by simp,by simp⟩
     .obtain⟨e,q,rfl⟩:=lQ.1 (show x∈l.map yC from hx);exact(b2 e q).2
     .have:(l.map yC).toArray.toList.map (·.born)=l.map (·.2.2):=by simp[yC]
      rw[this];exact b1.imp (λh=>Nat.ne_of_lt h)
     .have:(l.map yC).toArray.toList.map (·.key)=l.map (·.1):=by simp[yC]
      rw[this];exact List.pairwise_map.2 O
     .obtain⟨e,q,rfl⟩:=lQ.1 (show x∈l.map yC from hx);obtain⟨H,J,_⟩:=B e q;exact⟨_,J⟩
    rw[he];rw[Oper.upon_enter];have a0:=g.size_le;refine Calls.mono (hs R l.length _ w g (by simp only[maxLen];omega)) (λb w' hq=>?_);obtain⟨rfl,⟨c,F,q1,q2,_,q3⟩,q4⟩:=hq;have m:(c.toList.map λe=>(e.key,e.val)).Perm (l.map λe=>(e.1,e.2.1)):=by
     have p1:(c.toList.map (rg P kt (CB size))).Perm ((l.map yC).map (rg P kt (CB size))):=by
      have q3:((l.map yC).map (rg P kt (CB size))).foldr zb4 []=(c.toList.map (rg P kt (CB size))).foldr zb4 []:=by simpa using q3
      exact(zaT _).symm.trans (q3▸zaT _)
     have p2:=p1.map (λp:Lit×l7 zg=>(WM p.1,TX p.2));have m1:(c.toList.map (rg P kt (CB size))).map (λp:Lit×l7 zg=>(WM p.1,TX p.2))=c.toList.map λe=>(e.key,e.val):=by rw[zb6];refine zcA λx hx=>?_;obtain⟨y,Y⟩:=q2.reads x hx;obtain⟨z,M,U⟩:=rd_val Y;obtain⟨_,_,_,_,M⟩:=G9 M;have A:=Ro hk (rd_key Y);simp only[zcO,rg_of Y,U,M,TX,<-A]
     have m2:((l.map yC).map (rg P kt (CB size))).map (λp:Lit×l7 zg=>(WM p.1,TX p.2))=l.map λe=>(e.1,e.2.1):=by rw[zb6,zb6];refine zcA λx hx=>?_;obtain⟨H,J,h2⟩:=B x hx;simp only[zcO,rg_of J,TX,h2]
     rw[m1,m2]at p2;exact p2
    have X:=Stp.behind (S:=⟨hp,nx,nk⟩) hr q4 (x:=0) (zn _) q1 (o:=.mapU es) ?_ Z
    .exact hK _ w' _ X (by simp[yx,Ren.ext])
    .refine⟨rfl,c1,l.map λe=>(e.1,e.2.1),m,by simp[d],λi e I=>?_⟩;obtain⟨x,D,t,s,_⟩:=C.2 i e I;exact⟨(x.1,x.2.1),by simp[D],AS (EN hr _ _) _ _ t,AS (EN hr _ _) _ _ s⟩
  .cases h
 .cases h
open Go.Proofs Go.RowKit Go.Maps
theorem W5:Keyed Tryz.prog 3:=int_keyed Tryz.underlying3
theorem DM{P:zZ}{w:ze}{n i:Nat}{cs:Array zg}{t:zL}{v:zg}(hn:n=w.heap.size)(hi:i<cs.size)(h1:v.oneCell'=true):o8 P (store ⟨n,i,none⟩ v) (w.alloc (.cells cs t))=.ok () (w.alloc (.cells (cs.set i v hi) t)):=by
 subst hn;rw[run_store _ _ _ _ _ h1];have b:(w.alloc (.cells cs t)).heap[w.heap.size]?=some (.cells cs t):=Array.getElem?_push_size;have d:(w.alloc (.cells cs t)).cell? ⟨w.heap.size,i,none⟩=some cs[i]:=by simp only[World.cell?,b];simp[hi]
 have g:(w.alloc (.cells cs t)).frozen? ⟨w.heap.size,i,none⟩=false:=by simp only[World.frozen?,b];simp
 rw[d,g];have e:(w.alloc (.cells cs t)).setCell ⟨w.heap.size,i,none⟩ v=w.alloc (.cells (cs.set i v hi) t):=by
  simp only[World.setCell];have c:∀(f:Obj->Obj),(w.heap.push (.cells cs t)).modify w.heap.size f=w.heap.push (f (.cells cs t)):=by
   intro f;apply Array.ext_getElem?;intro j;simp only[Array.getElem?_modify,Array.getElem?_push];by_cases a:j=w.heap.size
   .subst a;simp
   .rw[if_neg a,if_neg (λh=>a h.symm),if_neg a]
  show({w with heap:=(w.heap.push (.cells cs t)).modify w.heap.size _}:ze)={w with heap:=w.heap.push _};rw[c];simp[Array.setIfInBounds,hi]
 rw[e];simp
theorem Rf{P:zZ}{w:ze}{n:Nat}{z0 z1 z2 z3 z4 c0 c1 c2 c3 c4:zg}{t:zL}(hn:n=w.heap.size)(o0:c0.oneCell'=true)(o1:c1.oneCell'=true)(o2:c2.oneCell'=true)(o3:c3.oneCell'=true)(o4:c4.oneCell'=true):((o8 P (store ⟨n,0,none⟩ c0) (w.alloc (.cells #[z0,z1,z2,z3,z4] t))).andThen λ_ w'=>(o8 P (store ⟨n,1,none⟩ c1) w').andThen λ_ w'=>
   (o8 P (store ⟨n,2,none⟩ c2) w').andThen λ_ w'=>(o8 P (store ⟨n,3,none⟩ c3) w').andThen λ_ w'=>o8 P (store ⟨n,4,none⟩ c4) w')=
  .ok () (w.alloc (.cells #[c0,c1,c2,c3,c4] t)):=by
 have b:o8 P (store ⟨n,0,none⟩ c0) (w.alloc (.cells #[z0,z1,z2,z3,z4] t))=.ok () (w.alloc (.cells #[c0,z1,z2,z3,z4] t)):=DM hn (by simp) o0;have c:o8 P (store ⟨n,1,none⟩ c1) (w.alloc (.cells #[c0,z1,z2,z3,z4] t))=.ok () (w.alloc (.cells #[c0,c1,z2,z3,z4] t)):=DM hn (by simp) o1;have a:o8 P (store ⟨n,2,none⟩ c2) (w.alloc (.cells #[c0,c1,z2,z3,z4] t))=.ok () (w.alloc (.cells #[c0,c1,c2,z3,z4] t)):=DM hn (by simp) o2;have f:o8 P (store ⟨n,3,none⟩ c3) (w.alloc (.cells #[c0,c1,c2,z3,z4] t))=.ok () (w.alloc (.cells #[c0,c1,c2,c3,z4] t)):=DM hn (by simp) o3;have d:o8 P (store ⟨n,4,none⟩ c4) (w.alloc (.cells #[c0,c1,c2,c3,z4] t))=.ok () (w.alloc (.cells #[c0,c1,c2,c3,c4] t)):=DM hn (by simp) o4;rw[b];simp only[Result.andThen];rw[c];simp only;rw[a];simp only;rw[f];simp only;rw[d]
theorem RY:MF Tryz.prog 22 3 5:=by
 intro b n H w c X;have al:=@run_makeMap Tryz.prog;have ac:=c.lt;have Z:(w.alloc (.map #[] 0)).heap.size=w.heap.size+1:=by simp
 go_enter Tryz.func22,Tryz.ntmps22;go_wp2_with (first
  |(at_range;refine wpList_range_own _ rfl _ 62 rfl 3 94 W5 Tryz.underlying62 _ b n _ rfl (c.alloc _) ?_;intro w0 m M W)
  |go_in)
 go_frame;rw[Z]at m W⊢;go_loopw [4] (λ_ wr=>∃(f:Lit->Bool)(i:Nat)(g:l7 zg),wr.ranges Tryz.prog 3 (CB 5) b (w.heap.size+1) n H f i/\i<=zbB H/\wr.ownsMap Tryz.prog 3 (CB 5) w.heap.size (zbB H-i) g/\Go.Maps.Agree g H f/\Below w.heap.size w wr) (λ_ wr=>wr.rangeLeft b (w.heap.size+1))
 case atStart=>exact⟨_,_,.map [],m,zn _,((World.ownsMap_made _ _ _ _).kept M (by simp)).mono (Nat.zero_le _),agree_start H,((Below.refl _ _).alloc (zn _) _).grown M (by simp) (λj hj=>by cases hj)⟩
 case round=>
  obtain⟨f,i,g,D,ab,a,Y,h⟩:=hrel;go_wp2_with (first
   |(at_next;refine wpList_next_ranges _ rfl _ rfl 3 W5 (CB 5) (λx:zg=>x) (λt:Array zg=>.agg t) (λkey kl _=>⟨key,rfl⟩) (λv y hv=>by obtain⟨t,e,_⟩:=G9 hv;exact⟨t,e⟩) b (w.heap.size+1) n _ _ _ rfl D ?_ ?_)
   |go_in)
  .intro U Q;go_wp2;go_ret;subst U;have e:=agree_end Y Q (a.canon W5) (c.canon W5);subst e;exact⟨rfl,by simpa using a,h⟩
  .intro x t kl y yp w1 P o ae G S O T L R ag;have r:=a.kept L (by simp);obtain⟨aj,V,E,d,ey⟩:=G9 G;cases V;obtain⟨s,C,z,B,A,rfl⟩:∃s C z B A,t=#[s,C,z,B,A]:=by
    rcases t with⟨l⟩
    match l,E with
    |[s,C,z,B,A],_=>exact⟨_,_,_,_,_,rfl⟩
   obtain⟨kx,rfl,rfl,af⟩:=Maps.keyOf_int_inv Tryz.underlying3 o;have o0:s.oneCell'=true:=d _ (by simp);have o1:C.oneCell'=true:=d _ (by simp);have o2:z.oneCell'=true:=d _ (by simp);have o3:B.oneCell'=true:=d _ (by simp);have o4:A.oneCell'=true:=d _ (by simp);go_wp2;rw[Rf R.symm o0 o1 o2 o3 o4];have N:=World.grownBy_alloc w1 (.cells #[s,C,z,B,A] 94) none;have p:=r.kept N (by simp);have F:=O.kept N (by simp) (by simp);go_wp2_with (first
    |(at_mapUpdate;refine wpList_mapUpdate_own _ rfl _ _ _ 62 rfl 3 94 W5 Tryz.underlying62 _ w.heap.size _ _ rfl p (by omega) _ _ _ rfl rfl o _ _ G ?_;intro w2 q J;go_frame)
    |go_in)
   have k:=F.kept J (λe=>by have:=eF e;omega) (λe=>by have:=eF e;omega);have I:=(h.grown L (by have:=h.size;omega) (λj hj=>by cases hj;exact Nat.le_succ _)).alloc (by have:=h.size;omega) (.cells #[s,C,z,B,A] 94);go_roundw
   case rel=>exact⟨_,P,_,k,by omega,q.mono (by omega),agree_step Y a.isMap trivial S,I.grown J (by have:=I.size;omega) (λj hj=>by cases hj;exact zn _)⟩
   case measure=>rw[k.left_eq,D.left_eq];exact T
end Go.Ev
