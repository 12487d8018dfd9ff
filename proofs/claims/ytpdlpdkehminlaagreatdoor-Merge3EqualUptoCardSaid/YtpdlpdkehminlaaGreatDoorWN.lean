/-
  Part of the proof: Plain: a tree with identifiers, as a version.
-/
import Derived.Test.YtpdlpdkehminlaaGreatDoorWM
import Derived.Maps.Ext
import Derived.Maps.Own
set_option linter.all false
set_option maxRecDepth 100000
set_option maxHeartbeats 20000000
open Go renaming Calls->zM,Value->zg,World->ze,bodyPost_ret->eG,cell_of_row->zV,frozen_of_row->zk,heap_alloc_new->zx,heap_setCell_same->zA,run_loadVar_row->zef,undef->zl,wpAnyH_done->lF,wpAnyH_ready->zG
open Go.Act renaming put->z8
open Go.AllReadyH renaming cons->zv,nil->zC
open Go.Exit renaming «then»->ef
open Go.Instr renaming lookup->ec
open Go.Lib renaming hid->za
open Go.Maps renaming size->zbB
open Go.Result renaming andThen->oq
open Go.RowKit renaming Hid->eW
open Go.RowKit.Below renaming refl->zt
open Go.World renaming cell?->zS,cell?_setCell_other->zbH
open List renaming drop_succ_cons->zaM,drop_zero->zem,getD->zbn,getElem?_cons_succ->zav,getElem?_cons_zero->zW,getElem?_eq_getElem->zc,getElem?_eq_some_iff->zm,mem_cons->zO,mem_map->lQ,mem_of_getElem?->zq,nodup_iff_pairwise_ne->ow,pairwise_map->zbj,range->ev,setIfInBounds_toArray->zf,set_cons_succ->zj,set_cons_zero->zi,take_succ_cons->zag,take_zero->zak
open Nat renaming le_of_lt->zac,le_refl->zn
open Option.some renaming inj->eF,injEq->zb
namespace Go.Proofs
open Classical
theorem NM{ks:List T}{x:Nat}{c:Int}(h:c∈yO x ks):∃j u,ks[j]?=some u/\c=((x+T.sizes (ks.take j):Nat):Int):=by obtain⟨j,b,e⟩:=List.getElem_of_mem h;have d:=yK ks x;have a:ks[j]?=some (ks[j]'(by omega)):=zc _;refine⟨j,_,a,?_⟩;have:=AM a x;rw[zc b,e]at this;exact eF this
theorem IG:∀(ks:List T)(x:Nat)(c:Int),c∈yO x ks->(x:Int)<=c
 |[],_,_,h=>by cases h
 |t::ks,x,c,h=>by
  rw[yO]at h;rcases zO.1 h with rfl|h
  .omega
  .have:=IG ks (x+t.size) c h;omega
theorem Fn:∀(ks:List T)(x:Nat),(yO x ks).Nodup
 |[],_=>List.nodup_nil
 |t::ks,x=>by rw[yO,List.nodup_cons];refine⟨λh=>?_,Fn ks _⟩;have:=IG ks _ _ h;have:=T.size_pos t;omega
theorem Hl(t:T){x:Nat}(hx:x<t.size):∃q u,Seg (t.rows 0 (-1)) x q u/\(t.rows 0 (-1))[x]?=some ⟨q,u.k,u.s,u.g,yO (x+1) u.ks⟩/\((x=0/\q=-1)\/∃(y:Nat)(r:An),q=y/\y<x/\(t.rows 0 (-1))[y]?=some r/\(x:Int)∈r.kids):=by
 obtain⟨q,u,d,a⟩:=Seg.find t (t.rows 0 (-1)) 0 (-1) (Seg.root t) x (by omega) (by omega);have b:(t.rows 0 (-1))[x]?=some ⟨q,u.k,u.s,u.g,yO (x+1) u.ks⟩:=by cases u;exact d.row
 refine⟨q,u,d,b,?_⟩;rcases a with a|⟨y,r,rfl,_,i,f,h⟩
 .refine .inl ⟨a,?_⟩;subst a;have c:(t.rows 0 (-1))[0]?=some ⟨-1,t.k,t.s,t.g,yO 1 t.ks⟩:=by cases t;rfl
  rw[c]at b;exact(congrArg An.parent (eF b)).symm
 .exact .inr ⟨y,r,rfl,i,f,h⟩
theorem LG(t:T){x:Nat}{r:An}(hr:(t.rows 0 (-1))[x]?=some r){c:Int}(hc:c∈r.kids):∃(n:Nat)(r':An),c=n/\x<n/\n<t.size/\(t.rows 0 (-1))[n]?=some r'/\r'.parent=x:=by
 have l:x<t.size:=by have:=(zm.1 hr).1;rwa [T.length_rows]at this
 obtain⟨q,u,h,d,_⟩:=Hl t l;rw[hr]at d;cases d;obtain⟨j,v,i,e⟩:=NM hc;obtain⟨p,w,o,b⟩:=u;have m:=h.kid i;have a:(t.rows 0 (-1))[x+1+T.sizes (b.take j)]?=some ⟨x,v.k,v.s,v.g,yO (x+1+T.sizes (b.take j)+1) v.ks⟩:=by cases v;exact m.row
 have f:=(zm.1 a).1;rw[T.length_rows]at f;exact⟨_,_,e,by omega,f,a,rfl⟩
theorem Ov(t:T)(h:t.size<=300):NK (t.rows 0 (-1)):=by
 have f:∀(x:Nat)(r:An),(t.rows 0 (-1))[x]?=some r->x<t.size:=λx r hr=>by have:=(zm.1 hr).1;rwa [T.length_rows]at this
 refine⟨λx r hr=>?_,λx r hr k hk=>?_,λx r hr=>?_⟩
 .have b:=ET t x r hr;have d:=f x r hr;rw[T.length_rows];omega
 .obtain⟨n,j,rfl,b,d,_⟩:=LG t hr hk;rw[T.length_rows];omega
 .have c:=f x r hr;obtain⟨q,u,g,a,_⟩:=Hl t c;rw[hr]at a;cases a;dsimp only;rw[yK];have b:=g.le;have d:u.size=1+T.sizes u.ks:=by cases u;rw[T.size,T.ks]
  have i:=T.length_sizes u.ks;rw[T.length_rows]at b;omega
structure Cl(t:T)(ids:List Int)(cnt:Nat):Prop where
 len:ids.length=t.size
 nd:ids.Nodup
 rng:∀i∈ids,0<=i/\i<cnt
theorem Cl.at{t:T}{ids:List Int}{cnt:Nat}(h:Cl t ids cnt){x:Nat}(hx:x<t.size):ids[x]?=some (ids.getD x 0)/\ids.getD x 0∈ids:=by have a:=h.len;have:=getD_some (l:=ids) (i:=x) (by omega);exact⟨this,zq this⟩
theorem Cl.inj{t:T}{ids:List Int}{cnt:Nat}(h:Cl t ids cnt){x y:Nat}(hx:x<t.size)(hy:y<t.size)(e:ids.getD x 0=ids.getD y 0):x=y:=by have c:=h.len;have b:=(h.at hx).1;have a:=(h.at hy).1;rw[<-e]at a;rw[zc (by omega)]at b a;exact(List.getElem_inj h.nd).1 ((eF b).trans (eF a).symm)
theorem BA{t:T}{ids:List Int}{cnt:Nat}(h:Cl t ids cnt){i:Int}{y:Dl}:AG t ids i=some y↔∃(x:Nat)(r:An),x<t.size/\(t.rows 0 (-1))[x]?=some r/\i=ids.getD x 0/\y=Bl ids r:=by
 have a:∀x,x<t.size->(t.rows 0 (-1))[x]?=some ((t.rows 0 (-1)).getD x ⟨0,0,.empty,[],[]⟩):=λx b=>by
  have:x<(t.rows 0 (-1)).length:=by rw[T.length_rows];exact b
  rw[zc this];simp[zbn,zc this]
 constructor
 .intro g;obtain⟨x,b,f,d⟩:=Ke _ g;exact⟨x,_,b,a x b,f,d⟩
 .rintro⟨x,r,b,c,rfl,rfl⟩;have:=PY (rs:=t.rows 0 (-1)) h.nd t.size (by rw[h.len];exact zn _) x b;rw[a x b]at c;rw[<-eF c];exact this
theorem IF{ids:List Int}{r:An}{y:Nat}(h:r.parent=y):(Bl ids r).parent=ids.getD y 0:=by unfold Bl;dsimp only;rw[if_pos (by omega),h];simp
theorem Cl.parent{t:T}{ids:List Int}{cnt:Nat}(h:Cl t ids cnt){x:Nat}{r:An}(hr:(t.rows 0 (-1))[x]?=some r):((Bl ids r).parent=-1/\r.parent=-1)\/∃y:Nat,y<x/\r.parent=y/\(Bl ids r).parent=ids.getD y 0:=by
 have a:=ET t x r hr;by_cases e:0<=r.parent
 .refine .inr ⟨r.parent.toNat,by omega,by omega,IF (by omega)⟩
 .refine .inl ⟨?_,by omega⟩;unfold Bl;dsimp only;rw[if_neg e]
theorem Cl.kids{t:T}{ids:List Int}{cnt:Nat}(h:Cl t ids cnt){x:Nat}{r:An}(hr:(t.rows 0 (-1))[x]?=some r):(Bl ids r).kids.Nodup/\(Bl ids r).kids.length<=t.size/\∀k,k∈(Bl ids r).kids↔∃(n:Nat)(r':An),x<n/\n<t.size/\k=ids.getD n 0/\(t.rows 0 (-1))[n]?=some r'/\r'.parent=x:=by
 have z:x<t.size:=by have:=(zm.1 hr).1;rwa [T.length_rows]at this
 obtain⟨q,u,s,d,_⟩:=Hl t z;have i:r.kids.Nodup:=by rw[hr]at d;cases d;exact Fn _ _
 refine⟨?_,?_,λk=>?_⟩
 .show(r.kids.map λk=>ids.getD k.toNat 0).Nodup;rw[ow,zbj];rw[ow]at i;refine i.imp_of_mem λ{a b} ha hb hne e=>?_;obtain⟨A,D,rfl,_,f,_⟩:=LG t hr ha;obtain⟨v,B,rfl,_,g,_⟩:=LG t hr hb;have:=h.inj (x:=A) (y:=v) f g (by simpa using e);exact hne (by rw[this])
 .show(r.kids.map λk=>ids.getD k.toNat 0).length<=_;rw[List.length_map];rw[hr]at d;cases d;dsimp only;rw[yK];have f:=s.le;have g:u.size=1+T.sizes u.ks:=by cases u;rw[T.size,T.ks]
  have l:=T.length_sizes u.ks;rw[T.length_rows]at f;omega
 .show k∈(r.kids.map λk=>ids.getD k.toNat 0)↔_;rw[lQ];constructor
  .rintro⟨c,C,rfl⟩;obtain⟨n,r',rfl,f,g,l,m⟩:=LG t hr C;exact⟨n,r',f,g,by simp,l,m⟩
  .rintro⟨n,r',f,g,rfl,l,m⟩;obtain⟨E,F,_,j,o⟩:=Hl t g;rw[l]at j;cases j;rcases o with⟨_,o⟩|⟨y,B,o,G,p,w⟩
   .dsimp only at m;omega
   .dsimp only at m;have:y=x:=by omega
    subst this;rw[hr]at p;cases p;exact⟨_,w,by simp⟩
theorem Cl.size_le{t:T}{ids:List Int}{cnt:Nat}(h:Cl t ids cnt):t.size<=cnt:=by rw[<-h.len];exact C3 h.nd h.rng
theorem Cl.fits{t:T}{ids:List Int}{cnt:Nat}(h:Cl t ids cnt)(hc:cnt<=300):∀i∈ids,yw i:=λi hi=>by have:=h.rng i hi;exact Bg (by omega) (by omega)
theorem Cl.kidsFine{t:T}{ids:List Int}{cnt:Nat}(h:Cl t ids cnt)(hc:cnt<=300):A7 (AG t ids):=λi y hy=>by obtain⟨x,r,g,c,rfl,rfl⟩:=(BA h).1 hy;obtain⟨a,f,d⟩:=h.kids c;have:=h.size_le;refine⟨by omega,a,λk hk=>?_⟩;obtain⟨n,j,_,b,rfl,_⟩:=(d k).1 hk;exact h.fits hc _ (h.at b).2
theorem Cl.tree{t:T}{ids:List Int}{cnt:Nat}(h:Cl t ids cnt):∀(u:T)(x:Nat)(p:Int),Seg (t.rows 0 (-1)) x p u->Jk (AG t ids) u (ids.getD x 0):=by
 refine T.ind λk s g ks ih x p hs=>?_;have a:=hs.row;have b:=hs.le;rw[T.length_rows,T.size]at b;refine .mk (Bl ids ⟨p,k,s,g,yO (x+1) ks⟩) ((BA h).2 ⟨x,_,by omega,a,rfl,rfl⟩) rfl rfl rfl (by simp[Bl,yK]) λi u c hu hc=>?_;have d:=AM hu (x+1);have e:c=ids.getD (x+1+T.sizes (ks.take i)) 0:=by unfold Bl at hc;simp only[List.getElem?_map,d,Option.map_some,zb]at hc;rw[<-hc,Int.toNat_natCast]
 rw[e];exact ih u (zq hu) _ x (hs.kid hu)
theorem Cl.up{t:T}{ids:List Int}{cnt:Nat}(h:Cl t ids cnt):∀(n x:Nat),x<=n->x<t.size->∃m,m<=x+1/\Up (λj=>(AG t ids j).isSome=true) (λj=>(AG t ids j).map Dl.parent) (ids.getD x 0) m:=by
 intro n;induction n with
 |zero=>
  intro x i a;obtain rfl:x=0:=by omega
  obtain⟨q,u,f,c,_⟩:=Hl t a;have b:AG t ids (ids.getD 0 0)=some (Bl ids _):=(BA h).2 ⟨0,_,a,c,rfl,rfl⟩;have d:=(h.rng _ (h.at a).2).1;refine⟨1,by omega,.step d (by rw[b];rfl) (by rw[b];rfl) (.root ?_)⟩;rcases h.parent c with⟨e,_⟩|⟨y,k,_⟩
  .rw[e];omega
  .omega
 |succ n ih=>
  intro x i a;obtain⟨q,u,f,c,_⟩:=Hl t a;have b:AG t ids (ids.getD x 0)=some (Bl ids _):=(BA h).2 ⟨x,_,a,c,rfl,rfl⟩;have d:=(h.rng _ (h.at a).2).1;rcases h.parent c with⟨e,_⟩|⟨y,k,_,e⟩
  .refine⟨1,by omega,.step d (by rw[b];rfl) (by rw[b];rfl) (.root ?_)⟩;rw[e];omega
  .obtain⟨m,l,g⟩:=ih y (by omega) (by omega);refine⟨m+1,by omega,.step d (by rw[b];rfl) (by rw[b];rfl) ?_⟩;rw[e];exact g
theorem Cl.ver_rng{t:T}{ids:List Int}{cnt:Nat}(h:Cl t ids cnt):∀i y,AG t ids i=some y->0<=i/\i<cnt/\-1<=y.parent/\y.parent<cnt/\y.kids.Nodup/\∀k,k∈y.kids↔∃z,AG t ids k=some z/\z.parent=i:=by
 intro i y o;obtain⟨x,r,m,l,rfl,rfl⟩:=(BA h).1 o;have j:=h.rng _ (h.at m).2;obtain⟨p,A,v⟩:=h.kids l;have g:-1<=(Bl ids r).parent/\(Bl ids r).parent<cnt:=by
  rcases h.parent l with⟨e,_⟩|⟨y,o,_,e⟩
  .rw[e];omega
  .have:=h.rng _ (h.at (x:=y) (by omega)).2;rw[e];omega
 refine⟨j.1,j.2,g.1,g.2,p,λk=>?_⟩;rw[v k];constructor
 .rintro⟨n,b,B,c,rfl,a,q⟩;exact⟨Bl ids b,(BA h).2 ⟨n,b,c,a,rfl,rfl⟩,IF q⟩
 .rintro⟨z,s,e⟩;obtain⟨n,b,c,a,rfl,rfl⟩:=(BA h).1 s;rcases h.parent a with⟨d,_⟩|⟨y,f,w,d⟩
  .rw[d]at e;omega
  .rw[d]at e;have:=h.inj (x:=y) (y:=x) (by omega) m e;subst this;exact⟨n,b,f,c,rfl,a,w⟩
theorem L9(t:T){cnt:Nat}(h:t.size<=cnt):Cl t ((ev t.size).map λi=>((i:Nat):Int)) cnt:=by
 refine⟨by simp,?_,λi hi=>?_⟩
 .rw[ow,zbj];have:=List.nodup_range (n:=t.size);rw[ow]at this;exact this.imp λh e=>h (by omega)
 .obtain⟨a,b,rfl⟩:=lQ.1 hi;have:=List.mem_range.1 b;omega
theorem Sl(t:T){cnt:Nat}(h:t.size<=cnt)(hc:t.size<=300):Eg (AG t ((ev t.size).map λi=>((i:Nat):Int))) cnt:=by
 have c:=L9 t h;have a:∀x,x<t.size->((ev t.size).map λi=>((i:Nat):Int)).getD x 0=x:=λx b=>by simp[zbn,b]
 intro p y d;obtain⟨l,m,z,v,C,o⟩:=c.ver_rng p y d;obtain⟨x,r,b,s,j,rfl⟩:=(BA c).1 d;obtain⟨f,F,q⟩:=c.kids s;refine⟨l,m,z,v,by omega,f,λk hk=>?_⟩;obtain⟨n,A,D,w,g,E,B⟩:=(q k).1 hk;rw[a x b]at j;rw[a n w]at g;exact⟨by omega,by omega,(o k).1 hk⟩
open Go.RowKit Go.Maps Go.MapKept
theorem C5{fn:Func}{p u:Tmp}(h:fn.results=#[.cell p 25,.tmp u])(tmps:Array zg)(w:ze)(g:Nat)(t:TypeId)(cs:Array zg)(fr:Nat×Nat)(hp:tmps.getD p zl=.pointer (some ⟨g,0,none⟩))(hg:w.heap[g]?=some (.cells cs t fr))(hi:(Tryz.prog.info? 25).map (·.size)=some cs.size):(results fn tmps).run Tryz.prog w=.ok (.tuple #[.agg cs,tmps.getD u zl]) w:=by rw[results_cell_tmp h,hp];simp[asAddr,zef w g t 25 cs fr _ hg Tryz.underlying25 rfl hi,oq]
theorem TK(HPr:G3)(M b l r s0 s1 nb nl nr n0 n1 cnt:Nat)(B L R S:Ver)(t:T)(pk:zg)(w w0:ze)(hM:w.heap[M]?=some (.cells (BV b l r s0 s1 cnt pk (.map none) (.map none) (.map none)) 69 (0,0)))(hw0:Below w0.heap.size w0 w)(hM0:w0.heap.size<=M)
  (hB:yV w0 b nb B)(hL:yV w0 l nl L)(hR:yV w0 r nr R)(h0:yV w s0 n0 L)(h1:yV w s1 n1 R)(hSh:Bh w0)(hF:FL B L R S cnt t):
  zM Tryz.prog 23 #[.pointer (some ⟨M,0,none⟩)] w λe w'=>∃gv kv kb tb pb,e=.returned (.tuple #[yJ t.k t.s gv kv,.bool true])/\t.Lies w' gv kv/\w'.heap[M]?=some (.cells (BV b l r s0 s1 cnt pk (.map (some kb)) (.map (some tb)) (.map (some pb))) 69 (0,0))/\w.grownBy w' (some M):=by
 obtain⟨is,d8,fb,dr,d0⟩:=info_parts Br
 obtain⟨w1,av⟩:∃w1,w1=w.alloc (.cells #[.int .i64 0,.string ⟨#[]⟩,.slice none 0 0,.slice none 0 0] 25):=⟨_,rfl⟩
 have fe:=yz hM
 have ac:Below w.heap.size w w1:=by rw[av];exact ya _
 have c0:w1.heap.size=w.heap.size+1:=by rw[av];simp
 have cq:w1.heap[w.heap.size]?=some (.cells #[.int .i64 0,.string ⟨#[]⟩,.slice none 0 0,.slice none 0 0] 25 (0,0)):=by rw[av];exact zx _ _
 have bv:=(ac.block M fe).trans hM
 have ay:Below w0.heap.size w0 w1:=hw0.trans (ac.mono hw0.size)
 have fo:=hF.cle
 have HD:=za (JJ M b l r s0 s1 nb nl nr n0 n1 cnt cnt B L R pk _ _ _ w1 bv (hB.below ay) (hL.below ay) (hR.below ay) (h0.below ac) (h1.below ac) hF.base (by omega) (by omega) hF.sp1 hF.sp2)
 have Q:=za hF
 have cb:=za bv
 have cy:=za cq
 have cw:=za ac
 have ak:=za ay
 have ba:=za c0
 have dh:=za hB
 have c6:=za hL
 have c8:=za hR
 have dx:=za hSh
 have gj:=hw0.size
 clear hM hw0 hB hL hR h0 h1 hSh hF ac cq bv ay c0
 go_enter Tryz.func23,Tryz.ntmps23
 go_wp2_with fail
 rw[<-av]
 clear av
 refine HD.out.mono ?_
 rintro e w2 ⟨rfl,bc⟩
 have di:=(bc.block M (yz cb.out)).trans cb.out
 have b6:Below w0.heap.size w0 w2:=ak.out.trans (bc.mono ak.out.size)
 have HN:=za (OY M b l r s0 s1 nb nl nr cnt B L R S pk w2 di w0 b6 hM0 dh.out c6.out c8.out Q.out.win (by omega))
 have aq:=za bc
 have az:=za b6
 clear di b6 bc
 go_wp2_with fail
 refine HN.out.mono ?_
 rintro e w3 ⟨rfl,kb,tb,pb,bw,gd,f7,fy,co,bq,bh,a8⟩
 have cj:Below w0.heap.size w0 w3:=yd az.out a8 (λk e=>by cases e;exact hM0) az.out.size
 have da:w.grownBy w3 (some M):=yc (yc (yM cw.out) (yM aq.out)) a8
 rw[Qh Q.out Dl.parent]at bh
 rw[Qh Q.out Dl.s]at bq
 have cl:=(a8.block w.heap.size (by have:=aq.out.size;have:=ba.out;omega) (by simp;omega)).trans ((aq.out.block w.heap.size (by have:=ba.out;omega)).trans cy.out)
 have fz:w.heap.size+1<=w3.heap.size:=by have:=aq.out.size;have:=ba.out;have:=a8.size;omega
 have b4:=za (O5 M b l r s0 s1 kb tb pb cnt cnt cnt (NP S cnt) (λi=>(S i).map Dl.parent) pk w3 bw co bh (by omega) (λi hi=>by
  refine⟨hi.1,?_⟩
  obtain⟨n,h1,h2⟩:=Q.out.up i hi.2.2
  refine⟨n,h1,?_⟩
  rw[Vl Q.out]
  exact h2) (λi p hp=>by
  cases hi:S i with
  |none=>rw[hi]at hp;cases hp
  |some y=>
   rw[hi]at hp
   cases hp
   have:=Q.out.rng i y hi
   exact Bg (by omega) (by omega)))
 have b3:=za cj
 have d7:=za da
 have ag:=za bw
 have de:=za cl
 have bf:=za bq
 have af:=za bh
 clear cj da bw cl bq bh co a8 HD HN cy cb cw aq ak az ba
 have hmk:∀W:ze,(Instr.makeMap 97 none).run Tryz.prog W=.ok (.map (some W.heap.size)) (W.alloc (.map #[] 0)):=λW=>run_makeMap _ W
 obtain⟨L,hL⟩:∃L,L=Cs (NP S cnt) cnt:=⟨_,rfl⟩
 rw[<-hL]at b4
 have gi:L.length<=300:=by rw[hL];have:=G0 (NP S cnt) cnt;omega
 have cp:eW (∀x∈L,yw x/\∃y,S x=some y):=za λx hx=>by
  rw[hL]at hx
  obtain⟨h1,_,_,h2⟩:=Hm.1 hx
  exact⟨Bg (by omega) (by omega),Option.isSome_iff_exists.1 h2⟩
 have HL:=za hL
 clear hL
 go_wp2_with fail
 refine b4.out.mono ?_
 rintro e A ⟨u,rfl,au,ca⟩
 obtain⟨pu,cu,rfl⟩:=yq au
 have gn:=ca.size
 obtain⟨w5,a7⟩:∃w5,w5=A.alloc (.map #[] 0):=⟨_,rfl⟩
 have ct:Below A.heap.size A w5:=by rw[a7];exact ya _
 have c1:w5.heap.size=A.heap.size+1:=by rw[a7];simp
 have cz:BT w5 A.heap.size w5.heap.size 0 λ_=>[]:=by rw[a7];exact BT.made A
 have C:=za ca
 have dj:=za ct
 have ch:=za c1
 have cx:=za cz
 have bl:=za au
 clear ca ct c1 cz au b4
 go_wp2
 rw[<-a7]
 clear a7
 go_loopw [8,25] (λ_ iv V=>∃j:Nat,j<=L.length/\iv=.int .i64 j/\BT V A.heap.size w5.heap.size j (Dc S (L.take j))/\Below A.heap.size A V/\w5.heap.size<=V.heap.size) (λ_ iv _=>L.length-(intOf iv).toNat)
 case atStart=>exact⟨0,by omega,rfl,cx.out.congr (λk=>by rw[zak];exact Rd _ _),dj.out,zn _⟩
 case round=>
  obtain⟨j,hj,rfl,ar,m,ge⟩:=hrel
  have P:yj wr w3.heap.size (.slice pu L.length cu) L:=yy bl.out m
  have cd:=za m
  have gp:=za ar
  have aa:=(m.block M (by have:=yz ag.out;omega)).trans ((C.out.block M (yz ag.out)).trans ag.out)
  have fc:=za aa
  have be:Am wr pb cnt λi=>(S i).map Dl.parent:=Ae.below (Ae.below af.out C.out (Ae.lt af.out)) m (by have:=Ae.lt af.out;omega)
  have gk:=za be
  have fg:=yz ag.out
  have fq:=Ae.lt af.out
  by_cases d6:j<L.length
  .obtain⟨x,hx⟩:∃x,L[j]?=some x:=⟨L[j],zc d6⟩
   obtain⟨dn,y,hy⟩:=cp.out x (zq hx)
   have dv:=Q.out.rng x y hy
   have ci:yw y.parent:=Bg (by omega) (by omega)
   have c3:DD S x=y.parent:=by unfold DD;rw[hy];rfl
   obtain⟨F,bt,bs⟩:=ar
   obtain⟨v,hv,bp⟩:=bs.1 y.parent
   have gc:(Dc S (L.take j) y.parent).length<=300:=by
    have h1:=List.length_filter_le (λk=>decide (DD S k=y.parent)) (L.take j)
    have h2:=List.length_take_le j L
    unfold Dc
    omega
   generalize df:Dc S (L.take j) y.parent=d at*
   obtain⟨pv,cv,rfl⟩:=yq bp
   have al:=λV(e:V.heap[pb]?=wr.heap[pb]?)=>(show Am V pb cnt λi=>(S i).map Dl.parent from Ae.block be e).look dn
   rw[hy]at al
   have a5:=λV(e:V.heap[A.heap.size]?=wr.heap[A.heap.size]?)=>(Ae.block bt e).look (t:=97) (e:=55) Tryz.underlying97 (PU V) y.parent ci
   have c5:(F y.parent).getD (.slice none 0 0)=.slice pv d.length cv:=by
    rcases hv with h|⟨h,e⟩
    .rw[h];rfl
    .rw[h,e];rfl
   rw[c5]at a5
   obtain⟨-,-,-,-,-,-,-,-,-,-,dg⟩:=yY aa
   have N:eW (∀V:ze,V.heap[M]?=wr.heap[M]?->V.heap[pb]?=wr.heap[pb]?->V.heap[A.heap.size]?=wr.heap[A.heap.size]?->V.cell? ⟨M,10,none⟩=some (.map (some pb))/\(ec 67 (.map (some pb)) (.int .i64 x) false).run Tryz.prog V=.ok (.int .i64 y.parent) V/\(ec 97 (.map (some A.heap.size)) (.int .i64 y.parent) false).run Tryz.prog V=.ok (.slice pv d.length cv) V):=za λV h1 h2 h3=>
    ⟨by rw[<-dg];simp only[zS,h1],al V h2,a5 V h3⟩
   obtain⟨bd,od,dt,fw,ck⟩:=P.ints.at hx
   subst dt
   have bg:=N.out wr.drew rfl rfl rfl
   have d9:=za bt
   have dz:=za bs
   have HV:=za hv
   have bz:=za bp
   have HX:=za hx
   have ds:=za c3
   have dm:=za df
   clear al a5 c5 dg bt bs hv bp hx c3 df dv hy P be aa m
   go_wp2
   refine Cut.wp_region_cut_reads 18 16 (λV=>V.cell? ⟨M,10,none⟩=some (.map (some pb))/\(ec 67 (.map (some pb)) (.int .i64 x) false).run Tryz.prog V=.ok (.int .i64 y.parent) V/\(ec 97 (.map (some A.heap.size)) (.int .i64 y.parent) false).run Tryz.prog V=.ok (.slice pv d.length cv) V) (by kernel_rfl) (by kernel_rfl) (λ_ _ _ _ _ h=>h) bg (λhHeld=>?_)
   simp only[zag,zak,zaM,zem]
   iterate 16
    refine⟨?_,.inl ⟨by rfl,?_⟩,?_⟩
    rotate_left
    .intro V ai;(try dsimp only at ai);obtain⟨a1,a2,a3⟩:=ai;go_simp;(try with_reducible rfl)
    try simp only[z8,zf,zi,zj]
   refine zG (rs:=[16]) (by kernel_rfl) (by simp) ?_
   refine zv rfl (λK hK=>?_) zC
   go_simp
   obtain⟨w6,ax⟩:∃w6,w6=(wr.alloc (.cells #[.int .i64 x] 3)).drew:=⟨_,rfl⟩
   have X:Below wr.heap.size wr w6:=by rw[ax];exact(ya _).drew
   have f1:w6.heap.size=wr.heap.size+1:=by
    rw[ax]
    show(wr.alloc _).heap.size=_
    simp
   have d1:w6.heap[wr.heap.size]?=some (.cells #[.int .i64 x] 3 (0,0)):=by rw[ax];exact zx _ _
   rw[<-ax]
   clear ax
   have f8:=ch.out
   have c9:=N.out w6 (X.block M (by omega)) (X.block pb (by omega)) (X.block A.heap.size (by have:=ch.out;omega))
   refine hK.out _ _ c9 (λ_=>?_)
   clear hK K hHeld bg
   have J:yj w6 w5.heap.size (.slice pv d.length cv) d:=yy bz.out X
   refine zG (rs:=[17]) (by kernel_rfl) (by simp) ?_
   refine zv rfl (λK hK=>?_) zC
   refine step_append_lies _ (by rfl) _ _ _ (by rfl) w5.heap.size 3 is _ 1 8 Tryz.underlying55 d8 fb dr d0 rfl (by omega) (.slice pv d.length cv) d.length (d.map (Value.int .i64)) (by rfl) J
      ⟨wr.heap.size,0,none⟩ 1 1 [.int .i64 x] (by rfl) (by rfl) (World.news_of_block (cs:=#[.int .i64 x]) (t:=3) (fr:=(0,0)) d1) (by simp[Value.oneCell'])
      (by omega) (by simp[maxLen];omega) (by omega) (by omega) _ rfl ?_
   intro gg dy w7 b1 G d4 fj
   have bb:∀k,k<wr.heap.size->k<w5.heap.size->w7.heap[k]?=wr.heap[k]?:=λk h1 h2=>(G.block k (by omega) (λe=>by have:=yf J k e.symm;omega)).trans (X.block k h1)
   refine hK.out _ _ (N.out w7 (bb M (by omega) (by omega)) (bb pb (by omega) (by omega)) (bb A.heap.size (by omega) (by omega))) (λ_=>?_)
   clear hK K c9
   refine lF (by kernel_rfl) ?_ _
   dsimp only[ef]
   try simp only[z8,zf,zi,zj]
   have d5:Ae w7 A.heap.size j F:=Ae.block d9.out (bb A.heap.size (by omega) (by omega))
   go_wp2_with (at_mapUpdate;refine yS rfl _ _ _ 97 55 rfl Tryz.underlying97 A.heap.size j F rfl d5 (by simp only[maxLen];omega) y.parent rfl ci ?_;intro w8 fa bu)
   go_roundw
   case rel=>
    have h7:yj w7 w5.heap.size (.slice (some ⟨gg,0,none⟩) (d.length+1) dy) (Dc S (L.take j) y.parent++[x]):=by
     rw[dm.out]
     unfold yj
     simpa using b1
    have cn:=Dd.put (dz.out.block X) (by omega) (p:=y.parent) (x:=x) HV.out G h7 (λg e=>by
     have e:gg=g:=by simpa[Value.ownBlock]using e
     subst e
     rcases d4 with h|h
     .exact .inl h
     .exact .inr (by omega)) fa bu
    have f2:=yU bu
    have f5:=G.size
    refine⟨j+1,by omega,by go_num,cn.congr (λi=>?_),?_,by omega⟩
    .rw[List.take_add_one,HX.out]
     simp only[Option.toList_some]
     rw[Ol,ds.out]
    .have cf:Below A.heap.size A w7:=yd (cd.out.trans (X.mono cd.out.size)) G (λk e=>by have:=yf J k e;omega) (by omega)
     exact cf.trans (yE bu (zn _))
   case measure=>simp[intOf];omega
  .obtain rfl:j=L.length:=by omega
   rw[List.take_length]at ar
   have fp:=m.size
   have aj:Below w0.heap.size w0 wr:=(b3.out.trans (C.out.mono b3.out.size)).trans (m.mono (by have:=b3.out.size;omega))
   have hA:W4 wr M b l r s0 s1 kb tb pb A.heap.size nb nl nr cnt L.length cnt B _ R (λi=>(S i).map Dl.s) (Dc S L) pk:=
    ⟨aa,dh.out.below aj,c6.out.below aj,c8.out.below aj,Ae.below (Ae.below bf.out C.out (Ae.lt bf.out)) m (by have:=Ae.lt bf.out;omega),ar.at,dx.out.below aj⟩
   have db:=za hA.s
   have c2:=za (OD HPr M b l r s0 s1 kb tb pb A.heap.size nb nl nr cnt L.length cnt B _ R S _ _ pk (by rw[HL.out];exact Q.out.fine) t 0 wr Q.out.tree Q.out.size Q.out.bulk Q.out.owned hA)
   have b9:=(m.block w.heap.size (by omega)).trans ((C.out.block w.heap.size (by omega)).trans de.out)
   have d2:=za b9
   have dc:w.grownBy wr (some M):=yc (yc d7.out ⟨C.out.os,C.out.tape,C.out.output,C.out.size,λk hk _=>C.out.block k hk⟩) ⟨m.os,m.tape,m.output,m.size,λk hk _=>m.block k (by omega)⟩
   have bx:=za dc
   have d3:M<wr.heap.size:=yz aa
   have fd:w.heap.size<wr.heap.size:=yz b9
   clear hA b9 dc aj ar m be P aa bl cx dj bf af ag de cp hmk
   go_wp2_with fail
   refine c2.out.mono ?_
   rintro e I ⟨gv,kv,rfl,br,bi⟩
   have a9:=br.lies (zn _)
   obtain⟨pg,cg,rfl⟩:=a9.gaps.slice
   obtain⟨O,U,rfl⟩:=a9.kids.slice
   have gm:=bi.size
   obtain⟨o,H⟩:∃o,o=I.alloc (.cells #[.int .i64 t.k,.string t.s,.slice pg t.g.length cg,.slice O t.ks.length U] 25):=⟨_,rfl⟩
   have Z:Below I.heap.size I o:=by rw[H];exact ya _
   have ce:o.heap.size=I.heap.size+1:=by rw[H];simp
   have bj:o.heap[I.heap.size]?=some (.cells #[.int .i64 t.k,.string t.s,.slice pg t.g.length cg,.slice O t.ks.length U] 25 (0,0)):=by rw[H];exact zx _ _
   have ah:Below wr.heap.size wr o:=bi.trans (Z.mono bi.size)
   have an:=(ah.block M d3).trans fc.out
   have bo:=(ah.block w.heap.size fd).trans d2.out
   have ae:t.Lies o _ _:=T.Lies.below Z t a9
   have N:eW (∀V:ze,V.heap[I.heap.size]?=o.heap[I.heap.size]?->V.heap[M]?=o.heap[M]?->V.cell? ⟨I.heap.size,0,none⟩=some (.int .i64 t.k)/\V.cell? ⟨I.heap.size,1,none⟩=some (.string t.s)/\V.cell? ⟨I.heap.size,2,none⟩=some (.slice pg t.g.length cg)/\V.cell? ⟨I.heap.size,3,none⟩=some (.slice O t.ks.length U)/\V.cell? ⟨M,7,none⟩=some (.slice none 0 0)):=za λV hV1 hV2=>by
    obtain⟨a0,a1,a2,a3⟩:=yi (hV1.trans bj)
    obtain⟨-,-,-,-,-,-,-,m7,-,-,-⟩:=yY (hV2.trans an)
    exact⟨a0,a1,a2,a3,m7⟩
   have dk:=za (FT t _ _ o.drew (T.Lies.below (zt _ _).drew t ae) ((db.out.below ah).below (zt _ _).drew) (T.fine_bulk t Q.out.bulk) Q.out.size)
   rw[Q.out.check]at dk
   have c:=za ah
   have cc:=za br
   have am:=za Z
   have ao:=za an
   have bn:=za bo
   have fk:=za ae
   have cm:=za ce
   clear a9 br bi Z bj ah an bo ae c2 db
   go_upto_region 13 with fail
   rw[<-H]
   clear H
   have bg:=N.out o.drew rfl rfl
   obtain⟨gb,f9,fx,gf⟩:=yi bn.out
   refine Cut.wp_region_cut_reads 13 9 (λV=>V.cell? ⟨I.heap.size,0,none⟩=some (.int .i64 t.k)/\V.cell? ⟨I.heap.size,1,none⟩=some (.string t.s)/\V.cell? ⟨I.heap.size,2,none⟩=some (.slice pg t.g.length cg)/\V.cell? ⟨I.heap.size,3,none⟩=some (.slice O t.ks.length U)/\V.cell? ⟨M,7,none⟩=some (.slice none 0 0)) (by kernel_rfl) (by kernel_rfl) (λ_ _ _ _ _ h=>h) bg (λhHeld=>?_)
   simp only[zag,zak,zaM,zem]
   iterate 9
    refine⟨?_,.inl ⟨by rfl,?_⟩,?_⟩
    rotate_left
    .intro V ai;(try dsimp only at ai);obtain⟨a0,a1,a2,a3,a4⟩:=ai;go_simp;(try with_reducible rfl)
    try simp only[z8,zf,zi,zj]
   clear hHeld
   refine zG (rs:=[9]) (by kernel_rfl) (by simp) ?_
   refine zv rfl (λK hK=>?_) zC
   go_simp
   refine dk.out.mono ?_
   rintro e E ⟨rfl,bm⟩
   have q:Below o.heap.size o E:=((zt _ _).drew).trans bm
   have ap:I.heap.size<o.heap.size:=by have:=cm.out;omega
   have a6:=N.out E (q.block _ ap) (q.block M (by omega))
   have z:=(q.block w.heap.size (by omega)).trans bn.out
   obtain⟨z0,z1,z2,z3⟩:=yi z
   have q0:=zk E w.heap.size 0 _ _ z
   have q1:=zk E w.heap.size 1 _ _ z
   have q2:=zk E w.heap.size 2 _ _ z
   have q3:=zk E w.heap.size 3 _ _ z
   refine hK.out _ _ a6 (λ_=>?_)
   clear hK K
   have Y:=AT E w.heap.size (.int .i64 t.k) (.string t.s) (.slice pg t.g.length cg) (.slice O t.ks.length U)
   have bk:=AO E w.heap.size 25 _ _ _ _ (.int .i64 t.k) (.string t.s) (.slice pg t.g.length cg) (.slice O t.ks.length U) z
   have fu:=q.size
   have D:=N.out ((((E.setCell ⟨w.heap.size,0,none⟩ (.int .i64 t.k)).setCell ⟨w.heap.size,1,none⟩ (.string t.s)).setCell ⟨w.heap.size,2,none⟩ (.slice pg t.g.length cg)).setCell ⟨w.heap.size,3,none⟩ (.slice O t.ks.length U)) ((Y.block _ (by omega) (by simp;omega)).trans (q.block _ ap)) ((Y.block M (by omega) (by simp;omega)).trans (q.block M (by omega)))
   have fm:=za z
   have f:=za Y
   have aw:=za bk
   have a:=za q
   clear z Y bk q bm
   try simp only[z8,zf,zi,zj]
   refine zG (rs:=[10,12]) (by kernel_rfl) (by simp) ?_
   refine zv rfl (λK hK=>?_) (zv rfl (λK hK=>?_) zC)
   .go_simp
    refine hK.out _ _ a6 (λ_=>?_)
    clear hK K
    try simp only[z8,zf,zi,zj]
    refine zG (rs:=[11,12]) (by kernel_rfl) (by simp) ?_
    refine zv rfl (λK hK=>?_) (zv rfl (λK hK=>?_) zC)
    .go_simp
     refine hK.out _ _ a6 (λ_=>?_)
     clear hK K
     try simp only[z8,zf,zi,zj]
     refine zG (rs:=[12]) (by kernel_rfl) (by simp) ?_
     refine zv rfl (λK hK=>?_) zC
     go_simp
     refine hK.out _ _ D (λ_=>?_)
     clear hK K
     refine lF (by kernel_rfl) ?_ _
     dsimp only[ef]
     try simp only[z8,zf,zi,zj]
     go_wp2
     refine eG (C5 rfl _ _ w.heap.size _ _ _ rfl aw.out BZ) rfl ⟨_,_,kb,tb,pb,rfl,?_,?_,?_⟩
     .exact(cc.out.keep (λk h1 h2=>(f.out.block k (by omega) (by simp;omega)).trans ((a.out.block k (by omega)).trans (am.out.block k h2)))).lies (by have:=f.out.size;omega)
     .exact(f.out.block M (by omega) (by simp;omega)).trans ((a.out.block M (by omega)).trans ao.out)
     .exact Ag (yc (yc bx.out ⟨c.out.os,c.out.tape,c.out.output,c.out.size,λk hk _=>c.out.block k hk⟩) ⟨a.out.os,a.out.tape,a.out.output,a.out.size,λk hk _=>a.out.block k hk⟩) f.out (.inr λk e=>by cases e;omega)
    .go_simp
     refine hK.out _ _ D (λ_=>?_)
     clear hK K
     try simp only[z8,zf,zi,zj]
     refine zG (rs:=[11]) (by kernel_rfl) (by simp) ?_
     refine zv rfl (λK hK=>?_) zC
     go_simp
     refine hK.out _ _ D (λ_=>?_)
     clear hK K
     refine lF (by kernel_rfl) ?_ _
     dsimp only[ef]
     try simp only[z8,zf,zi,zj]
     go_wp2
     refine eG (C5 rfl _ _ w.heap.size _ _ _ rfl aw.out BZ) rfl ⟨_,_,kb,tb,pb,rfl,?_,?_,?_⟩
     .exact(cc.out.keep (λk h1 h2=>(f.out.block k (by omega) (by simp;omega)).trans ((a.out.block k (by omega)).trans (am.out.block k h2)))).lies (by have:=f.out.size;omega)
     .exact(f.out.block M (by omega) (by simp;omega)).trans ((a.out.block M (by omega)).trans ao.out)
     .exact Ag (yc (yc bx.out ⟨c.out.os,c.out.tape,c.out.output,c.out.size,λk hk _=>c.out.block k hk⟩) ⟨a.out.os,a.out.tape,a.out.output,a.out.size,λk hk _=>a.out.block k hk⟩) f.out (.inr λk e=>by cases e;omega)
   .go_simp
    refine hK.out _ _ D (λ_=>?_)
    clear hK K
    try simp only[z8,zf,zi,zj]
    refine zG (rs:=[10]) (by kernel_rfl) (by simp) ?_
    refine zv rfl (λK hK=>?_) zC
    go_simp
    refine hK.out _ _ D (λ_=>?_)
    clear hK K
    try simp only[z8,zf,zi,zj]
    refine zG (rs:=[11]) (by kernel_rfl) (by simp) ?_
    refine zv rfl (λK hK=>?_) zC
    go_simp
    refine hK.out _ _ D (λ_=>?_)
    clear hK K
    refine lF (by kernel_rfl) ?_ _
    dsimp only[ef]
    try simp only[z8,zf,zi,zj]
    go_wp2
    refine eG (C5 rfl _ _ w.heap.size _ _ _ rfl aw.out BZ) rfl ⟨_,_,kb,tb,pb,rfl,?_,?_,?_⟩
    .exact(cc.out.keep (λk h1 h2=>(f.out.block k (by omega) (by simp;omega)).trans ((a.out.block k (by omega)).trans (am.out.block k h2)))).lies (by have:=f.out.size;omega)
    .exact(f.out.block M (by omega) (by simp;omega)).trans ((a.out.block M (by omega)).trans ao.out)
    .exact Ag (yc (yc bx.out ⟨c.out.os,c.out.tape,c.out.output,c.out.size,λk hk _=>c.out.block k hk⟩) ⟨a.out.os,a.out.tape,a.out.output,a.out.size,λk hk _=>a.out.block k hk⟩) f.out (.inr λk e=>by cases e;omega)
theorem yV.cells{w W:ze}{b n:Nat}{V:Ver}(h:yV w b n V)(hz:w.heap.size<=W.heap.size)(hb:W.heap[b]?=w.heap[b]?)(hc:∀(b off:Nat)(v:zg),(∀o,v≠ .map o)->w.cell? ⟨b,off,none⟩=some v->W.cell? ⟨b,off,none⟩=some v):yV W b n V:=by
 obtain⟨F,j,q⟩:=h;refine⟨F,Ae.block j hb,λi=>?_⟩;rcases q i with h|⟨y,v,p,m,x,k,z,r,A,t,l⟩
 .exact .inl h
 .refine .inr ⟨y,v,p,m,x,k,z,r,A,?_,?_⟩
  .rcases t with h|⟨b,off,c,f,a,g,d⟩
   .exact .inl h
   .exact .inr ⟨b,off,c,f,a,by omega,λi s hi=>hc _ _ _ (λo e=>by cases e) (d i s hi)⟩
  .rcases l with h|⟨b,off,c,f,a,g,d⟩
   .exact .inl h
   .exact .inr ⟨b,off,c,f,a,by omega,λi s hi=>hc _ _ _ (λo e=>by cases e) (d i s hi)⟩
theorem yV.map_block{w:ze}{b n:Nat}{V:Ver}(h:yV w b n V):∃es c,w.heap[b]?=some (.map es c):=by obtain⟨F,⟨D,⟨es,c,a,_⟩,_⟩,_⟩:=h;exact⟨es,c,a⟩
theorem Ie{w:ze}{B k:Nat}{x:zg}{o:Option Nat}(hk:w.cell? ⟨B,k,none⟩=some (.map o))(b off:Nat)(v:zg)(hv:∀o,v≠ .map o)(h:w.cell? ⟨b,off,none⟩=some v):(w.setCell ⟨B,k,none⟩ x).cell? ⟨b,off,none⟩=some v:=(zbH w _ _ x (λe=>by rw[<-e,hk]at h;cases h;exact hv o rfl)).trans h
theorem yV.two_maps{w:ze}{B b n s0 s1:Nat}{V:Ver}{cs:Array zg}{t:TypeId}(h:yV w b n V)(hB:w.heap[B]?=some (.cells cs t (0,0)))(h3:cs[3]?=some (.map none))(h4:cs[4]?=some (.map none)):yV ((w.setCell ⟨B,3,none⟩ (.map (some s0))).setCell ⟨B,4,none⟩ (.map (some s1))) b n V:=by
 obtain⟨k,c,g⟩:=h.map_block;have a:b≠B:=λe=>by rw[e,hB]at g;cases g
 have j:w.cell? ⟨B,3,none⟩=some (.map none):=(zV w B 3 _ _ _ hB).trans h3;have i:w.cell? ⟨B,4,none⟩=some (.map none):=(zV w B 4 _ _ _ hB).trans h4;have d:(w.setCell ⟨B,3,none⟩ (.map (some s0))).cell? ⟨B,4,none⟩=some (.map none):=(zbH w _ _ _ (λe=>by cases e)).trans i;have f:=yc (yn w B 3 (.map (some s0))) (yn (w.setCell ⟨B,3,none⟩ (.map (some s0))) B 4 (.map (some s1)));exact h.cells f.size (f.block b h.lt (by simp;exact a)) λb off v hv hc=>Ie d b off v hv (Ie j b off v hv hc)
open Go.RowKit
noncomputable def BD:List T->Int
 |[]=>0
 |t::ts=>if t.check≠0 then t.check else BD ts
theorem MJ{ks:List T}{j:Nat}{t:T}(h:ks[j]?=some t):BD (ks.drop j)=if t.check≠0 then t.check else BD (ks.drop (j+1)):=by obtain⟨a,rfl⟩:=zm.1 h;rw[List.drop_eq_getElem_cons a,BD]
theorem GN(a b c:T)(ga ka gb kb gc kc:zg)(w:ze)(ha:a.Lies w ga ka)(hb:b.Lies w gb kb)(hc:c.Lies w gc kc)(hS:Bh w)(fa:a.Fine/\a.size<=300)(fb:b.Fine/\b.size<=300)(fc:c.Fine/\c.size<=300):zM Tryz.prog 18 #[yJ a.k a.s ga ka,yJ b.k b.s gb kb,yJ c.k c.s gc kc] w λe w'=>e=.returned (.int .i64 (BD [a,b,c]))/\Below w.heap.size w w':=by
 obtain⟨p,A,rfl⟩:=ha.gaps.slice;obtain⟨y,v,rfl⟩:=ha.kids.slice;obtain⟨D,o,rfl⟩:=hb.gaps.slice;obtain⟨m,q,rfl⟩:=hb.kids.slice;obtain⟨z,B,rfl⟩:=hc.gaps.slice;obtain⟨C,x,rfl⟩:=hc.kids.slice;have V:Below w.heap.size w (((w.alloc (.cells #[.int .i64 a.k,.string a.s,.slice p a.g.length A,.slice y a.ks.length v] 25)).alloc (.cells #[.int .i64 b.k,.string b.s,.slice D b.g.length o,.slice m b.ks.length q] 25)).alloc (.cells #[.int .i64 c.k,.string c.s,.slice z c.g.length B,.slice C c.ks.length x] 25)):=(ya _).trans (((ya _).mono (by simp)).trans ((ya _).mono (by simp;omega)));have M:(((w.alloc (.cells #[.int .i64 a.k,.string a.s,.slice p a.g.length A,.slice y a.ks.length v] 25)).alloc (.cells #[.int .i64 b.k,.string b.s,.slice D b.g.length o,.slice m b.ks.length q] 25)).alloc (.cells #[.int .i64 c.k,.string c.s,.slice z c.g.length B,.slice C c.ks.length x] 25)).heap.size=w.heap.size+1+1+1:=by simp
 have h:=(MapKept.heap_alloc (((w.alloc (.cells #[.int .i64 a.k,.string a.s,.slice p a.g.length A,.slice y a.ks.length v] 25)).alloc (.cells #[.int .i64 b.k,.string b.s,.slice D b.g.length o,.slice m b.ks.length q] 25)).alloc (.cells #[.int .i64 c.k,.string c.s,.slice z c.g.length B,.slice C c.ks.length x] 25)) (.cells #[.int .i64 a.k,.string a.s,.slice p a.g.length A,.slice y a.ks.length v,.int .i64 b.k,.string b.s,.slice D b.g.length o,.slice m b.ks.length q,.int .i64 c.k,.string c.s,.slice z c.g.length B,.slice C c.ks.length x] 25)).1;rw[M]at h;have l:Below w.heap.size w ((((w.alloc (.cells #[.int .i64 a.k,.string a.s,.slice p a.g.length A,.slice y a.ks.length v] 25)).alloc (.cells #[.int .i64 b.k,.string b.s,.slice D b.g.length o,.slice m b.ks.length q] 25)).alloc (.cells #[.int .i64 c.k,.string c.s,.slice z c.g.length B,.slice C c.ks.length x] 25)).alloc (.cells #[.int .i64 a.k,.string a.s,.slice p a.g.length A,.slice y a.ks.length v,.int .i64 b.k,.string b.s,.slice D b.g.length o,.slice m b.ks.length q,.int .i64 c.k,.string c.s,.slice z c.g.length B,.slice C c.ks.length x] 25)):=V.trans ((ya _).mono (by rw[M];omega));have L:((((w.alloc (.cells #[.int .i64 a.k,.string a.s,.slice p a.g.length A,.slice y a.ks.length v] 25)).alloc (.cells #[.int .i64 b.k,.string b.s,.slice D b.g.length o,.slice m b.ks.length q] 25)).alloc (.cells #[.int .i64 c.k,.string c.s,.slice z c.g.length B,.slice C c.ks.length x] 25)).alloc (.cells #[.int .i64 a.k,.string a.s,.slice p a.g.length A,.slice y a.ks.length v,.int .i64 b.k,.string b.s,.slice D b.g.length o,.slice m b.ks.length q,.int .i64 c.k,.string c.s,.slice z c.g.length B,.slice C c.ks.length x] 25)).heap.size=w.heap.size+4:=by simp
 have P:Bq ((((w.alloc (.cells #[.int .i64 a.k,.string a.s,.slice p a.g.length A,.slice y a.ks.length v] 25)).alloc (.cells #[.int .i64 b.k,.string b.s,.slice D b.g.length o,.slice m b.ks.length q] 25)).alloc (.cells #[.int .i64 c.k,.string c.s,.slice z c.g.length B,.slice C c.ks.length x] 25)).alloc (.cells #[.int .i64 a.k,.string a.s,.slice p a.g.length A,.slice y a.ks.length v,.int .i64 b.k,.string b.s,.slice D b.g.length o,.slice m b.ks.length q,.int .i64 c.k,.string c.s,.slice z c.g.length B,.slice C c.ks.length x] 25)) (.slice (some ⟨w.heap.size+1+1+1,0,none⟩) 3 3) [a,b,c]:=by
  refine .inr ⟨w.heap.size+1+1+1,0,3,rfl,by rw[L];omega,λi t d=>?_⟩;match i,d with
  |0,d=>simp only[zW,zb]at d;subst d;exact⟨_,_,by simp only[zS,h];rfl,by simp only[zS,h];rfl,by simp only[zS,h];rfl,by simp only[zS,h];rfl,T.Lies.below l _ ha⟩
  |1,d=>simp only[zav,zW,zb]at d;subst d;exact⟨_,_,by simp only[zS,h];rfl,by simp only[zS,h];rfl,by simp only[zS,h];rfl,by simp only[zS,h];rfl,T.Lies.below l _ hb⟩
  |2,d=>simp only[zav,zW,zb]at d;subst d;exact⟨_,_,by simp only[zS,h];rfl,by simp only[zS,h];rfl,by simp only[zS,h];rfl,by simp only[zS,h];rfl,T.Lies.below l _ hc⟩
  |n+3,d=>simp at d
 have X:=za (hS.below l);have HF:eW (∀(i:Nat)(t:T),[a,b,c][i]?=some t->t.Fine/\t.size<=300):=za (λi t d=>by
  have:=zq d;simp only[zO,List.not_mem_nil,or_false]at this;rcases this with rfl|rfl|rfl
  .exact fa
  .exact fb
  .exact fc)
 have N:=za l;have Z:=za P;have J:=za L;clear ha hb hc hS fa fb fc V M h l L P;go_enter Tryz.func18,Tryz.ntmps18;go_wp2;go_loopw [15] (λi w'=>∃j:Nat,j<=3/\BD [a,b,c]=BD ([a,b,c].drop j)/\i=.int .i64 j/\Below (w.heap.size+4) ((((w.alloc (.cells #[.int .i64 a.k,.string a.s,.slice p a.g.length A,.slice y a.ks.length v] 25)).alloc (.cells #[.int .i64 b.k,.string b.s,.slice D b.g.length o,.slice m b.ks.length q] 25)).alloc (.cells #[.int .i64 c.k,.string c.s,.slice z c.g.length B,.slice C c.ks.length x] 25)).alloc (.cells #[.int .i64 a.k,.string a.s,.slice p a.g.length A,.slice y a.ks.length v,.int .i64 b.k,.string b.s,.slice D b.g.length o,.slice m b.ks.length q,.int .i64 c.k,.string c.s,.slice z c.g.length B,.slice C c.ks.length x] 25)) w') (λi _=>3-(intOf i).toNat)
 case atStart=>exact⟨0,by omega,rfl,rfl,zt _ _⟩
 case round=>
  rename_i wr hrel;obtain⟨j,hj,hf,rfl,f⟩:=hrel;have Y:w.heap.size+4<=wr.heap.size:=by have:=f.size;rw[J.out]at this;exact this
  have Q:=Z.out.below (by rw[J.out];exact f);have W:=za (X.out.below (by rw[J.out];exact f));have HB:=za f;have I:=za hf;clear f hf;by_cases aa:j<3
  .obtain⟨t,d⟩:∃t,[a,b,c][j]?=some t:=⟨[a,b,c][j]'(by simpa using aa),zc _⟩
   have HT:=za (MJ d);obtain⟨b',ah,e,hb,al,ai,f0,f1,f2,f3,E⟩:=Q.at d;injection e with e
   injection e with e1 e2
   subst e1 e2;simp only[Nat.zero_add]at f0 f1 f2 f3;obtain⟨R,S,rfl⟩:=E.gaps.slice;obtain⟨O,U,rfl⟩:=E.kids.slice;have F:=ya (w:=wr) (.cells #[.int .i64 t.k,.string t.s,.slice R t.g.length S,.slice O t.ks.length U] 25);have HI:=za (FT t _ _ (wr.alloc (.cells #[.int .i64 t.k,.string t.s,.slice R t.g.length S,.slice O t.ks.length U] 25)) (T.Lies.below F t E) (W.out.below F) (HF.out j t d).1 (HF.out j t d).2);have G:=za F;clear Q d E F;generalize T.check t=r at*;have i3:(j:Int)<3:=by omega
   by_cases hr:r=0
   .subst hr;go_wp2_with (first|(go_at_call 12;refine HI.out.mono ?_;rintro e w' ⟨rfl,H⟩));go_roundw
    case rel=>exact⟨j+1,by omega,by rw[I.out,HT.out];simp,by go_num,HB.out.trans ((G.out.trans (H.mono G.out.size)).mono Y)⟩
    case measure=>simp[intOf];omega
   .have dr:(r !=0)=true:=by simpa using hr
    go_wp2_with (first|(go_at_call 12;refine HI.out.mono ?_;rintro e w' ⟨rfl,H⟩));go_ret;exact⟨Ck (by rw[I.out,HT.out,if_pos hr]),N.out.trans ((HB.out.mono (by omega)).trans ((G.out.trans (H.mono G.out.size)).mono (by omega)))⟩
  .obtain rfl:j=3:=by omega
   go_wp2;go_ret;exact⟨Ck (by rw[I.out];rfl),N.out.trans (HB.out.mono (by omega))⟩
theorem F6(b n:Nat)(V:Ver)(w:ze)(h:yV w b n V)(hmax:n<maxLen):zM Tryz.prog 22 #[.map (some b)] w λe w'=>e=.returned (.map (some w.heap.size))/\yV w' w.heap.size n V/\Below w.heap.size w w':=by
 obtain⟨F,⟨t,a,N,E⟩,hF⟩:=h;have a1:=@run_makeMap Tryz.prog;have ar:=a.lt;have al:=a.size_le;have e1:(w.alloc (.map #[] 0)).heap.size=w.heap.size+1:=by simp
 have U:eW (∀w',Below w.heap.size w w'->w'.ownsMap Tryz.prog Vw VA w.heap.size n t->yV w' w.heap.size n V):=za λw' hb h=>⟨F,⟨t,h,N,E⟩,λi=>by
  rcases hF i with h|⟨y,v,q1,q2,q3⟩
  .exact .inl h
  .exact .inr ⟨y,v,q1,q2,q3.below hb⟩⟩
 have D:eW (∀(i:Int)(c:zg),(∀zd,t.atKey (.int .i64 i) zd=.held c)->∃y I H J L,c=Dh y I H J L):=za λi c f=>by
  have h1:=E i;cases hFi:F i with
  |none=>have X:=h1.2 (.bool true);have h3:=h1.2 (.bool false);rw[f,hFi]at X h3;cases X;cases h3
  |some v=>
   have X:=h1.2 (.bool true);rw[f,hFi]at X;cases X;rcases hF i with⟨_,h⟩|⟨y,v,q1,q2,I,H,J,L,rfl,_⟩
   .rw[hFi]at h;cases h
   .rw[hFi]at q2;cases q2;exact⟨y,I,H,J,L,rfl⟩
 clear hF E;go_enter Tryz.func22,Tryz.ntmps22;go_wp2_with (first
  |(at_range;refine wpList_range_own _ rfl _ 62 rfl 3 94 Vg Tryz.underlying62 _ b n _ rfl (a.alloc _) ?_;intro w0 z T ah)
  |go_in)
 go_frame;rw[e1]at z ah⊢;go_loopw [4] (λ_ wr=>∃(m:Lit->Bool)(q:Nat)(o:DataW zg),wr.ranges Tryz.prog 3 VA b (w.heap.size+1) n t m q/\q<=zbB t/\wr.ownsMap Tryz.prog 3 VA w.heap.size (zbB t-q) o/\Go.Maps.Agree o t m/\Below w.heap.size w wr) (λ_ wr=>wr.rangeLeft b (w.heap.size+1))
 case atStart=>exact⟨_,_,.map [],z,zn _,((World.ownsMap_made _ _ _ _).kept T (by simp)).mono (Nat.zero_le _),agree_start t,((zt _ _).alloc (zn _) _).grown T (by simp) (λj hj=>by cases hj)⟩
 case round=>
  obtain⟨m,q,o,M,aq,d,hA,l⟩:=hrel;go_wp2_with (first
   |(at_next;refine wpList_next_ranges _ rfl _ rfl 3 Vg VA (λx:zg=>x) (λx:zg=>x) (λkey kl _=>⟨key,rfl⟩) (λv y hv=>⟨v,rfl⟩) b (w.heap.size+1) n _ _ _ rfl M ?_ ?_)
   |go_in)
  .intro ag ad;go_wp2;go_ret;subst ag;have e:=agree_end hA ad (d.canon Vg) (a.canon Vg);subst e;exact⟨rfl,U.out _ l (by have h1:=a.size_le;exact d.mono (by omega)),l⟩
  .intro x cs kl y yp w1 Z A av P f Y ae S ao ax;have G:=d.kept S (by simp);obtain⟨kx,rfl,rfl,aw⟩:=Maps.keyOf_int_inv Tryz.underlying3 A;have hy:=Lj (v:=cs) (x:=cs) (ps:=[]) rfl;have af:(DataW.held cs,([]:List MemPlace))=(y,yp):=by simpa[VA]using P
   cases af;obtain⟨p,I,H,J,L,rfl⟩:=D.out kx cs f;have W:=World.grownBy_alloc w1 (.cells #[.int .i64 p.k,.string p.s,.slice I p.g.length H,.int .i64 p.parent,.slice J p.kids.length L] 94) none;have B:=G.kept W (by simp);have O:=Y.kept W (by simp) (by simp);go_wp2_with (first
    |(at_mapUpdate;refine wpList_mapUpdate_own _ rfl _ _ _ 62 rfl 3 94 Vg Tryz.underlying62 _ w.heap.size _ _ rfl B (by omega) _ _ _ rfl rfl A _ _ P ?_;intro w2 C R;go_frame)
    |go_in)
   have r:=O.kept R (λe=>by have:=eF e;omega) (λe=>by have:=eF e;omega);have Q:=(l.grown S (by have:=l.size;omega) (λj hj=>by cases hj;exact Nat.le_succ _)).alloc (by have:=l.size;omega) (.cells #[.int .i64 p.k,.string p.s,.slice I p.g.length H,.int .i64 p.parent,.slice J p.kids.length L] 94);go_roundw
   case rel=>exact⟨_,Z,_,r,by omega,C.mono (by omega),agree_step hA d.isMap trivial f,Q.grown R (by have:=Q.size;omega) (λj hj=>by cases hj;exact zn _)⟩
   case measure=>rw[r.left_eq,M.left_eq];exact ae
theorem AI{fn:Func}{p u v:Tmp}(h:fn.results=#[.cell p 25,.tmp u,.tmp v])(tmps:Array zg)(w:ze)(g:Nat)(t:TypeId)(cs:Array zg)(fr:Nat×Nat)(hp:tmps.getD p zl=.pointer (some ⟨g,0,none⟩))(hg:w.heap[g]?=some (.cells cs t fr))(hi:(Tryz.prog.info? 25).map (·.size)=some cs.size):(results fn tmps).run Tryz.prog w=.ok (.tuple #[.agg cs,tmps.getD u zl,tmps.getD v zl]) w:=by
 have a:tmps[p]?.getD zl=.pointer (some ⟨g,0,none⟩):=by simpa using hp
 simp[results,h,a,asAddr,Sem.run_bind,oq,zef w g t 25 cs fr _ hg Tryz.underlying25 rfl hi]
theorem OM (HPr : G3) (tb tl tr t : T) (gb kb gl kl gr kr lv rv : zg) (pk : zg) (l r : List (Int × Int)) (idB idL idR : List Int) (cnt : Nat) (S : Ver) (w : ze) (hb : tb.Lies w gb kb) (hl : tl.Lies w gl kl) (hr : tr.Lies w gr kr) (hS : Bh w)
    (hlv : Ao w lv l) (hrv : Ao w rv r) (hpk : ∃ p n c, pk = .slice p n c) (sb : tb.size ≤ 300) (sl : tl.size ≤ 300) (sr : tr.size ≤ 300) (bb : tb.bulk ≤ 1048576) (bl : tl.bulk ≤ 1048576) (br : tr.bulk ≤ 1048576) (nl : l.length ≤ 1000) (nr : r.length ≤ 1000)
    (c0 : BD [tb, tl, tr] = 0) (c1 : Aj tb.k tl.k (tb.rows 0 (-1)) (tl.rows 0 (-1)) l = 0) (c2 : Aj tb.k tr.k (tb.rows 0 (-1)) (tr.rows 0 (-1)) r = 0) (e1 : tb.k = tl.k) (e2 : tb.k = tr.k)
    (hB : idB.length = tb.size ∧ ∀ x ∈ idB, yw x) (hL : idL.length = tl.size ∧ ∀ x ∈ idL, yw x) (hR : idR.length = tr.size ∧ ∀ x ∈ idR, yw x) (rb : NK (tb.rows 0 (-1))) (rl : NK (tl.rows 0 (-1))) (rr : NK (tr.rows 0 (-1)))
    (HAS : ∀ (W : ze) (gb kb gl kl gr kr lv rv : zg), tb.Lies W gb kb → tl.Lies W gl kl → tr.Lies W gr kr → Ao W lv l → Ao W rv r → zM Tryz.prog 20 #[yJ tb.k tb.s gb kb, yJ tl.k tl.s gl kl, yJ tr.k tr.s gr kr, lv, rv] W fun e w' => ∃ u1 u2 u3, e = .returned (.tuple #[.agg #[u1, u2, u3, .int .i64 cnt], .int .i64 0]) ∧
      yj w' W.heap.size u1 idB ∧ yj w' W.heap.size u2 idL ∧ yj w' W.heap.size u3 idR ∧ Below W.heap.size W w')
    (hF : FL (AG tb idB) (AG tl idL) (AG tr idR) S cnt t) (hthin : t.thin) :
    zM Tryz.prog 8 #[yJ tb.k tb.s gb kb, yJ tl.k tl.s gl kl, yJ tr.k tr.s gr kr, lv, rv, pk] w fun e w' => ∃ gv kv, e = .returned (.tuple #[yJ t.k t.s gv kv, .slice none 0 0, .int .i64 0]) ∧ t.Lies w' gv kv ∧ Below w.heap.size w w' := by
  obtain ⟨ad, ac, rfl⟩ := hb.kids.slice
  obtain ⟨ae, ab, rfl⟩ := hb.gaps.slice
  obtain ⟨af, al, rfl⟩ := hl.kids.slice
  obtain ⟨aj, ah, rfl⟩ := hl.gaps.slice
  obtain ⟨ag, ak, rfl⟩ := hr.kids.slice
  obtain ⟨am, ai, rfl⟩ := hr.gaps.slice
  obtain ⟨pl, cl, rfl⟩ := hlv.slice
  obtain ⟨pr, cr, rfl⟩ := hrv.slice
  obtain ⟨pp, np, cp, rfl⟩ := hpk
  obtain ⟨P0, P1, P2, bq, cq⟩ := D9 w (.cells #[.int .i64 tb.k, .string tb.s, .slice ae tb.g.length ab, .slice ad tb.ks.length ac] 25) (.cells #[.int .i64 tl.k, .string tl.s, .slice aj tl.g.length ah, .slice af tl.ks.length al] 25) (.cells #[.int .i64 tr.k, .string tr.s, .slice am tr.g.length ai, .slice ag tr.ks.length ak] 25)
  obtain ⟨O, bg⟩ : ∃ O, O = (((w.alloc (.cells #[.int .i64 tb.k, .string tb.s, .slice ae tb.g.length ab, .slice ad tb.ks.length ac] 25)).alloc (.cells #[.int .i64 tl.k, .string tl.s, .slice aj tl.g.length ah, .slice af tl.ks.length al] 25)).alloc (.cells #[.int .i64 tr.k, .string tr.s, .slice am tr.g.length ai, .slice ag tr.ks.length ak] 25)).alloc (.cells #[.int .i64 0, .string ⟨#[]⟩, .slice none 0 0, .slice none 0 0] 25) := ⟨_, rfl⟩
  have cy : Below w.heap.size w O := by rw [bg]; exact bq.trans ((ya _).mono (by omega))
  have ct : O.heap.size = w.heap.size + 4 := by rw [bg, ye, cq]
  have P3 : O.heap[w.heap.size + 3]? = some (.cells #[.int .i64 0, .string ⟨#[]⟩, .slice none 0 0, .slice none 0 0] 25 (0, 0)) := by
    rw [bg, ← cq]
    exact zx _ _
  have Q0 := ((ya (w := (((w.alloc (.cells #[.int .i64 tb.k, .string tb.s, .slice ae tb.g.length ab, .slice ad tb.ks.length ac] 25)).alloc (.cells #[.int .i64 tl.k, .string tl.s, .slice aj tl.g.length ah, .slice af tl.ks.length al] 25)).alloc (.cells #[.int .i64 tr.k, .string tr.s, .slice am tr.g.length ai, .slice ag tr.ks.length ak] 25))) (.cells #[.int .i64 0, .string ⟨#[]⟩, .slice none 0 0, .slice none 0 0] 25)).block w.heap.size (by omega)).trans P0
  have Q1 := ((ya (w := (((w.alloc (.cells #[.int .i64 tb.k, .string tb.s, .slice ae tb.g.length ab, .slice ad tb.ks.length ac] 25)).alloc (.cells #[.int .i64 tl.k, .string tl.s, .slice aj tl.g.length ah, .slice af tl.ks.length al] 25)).alloc (.cells #[.int .i64 tr.k, .string tr.s, .slice am tr.g.length ai, .slice ag tr.ks.length ak] 25))) (.cells #[.int .i64 0, .string ⟨#[]⟩, .slice none 0 0, .slice none 0 0] 25)).block (w.heap.size + 1) (by omega)).trans P1
  have Q2 := ((ya (w := (((w.alloc (.cells #[.int .i64 tb.k, .string tb.s, .slice ae tb.g.length ab, .slice ad tb.ks.length ac] 25)).alloc (.cells #[.int .i64 tl.k, .string tl.s, .slice aj tl.g.length ah, .slice af tl.ks.length al] 25)).alloc (.cells #[.int .i64 tr.k, .string tr.s, .slice am tr.g.length ai, .slice ag tr.ks.length ak] 25))) (.cells #[.int .i64 0, .string ⟨#[]⟩, .slice none 0 0, .slice none 0 0] 25)).block (w.heap.size + 2) (by omega)).trans P2
  rw [← bg] at Q0 Q1 Q2
  clear P0 P1 P2 bq cq
  have bu : eW (∀ W, Below O.heap.size O W → W.heap[w.heap.size]? = some (.cells #[.int .i64 tb.k, .string tb.s, .slice ae tb.g.length ab, .slice ad tb.ks.length ac] 25 (0, 0)) ∧ W.heap[w.heap.size + 1]? = some (.cells #[.int .i64 tl.k, .string tl.s, .slice aj tl.g.length ah, .slice af tl.ks.length al] 25 (0, 0)) ∧ W.heap[w.heap.size + 2]? = some (.cells #[.int .i64 tr.k, .string tr.s, .slice am tr.g.length ai, .slice ag tr.ks.length ak] 25 (0, 0)) ∧ W.heap[w.heap.size + 3]? = some (.cells #[.int .i64 0, .string ⟨#[]⟩, .slice none 0 0, .slice none 0 0] 25 (0, 0))) :=
    za fun W h => ⟨(h.block _ (by omega)).trans Q0, (h.block _ (by omega)).trans Q1, (h.block _ (by omega)).trans Q2, (h.block _ (by omega)).trans P3⟩
  have gy := za cy
  have dc := za ct
  have H : eW (∀ W, Below O.heap.size O W → Below w.heap.size w W) := za fun W h => cy.trans (h.mono (by omega))
  have fm : eW (∀ W, Below O.heap.size O W → zM Tryz.prog 18 #[yJ tb.k tb.s (.slice ae tb.g.length ab) (.slice ad tb.ks.length ac), yJ tl.k tl.s (.slice aj tl.g.length ah) (.slice af tl.ks.length al), yJ tr.k tr.s (.slice am tr.g.length ai) (.slice ag tr.ks.length ak)] W fun e w' => e = .returned (.int .i64 0) ∧ Below W.heap.size W w') := za fun W h => by
    have := GN tb tl tr _ _ _ _ _ _ W (T.Lies.below (H.out W h) tb hb) (T.Lies.below (H.out W h) tl hl) (T.Lies.below (H.out W h) tr hr) (hS.below (H.out W h)) ⟨T.fine_bulk tb bb, sb⟩ ⟨T.fine_bulk tl bl, sl⟩ ⟨T.fine_bulk tr br, sr⟩
    rwa [c0] at this
  have fd : eW (∀ W, Below O.heap.size O W → zM Tryz.prog 19 #[yJ tb.k tb.s (.slice ae tb.g.length ab) (.slice ad tb.ks.length ac), yJ tl.k tl.s (.slice aj tl.g.length ah) (.slice af tl.ks.length al), .slice pl l.length cl] W fun e w' => e = .returned (.int .i64 0) ∧ Below W.heap.size W w') := za fun W h => by
    have := BJ tb tl _ _ _ _ _ l W (T.Lies.below (H.out W h) tb hb) (T.Lies.below (H.out W h) tl hl) (hlv.below (H.out W h)) sb sl bb bl nl
    rwa [c1] at this
  have fx : eW (∀ W, Below O.heap.size O W → zM Tryz.prog 19 #[yJ tb.k tb.s (.slice ae tb.g.length ab) (.slice ad tb.ks.length ac), yJ tr.k tr.s (.slice am tr.g.length ai) (.slice ag tr.ks.length ak), .slice pr r.length cr] W fun e w' => e = .returned (.int .i64 0) ∧ Below W.heap.size W w') := za fun W h => by
    have := BJ tb tr _ _ _ _ _ r W (T.Lies.below (H.out W h) tb hb) (T.Lies.below (H.out W h) tr hr) (hrv.below (H.out W h)) sb sr bb br nr
    rwa [c2] at this
  have dk : eW (∀ W, Below O.heap.size O W → zM Tryz.prog 20 #[yJ tb.k tb.s (.slice ae tb.g.length ab) (.slice ad tb.ks.length ac), yJ tl.k tl.s (.slice aj tl.g.length ah) (.slice af tl.ks.length al), yJ tr.k tr.s (.slice am tr.g.length ai) (.slice ag tr.ks.length ak), .slice pl l.length cl, .slice pr r.length cr] W fun e w' => ∃ u1 u2 u3, e = .returned (.tuple #[.agg #[u1, u2, u3, .int .i64 cnt], .int .i64 0]) ∧
      yj w' W.heap.size u1 idB ∧ yj w' W.heap.size u2 idL ∧ yj w' W.heap.size u3 idR ∧ Below W.heap.size W w') := za fun W h =>
    HAS W _ _ _ _ _ _ _ _ (T.Lies.below (H.out W h) tb hb) (T.Lies.below (H.out W h) tl hl) (T.Lies.below (H.out W h) tr hr) (hlv.below (H.out W h)) (hrv.below (H.out W h))
  have fu : eW (∀ (W : ze) (v : zg), Below O.heap.size O W → yo W v idB → zM Tryz.prog 21 #[yJ tb.k tb.s (.slice ae tb.g.length ab) (.slice ad tb.ks.length ac), v] W fun e w' => ∃ M, e = .returned (.map (some M)) ∧ W.heap.size ≤ M ∧ yV w' M tb.size (AG tb idB) ∧ Below W.heap.size W w') := za fun W v h hv =>
    Ho tb _ _ v idB W (T.Lies.below (H.out W h) tb hb) hv sb bb hB.1 hB.2 rb
  have f8 : eW (∀ (W : ze) (v : zg), Below O.heap.size O W → yo W v idL → zM Tryz.prog 21 #[yJ tl.k tl.s (.slice aj tl.g.length ah) (.slice af tl.ks.length al), v] W fun e w' => ∃ M, e = .returned (.map (some M)) ∧ W.heap.size ≤ M ∧ yV w' M tl.size (AG tl idL) ∧ Below W.heap.size W w') := za fun W v h hv =>
    Ho tl _ _ v idL W (T.Lies.below (H.out W h) tl hl) hv sl bl hL.1 hL.2 rl
  have fk : eW (∀ (W : ze) (v : zg), Below O.heap.size O W → yo W v idR → zM Tryz.prog 21 #[yJ tr.k tr.s (.slice am tr.g.length ai) (.slice ag tr.ks.length ak), v] W fun e w' => ∃ M, e = .returned (.map (some M)) ∧ W.heap.size ≤ M ∧ yV w' M tr.size (AG tr idR) ∧ Below W.heap.size W w') := za fun W v h hv =>
    Ho tr _ _ v idR W (T.Lies.below (H.out W h) tr hr) hv sr br hR.1 hR.2 rr
  have ft : eW (∀ W, Below O.heap.size O W → Bh W) := za fun W h => hS.below (H.out W h)
  have dd := za (And.intro sl sr)
  have HF := za hF
  have f5 := za hthin
  have fe := za e1
  have fr := za e2
  clear hb hl hr hS hlv hrv c0 c1 c2 hB hL hR rb rl rr HAS hF hthin cy Q0 Q1 Q2 P3 ct sb sl sr bb bl br nl nr e1 e2
  go_enter Tryz.func8, Tryz.ntmps8
  go_wp2_with fail
  rw [← bg]
  clear bg
  refine (fm.out _ (zt _ _)).mono ?_
  rintro e w2 ⟨rfl, bp⟩
  obtain ⟨A0, A1, A2, A3⟩ := bu.out w2 bp
  obtain ⟨a0, a1, a2, a3⟩ := yi A0
  obtain ⟨d0, d1, d2, d3⟩ := yi A1
  clear A0 A1 A2 A3
  go_wp2_with fail
  refine (fd.out _ bp).mono ?_
  rintro e w3 ⟨rfl, bq⟩
  have ar := bp.trans (bq.mono bp.size)
  clear a0 a1 a2 a3 d0 d1 d2 d3
  obtain ⟨A0, A1, A2, A3⟩ := bu.out w3 ar
  obtain ⟨a0, a1, a2, a3⟩ := yi A0
  obtain ⟨d0, d1, d2, d3⟩ := yi A2
  clear A0 A1 A2 A3
  go_wp2_with fail
  refine (fx.out _ ar).mono ?_
  rintro e w4 ⟨rfl, dy⟩
  have P := ar.trans (dy.mono ar.size)
  clear a0 a1 a2 a3 d0 d1 d2 d3 bp bq ar dy
  obtain ⟨A0, A1, A2, A3⟩ := bu.out w4 P
  obtain ⟨a0, a1, a2, a3⟩ := yi A0
  obtain ⟨d0, d1, d2, d3⟩ := yi A1
  obtain ⟨g0, g1, g2, g3⟩ := yi A2
  clear A0 A1 A2 A3
  have k1 : (tb.k != tl.k) = false := by simpa using fe.out
  have k2 : (tb.k != tr.k) = false := by simpa using fr.out
  go_wp2_with fail
  refine (dk.out _ P).mono ?_
  rintro e w5 ⟨u1, u2, u3, rfl, cu, cw, cz, di⟩
  have U := P.trans (di.mono P.size)
  obtain ⟨p1, q1, rfl⟩ := yq cu
  obtain ⟨p2, q2, rfl⟩ := yq cw
  obtain ⟨p3, q3, rfl⟩ := yq cz
  obtain ⟨w6, bx⟩ : ∃ w6, w6 = w5.alloc (.cells #[.slice p1 idB.length q1, .slice p2 idL.length q2, .slice p3 idR.length q3, .int .i64 cnt] 57) := ⟨_, rfl⟩
  have b0 : Below w5.heap.size w5 w6 := by rw [bx]; exact ya _
  have dt : w6.heap.size = w5.heap.size + 1 := by rw [bx]; simp
  have dl : w6.heap[w5.heap.size]? = some (.cells #[.slice p1 idB.length q1, .slice p2 idL.length q2, .slice p3 idR.length q3, .int .i64 cnt] 57 (0, 0)) := by rw [bx]; exact zx _ _
  have an := U.trans (b0.mono U.size)
  have fp := za (cu.ints.below b0)
  have fg := za (cw.ints.below b0)
  have ga := za (cz.ints.below b0)
  have fo := za dl
  have fq := za dt
  have L := za an
  have g7 : w.heap.size + 4 ≤ w5.heap.size := by have := U.size; have := dc.out; omega
  clear a0 a1 a2 a3 d0 d1 d2 d3 g0 g1 g2 g3 k1 k2 cu cw cz di b0 P U dl dt an
  go_upto_region 15 with fail
  rw [← bx]
  clear bx
  have bd : eW (∀ V, Below w6.heap.size w6 V → V.cell? ⟨w.heap.size, 0, none⟩ = some (.int .i64 tb.k) ∧ V.cell? ⟨w.heap.size, 1, none⟩ = some (.string tb.s) ∧ V.cell? ⟨w.heap.size, 2, none⟩ = some (.slice ae tb.g.length ab) ∧ V.cell? ⟨w.heap.size, 3, none⟩ = some (.slice ad tb.ks.length ac) ∧ V.cell? ⟨w.heap.size + 1, 0, none⟩ = some (.int .i64 tl.k) ∧ V.cell? ⟨w.heap.size + 1, 1, none⟩ = some (.string tl.s) ∧ V.cell? ⟨w.heap.size + 1, 2, none⟩ = some (.slice aj tl.g.length ah) ∧ V.cell? ⟨w.heap.size + 1, 3, none⟩ = some (.slice af tl.ks.length al) ∧ V.cell? ⟨w.heap.size + 2, 0, none⟩ = some (.int .i64 tr.k) ∧ V.cell? ⟨w.heap.size + 2, 1, none⟩ = some (.string tr.s) ∧ V.cell? ⟨w.heap.size + 2, 2, none⟩ = some (.slice am tr.g.length ai) ∧ V.cell? ⟨w.heap.size + 2, 3, none⟩ = some (.slice ag tr.ks.length ak) ∧ V.cell? ⟨w5.heap.size, 0, none⟩ = some (.slice p1 idB.length q1) ∧ V.cell? ⟨w5.heap.size, 1, none⟩ = some (.slice p2 idL.length q2) ∧ V.cell? ⟨w5.heap.size, 2, none⟩ = some (.slice p3 idR.length q3) ∧ V.cell? ⟨w5.heap.size, 3, none⟩ = some (.int .i64 cnt)) := za fun V hV => by
    obtain ⟨A0, A1, A2, A3⟩ := bu.out V (L.out.trans (hV.mono L.out.size))
    obtain ⟨a0, a1, a2, a3⟩ := yi A0
    obtain ⟨d0, d1, d2, d3⟩ := yi A1
    obtain ⟨g0, g1, g2, g3⟩ := yi A2
    obtain ⟨i0, i1, i2, i3⟩ := yi ((hV.block _ (by have := fq.out; omega)).trans fo.out)
    exact ⟨a0, a1, a2, a3, d0, d1, d2, d3, g0, g1, g2, g3, i0, i1, i2, i3⟩
  have bn : Below w6.heap.size w6 w6.drew := (zt _ _).drew
  have f1 := bd.out _ bn
  go_cut [20] (fun s20 W => ∃ (M1 M2 M3 : Nat) (N : ze), s20 = .pointer (some ⟨N.heap.size, 0, none⟩) ∧ Below w6.heap.size w6 N ∧ yV N M1 tb.size (AG tb idB) ∧ yV N M2 tl.size (AG tl idL) ∧ yV N M3 tr.size (AG tr idR) ∧ Below N.heap.size N W ∧ N.heap.size < W.heap.size ∧
      W.heap[N.heap.size]? = some (.cells #[.map (some M1), .map (some M2), .map (some M3), .map none, .map none, .int .i64 cnt, .slice pp np cp, .slice none 0 0, .map none, .map none, .map none] 69 (0, 0)))
  case first =>
    go_region_held3 (fun V => V.cell? ⟨w.heap.size, 0, none⟩ = some (.int .i64 tb.k) ∧ V.cell? ⟨w.heap.size, 1, none⟩ = some (.string tb.s) ∧ V.cell? ⟨w.heap.size, 2, none⟩ = some (.slice ae tb.g.length ab) ∧ V.cell? ⟨w.heap.size, 3, none⟩ = some (.slice ad tb.ks.length ac) ∧ V.cell? ⟨w.heap.size + 1, 0, none⟩ = some (.int .i64 tl.k) ∧ V.cell? ⟨w.heap.size + 1, 1, none⟩ = some (.string tl.s) ∧ V.cell? ⟨w.heap.size + 1, 2, none⟩ = some (.slice aj tl.g.length ah) ∧ V.cell? ⟨w.heap.size + 1, 3, none⟩ = some (.slice af tl.ks.length al) ∧ V.cell? ⟨w.heap.size + 2, 0, none⟩ = some (.int .i64 tr.k) ∧ V.cell? ⟨w.heap.size + 2, 1, none⟩ = some (.string tr.s) ∧ V.cell? ⟨w.heap.size + 2, 2, none⟩ = some (.slice am tr.g.length ai) ∧ V.cell? ⟨w.heap.size + 2, 3, none⟩ = some (.slice ag tr.ks.length ak) ∧ V.cell? ⟨w5.heap.size, 0, none⟩ = some (.slice p1 idB.length q1) ∧ V.cell? ⟨w5.heap.size, 1, none⟩ = some (.slice p2 idL.length q2) ∧ V.cell? ⟨w5.heap.size, 2, none⟩ = some (.slice p3 idR.length q3) ∧ V.cell? ⟨w5.heap.size, 3, none⟩ = some (.int .i64 cnt)) (assumption)
      (first
        | (have q := ge; go_at_call 21; refine (fk.out w8 _ (L.out.trans (b2.mono L.out.size)) (ga.out.below b2)).mono ?_; rintro e N ⟨M3, rfl, g4, bz, c8⟩; have az : Below w6.heap.size w6 N := b2.trans (c8.mono b2.size); have gx := bd.out N az
           have ao := bd.out (N.alloc (.cells #[.map (some M1), .map (some M2), .map (some M3), .map none, .map none, .int .i64 cnt, .slice pp np cp, .slice none 0 0, .map none, .map none, .map none] 69)) (az.trans ((ya _).mono az.size)))
        | (have q := f2; go_at_call 21; refine (f8.out w7 _ (L.out.trans (bo.mono L.out.size)) (fg.out.below bo)).mono ?_; rintro e w8 ⟨M2, rfl, hj, bs, dh⟩; have b2 : Below w6.heap.size w6 w8 := bo.trans (dh.mono bo.size); have ge := bd.out w8 b2)
        | (go_at_call 21; refine (fu.out w6.drew _ (L.out.trans (bn.mono L.out.size)) (fp.out.below bn)).mono ?_; rintro e w7 ⟨M1, rfl, gw, b9, fs⟩; have bo : Below w6.heap.size w6 w7 := bn.trans fs; have f2 := bd.out w7 bo))
    all_goals
      go_wp2_with fail
      go_meet
      exact ⟨M1, M2, M3, N, rfl, az, (b9.below dh).below c8, bs.below c8, bz, ya _, by simp, zx _ _⟩
  case rest =>
    rename ze => w10
    obtain ⟨M1, M2, M3, N, rfl, az, b9, bs, bz, ba, aa, b6⟩ := hcut
    have A : eW (∀ (V : ze) (c3 c4 : zg), V.heap[N.heap.size]? = some (.cells #[.map (some M1), .map (some M2), .map (some M3), c3, c4, .int .i64 cnt, .slice pp np cp, .slice none 0 0, .map none, .map none, .map none] 69 (0, 0)) → V.cell? ⟨N.heap.size, 1, none⟩ = some (.map (some M2)) ∧ V.cell? ⟨N.heap.size, 2, none⟩ = some (.map (some M3))) := za fun V c3 c4 hV => by
      obtain ⟨-, x1, x2, -⟩ := yY hV
      exact ⟨x1, x2⟩
    obtain ⟨m, be⟩ : ∃ m, m = N.heap.size := ⟨_, rfl⟩
    rw [← be] at A b6 aa ba
    have fl := za b9
    have f4 := za bs
    have fv := za bz
    have cv := za az
    have av := za ba
    have b3 := za b6
    have ds := za be
    have bf : Below w10.heap.size w10 w10.drew := (zt _ _).drew
    have bj := za (F6 M2 tl.size (AG tl idL) w10.drew ((bs.below (by rw [← be]; exact ba)).below bf) (by have := dd.out.1; simp only [maxLen]; omega))
    have bt : eW (∀ W, Below m N W → zM Tryz.prog 22 #[.map (some M3)] W fun e w' => e = .returned (.map (some W.heap.size)) ∧ yV w' W.heap.size tr.size (AG tr idR) ∧ Below W.heap.size W w') := za fun W hW => F6 M3 tr.size (AG tr idR) W (bz.below (by rw [← be]; exact hW)) (by have := dd.out.2; simp only [maxLen]; omega)
    have ao := A.out w10.drew _ _ b6
    clear b9 bs bz az ba b6 f1 bn bd
    go_upto_region 16 with fail
    rw [← be]
    clear be
    have au : eW (∀ (d : ze) (s0 s1 : Nat), d.heap[m]? = some (.cells #[.map (some M1), .map (some M2), .map (some M3), .map none, .map none, .int .i64 cnt, .slice pp np cp, .slice none 0 0, .map none, .map none, .map none] 69 (0, 0)) → Below m N d → yV d s0 tl.size (AG tl idL) → yV d s1 tr.size (AG tr idR) →
        ∃ t0 t1 : Nat, ((d.setCell ⟨m, 3, none⟩ (.map (some s0))).setCell ⟨m, 4, none⟩ (.map (some s1))).heap[m]? = some (.cells #[.map (some M1), .map (some M2), .map (some M3), .map (some t0), .map (some t1), .int .i64 cnt, .slice pp np cp, .slice none 0 0, .map none, .map none, .map none] 69 (0, 0)) ∧ Below m N ((d.setCell ⟨m, 3, none⟩ (.map (some s0))).setCell ⟨m, 4, none⟩ (.map (some s1))) ∧ yV ((d.setCell ⟨m, 3, none⟩ (.map (some s0))).setCell ⟨m, 4, none⟩ (.map (some s1))) t0 tl.size (AG tl idL) ∧ yV ((d.setCell ⟨m, 3, none⟩ (.map (some s0))).setCell ⟨m, 4, none⟩ (.map (some s1))) t1 tr.size (AG tr idR)) := za fun d s0 s1 h1 h2 h3 h4 => by
      have hg := yc (yn d m 3 (.map (some s0))) (yn (d.setCell ⟨m, 3, none⟩ (.map (some s0))) m 4 (.map (some s1)))
      have hm : ∀ b n V, yV d b n V → yV ((d.setCell ⟨m, 3, none⟩ (.map (some s0))).setCell ⟨m, 4, none⟩ (.map (some s1))) b n V := fun b n V h => yV.two_maps h h1 rfl rfl
      exact ⟨s0, s1, zA _ _ 4 _ _ _ (zA d m 3 _ _ _ h1), yd h2 hg (fun k e => by cases e; exact zn _) (zac (yz h1)), hm _ _ _ h3, hm _ _ _ h4⟩
    go_cut [20] (fun s20 W => s20 = .pointer (some ⟨m, 0, none⟩) ∧ ∃ s0 s1 : Nat, W.heap[m]? = some (.cells #[.map (some M1), .map (some M2), .map (some M3), .map (some s0), .map (some s1), .int .i64 cnt, .slice pp np cp, .slice none 0 0, .map none, .map none, .map none] 69 (0, 0)) ∧ Below m N W ∧ yV W s0 tl.size (AG tl idL) ∧ yV W s1 tr.size (AG tr idR))
    case first =>
     refine Cut.wp_region_cut_reads 15 5 (fun V => V.cell? ⟨m, 1, none⟩ = some (.map (some M2)) ∧ V.cell? ⟨m, 2, none⟩ = some (.map (some M3))) (by kernel_rfl) (by kernel_rfl) (fun _ _ _ _ _ h => h) ao (fun hHeld => ?_)
     simp only [zag, zak, zaM, zem]
     iterate 5
       refine ⟨?_, .inl ⟨by rfl, ?_⟩, ?_⟩
       rotate_left
       · intro V dg; (try dsimp only at dg); obtain ⟨a1, a2⟩ := dg; go_simp; (try with_reducible rfl)
       (try simp only [z8, zf, zi, zj])
     clear hHeld
     refine zG (rs := [5, 6]) (by kernel_rfl) (by simp) ?_
     refine zv rfl (fun K hK => ?_) (zv rfl (fun K hK => ?_) zC)
     · skip
       go_simp
       refine bj.out.mono ?_
       rintro e B ⟨rfl, C, F⟩
       have f := bf.trans F
       have D : Below m N B := av.out.trans (f.mono (by omega))
       have o := za ((f.block m aa).trans b3.out)
       have z := yz o.out
       have I := zac z
       have y := A.out B _ _ o.out
       have Q := za C
       clear C F f
       refine hK.out _ _ y (fun _ => ?_)
       clear hK K
       (try simp only [z8, zf, zi, zj])
       refine zG (rs := [6]) (by kernel_rfl) (by simp) ?_
       refine zv rfl (fun K hK => ?_) zC
       go_simp
       refine hK.out _ _ y (fun _ => ?_)
       clear hK K
       (try simp only [z8, zf, zi, zj])
       refine zG (rs := [7]) (by kernel_rfl) (by simp) ?_
       refine zv rfl (fun K hK => ?_) zC
       go_simp
       refine hK.out _ _ y (fun _ => ?_)
       clear hK K
       (try simp only [z8, zf, zi, zj])
       refine zG (rs := [8]) (by kernel_rfl) (by simp) ?_
       refine zv rfl (fun K hK => ?_) zC
       go_simp
       refine hK.out _ _ y (fun _ => ?_)
       clear hK K
       (try simp only [z8, zf, zi, zj])
       refine zG (rs := [9]) (by kernel_rfl) (by simp) ?_
       refine zv rfl (fun K hK => ?_) zC
       go_simp
       refine hK.out _ _ y (fun _ => ?_)
       clear hK K
       (try simp only [z8, zf, zi, zj])
       refine zG (rs := [10]) (by kernel_rfl) (by simp) ?_
       refine zv rfl (fun K hK => ?_) zC
       go_simp
       refine (bt.out B D).mono ?_
       rintro e d ⟨rfl, E, i⟩
       have G : Below m N d := D.trans (i.mono I)
       have a := (i.block m z).trans o.out
       have j := A.out d _ _ a
       obtain ⟨-, -, -, y3, y4, -⟩ := yY a
       have q3 := zk d m 3 _ _ a
       have q4 := zk d m 4 _ _ a
       have Z := A.out ((d.setCell ⟨m, 3, none⟩ (.map (some w10.drew.heap.size))).setCell ⟨m, 4, none⟩ (.map (some B.heap.size))) _ _ (zA _ _ 4 _ _ _ (zA d m 3 _ _ _ a))
       have X := za a
       have Y := za G
       have R := za E
       have J := za (Q.out.below i)
       clear a G E i
       refine hK.out _ _ j (fun _ => ?_)
       clear hK K
       (try simp only [z8, zf, zi, zj])
       refine zG (rs := [11]) (by kernel_rfl) (by simp) ?_
       refine zv rfl (fun K hK => ?_) zC
       go_simp
       refine hK.out _ _ j (fun _ => ?_)
       clear hK K
       (try simp only [z8, zf, zi, zj])
       refine zG (rs := [12]) (by kernel_rfl) (by simp) ?_
       refine zv rfl (fun K hK => ?_) zC
       go_simp
       refine hK.out _ _ j (fun _ => ?_)
       clear hK K
       (try simp only [z8, zf, zi, zj])
       refine zG (rs := [13]) (by kernel_rfl) (by simp) ?_
       refine zv rfl (fun K hK => ?_) zC
       go_simp
       refine hK.out _ _ j (fun _ => ?_)
       clear hK K
       (try simp only [z8, zf, zi, zj])
       refine zG (rs := [14]) (by kernel_rfl) (by simp) ?_
       refine zv rfl (fun K hK => ?_) zC
       go_simp
       refine hK.out _ _ Z (fun _ => ?_)
       clear hK K
       (try simp only [z8, zf, zi, zj])
       refine lF (by kernel_rfl) ?_ _
       dsimp only [ef]
       (try simp only [z8, zf, zi, zj])
       go_wp2_with fail
       go_meet
       exact ⟨rfl, au.out d _ _ X.out Y.out J.out R.out⟩
     · skip
       go_simp
       refine hK.out _ _ ao (fun _ => ?_)
       clear hK K
       (try simp only [z8, zf, zi, zj])
       refine zG (rs := [5, 7]) (by kernel_rfl) (by simp) ?_
       refine zv rfl (fun K hK => ?_) (zv rfl (fun K hK => ?_) zC)
       · skip
         go_simp
         refine bj.out.mono ?_
         rintro e B ⟨rfl, C, F⟩
         have f := bf.trans F
         have D : Below m N B := av.out.trans (f.mono (by omega))
         have o := za ((f.block m aa).trans b3.out)
         have z := yz o.out
         have I := zac z
         have y := A.out B _ _ o.out
         have Q := za C
         clear C F f
         refine hK.out _ _ y (fun _ => ?_)
         clear hK K
         (try simp only [z8, zf, zi, zj])
         refine zG (rs := [7]) (by kernel_rfl) (by simp) ?_
         refine zv rfl (fun K hK => ?_) zC
         go_simp
         refine hK.out _ _ y (fun _ => ?_)
         clear hK K
         (try simp only [z8, zf, zi, zj])
         refine zG (rs := [8]) (by kernel_rfl) (by simp) ?_
         refine zv rfl (fun K hK => ?_) zC
         go_simp
         refine hK.out _ _ y (fun _ => ?_)
         clear hK K
         (try simp only [z8, zf, zi, zj])
         refine zG (rs := [9]) (by kernel_rfl) (by simp) ?_
         refine zv rfl (fun K hK => ?_) zC
         go_simp
         refine hK.out _ _ y (fun _ => ?_)
         clear hK K
         (try simp only [z8, zf, zi, zj])
         refine zG (rs := [10]) (by kernel_rfl) (by simp) ?_
         refine zv rfl (fun K hK => ?_) zC
         go_simp
         refine (bt.out B D).mono ?_
         rintro e d ⟨rfl, E, i⟩
         have G : Below m N d := D.trans (i.mono I)
         have a := (i.block m z).trans o.out
         have j := A.out d _ _ a
         obtain ⟨-, -, -, y3, y4, -⟩ := yY a
         have q3 := zk d m 3 _ _ a
         have q4 := zk d m 4 _ _ a
         have Z := A.out ((d.setCell ⟨m, 3, none⟩ (.map (some w10.drew.heap.size))).setCell ⟨m, 4, none⟩ (.map (some B.heap.size))) _ _ (zA _ _ 4 _ _ _ (zA d m 3 _ _ _ a))
         have X := za a
         have Y := za G
         have R := za E
         have J := za (Q.out.below i)
         clear a G E i
         refine hK.out _ _ j (fun _ => ?_)
         clear hK K
         (try simp only [z8, zf, zi, zj])
         refine zG (rs := [11]) (by kernel_rfl) (by simp) ?_
         refine zv rfl (fun K hK => ?_) zC
         go_simp
         refine hK.out _ _ j (fun _ => ?_)
         clear hK K
         (try simp only [z8, zf, zi, zj])
         refine zG (rs := [12]) (by kernel_rfl) (by simp) ?_
         refine zv rfl (fun K hK => ?_) zC
         go_simp
         refine hK.out _ _ j (fun _ => ?_)
         clear hK K
         (try simp only [z8, zf, zi, zj])
         refine zG (rs := [13]) (by kernel_rfl) (by simp) ?_
         refine zv rfl (fun K hK => ?_) zC
         go_simp
         refine hK.out _ _ j (fun _ => ?_)
         clear hK K
         (try simp only [z8, zf, zi, zj])
         refine zG (rs := [14]) (by kernel_rfl) (by simp) ?_
         refine zv rfl (fun K hK => ?_) zC
         go_simp
         refine hK.out _ _ Z (fun _ => ?_)
         clear hK K
         (try simp only [z8, zf, zi, zj])
         refine lF (by kernel_rfl) ?_ _
         dsimp only [ef]
         (try simp only [z8, zf, zi, zj])
         go_wp2_with fail
         go_meet
         exact ⟨rfl, au.out d _ _ X.out Y.out J.out R.out⟩
       · skip
         go_simp
         refine hK.out _ _ ao (fun _ => ?_)
         clear hK K
         (try simp only [z8, zf, zi, zj])
         refine zG (rs := [5, 8]) (by kernel_rfl) (by simp) ?_
         refine zv rfl (fun K hK => ?_) (zv rfl (fun K hK => ?_) zC)
         · skip
           go_simp
           refine bj.out.mono ?_
           rintro e B ⟨rfl, C, F⟩
           have f := bf.trans F
           have D : Below m N B := av.out.trans (f.mono (by omega))
           have o := za ((f.block m aa).trans b3.out)
           have z := yz o.out
           have I := zac z
           have y := A.out B _ _ o.out
           have Q := za C
           clear C F f
           refine hK.out _ _ y (fun _ => ?_)
           clear hK K
           (try simp only [z8, zf, zi, zj])
           refine zG (rs := [8]) (by kernel_rfl) (by simp) ?_
           refine zv rfl (fun K hK => ?_) zC
           go_simp
           refine hK.out _ _ y (fun _ => ?_)
           clear hK K
           (try simp only [z8, zf, zi, zj])
           refine zG (rs := [9]) (by kernel_rfl) (by simp) ?_
           refine zv rfl (fun K hK => ?_) zC
           go_simp
           refine hK.out _ _ y (fun _ => ?_)
           clear hK K
           (try simp only [z8, zf, zi, zj])
           refine zG (rs := [10]) (by kernel_rfl) (by simp) ?_
           refine zv rfl (fun K hK => ?_) zC
           go_simp
           refine (bt.out B D).mono ?_
           rintro e d ⟨rfl, E, i⟩
           have G : Below m N d := D.trans (i.mono I)
           have a := (i.block m z).trans o.out
           have j := A.out d _ _ a
           obtain ⟨-, -, -, y3, y4, -⟩ := yY a
           have q3 := zk d m 3 _ _ a
           have q4 := zk d m 4 _ _ a
           have Z := A.out ((d.setCell ⟨m, 3, none⟩ (.map (some w10.drew.heap.size))).setCell ⟨m, 4, none⟩ (.map (some B.heap.size))) _ _ (zA _ _ 4 _ _ _ (zA d m 3 _ _ _ a))
           have X := za a
           have Y := za G
           have R := za E
           have J := za (Q.out.below i)
           clear a G E i
           refine hK.out _ _ j (fun _ => ?_)
           clear hK K
           (try simp only [z8, zf, zi, zj])
           refine zG (rs := [11]) (by kernel_rfl) (by simp) ?_
           refine zv rfl (fun K hK => ?_) zC
           go_simp
           refine hK.out _ _ j (fun _ => ?_)
           clear hK K
           (try simp only [z8, zf, zi, zj])
           refine zG (rs := [12]) (by kernel_rfl) (by simp) ?_
           refine zv rfl (fun K hK => ?_) zC
           go_simp
           refine hK.out _ _ j (fun _ => ?_)
           clear hK K
           (try simp only [z8, zf, zi, zj])
           refine zG (rs := [13]) (by kernel_rfl) (by simp) ?_
           refine zv rfl (fun K hK => ?_) zC
           go_simp
           refine hK.out _ _ j (fun _ => ?_)
           clear hK K
           (try simp only [z8, zf, zi, zj])
           refine zG (rs := [14]) (by kernel_rfl) (by simp) ?_
           refine zv rfl (fun K hK => ?_) zC
           go_simp
           refine hK.out _ _ Z (fun _ => ?_)
           clear hK K
           (try simp only [z8, zf, zi, zj])
           refine lF (by kernel_rfl) ?_ _
           dsimp only [ef]
           (try simp only [z8, zf, zi, zj])
           go_wp2_with fail
           go_meet
           exact ⟨rfl, au.out d _ _ X.out Y.out J.out R.out⟩
         · skip
           go_simp
           refine hK.out _ _ ao (fun _ => ?_)
           clear hK K
           (try simp only [z8, zf, zi, zj])
           refine zG (rs := [5, 9]) (by kernel_rfl) (by simp) ?_
           refine zv rfl (fun K hK => ?_) (zv rfl (fun K hK => ?_) zC)
           · skip
             go_simp
             refine bj.out.mono ?_
             rintro e B ⟨rfl, C, F⟩
             have f := bf.trans F
             have D : Below m N B := av.out.trans (f.mono (by omega))
             have o := za ((f.block m aa).trans b3.out)
             have z := yz o.out
             have I := zac z
             have y := A.out B _ _ o.out
             have Q := za C
             clear C F f
             refine hK.out _ _ y (fun _ => ?_)
             clear hK K
             (try simp only [z8, zf, zi, zj])
             refine zG (rs := [9]) (by kernel_rfl) (by simp) ?_
             refine zv rfl (fun K hK => ?_) zC
             go_simp
             refine hK.out _ _ y (fun _ => ?_)
             clear hK K
             (try simp only [z8, zf, zi, zj])
             refine zG (rs := [10]) (by kernel_rfl) (by simp) ?_
             refine zv rfl (fun K hK => ?_) zC
             go_simp
             refine (bt.out B D).mono ?_
             rintro e d ⟨rfl, E, i⟩
             have G : Below m N d := D.trans (i.mono I)
             have a := (i.block m z).trans o.out
             have j := A.out d _ _ a
             obtain ⟨-, -, -, y3, y4, -⟩ := yY a
             have q3 := zk d m 3 _ _ a
             have q4 := zk d m 4 _ _ a
             have Z := A.out ((d.setCell ⟨m, 3, none⟩ (.map (some w10.drew.heap.size))).setCell ⟨m, 4, none⟩ (.map (some B.heap.size))) _ _ (zA _ _ 4 _ _ _ (zA d m 3 _ _ _ a))
             have X := za a
             have Y := za G
             have R := za E
             have J := za (Q.out.below i)
             clear a G E i
             refine hK.out _ _ j (fun _ => ?_)
             clear hK K
             (try simp only [z8, zf, zi, zj])
             refine zG (rs := [11]) (by kernel_rfl) (by simp) ?_
             refine zv rfl (fun K hK => ?_) zC
             go_simp
             refine hK.out _ _ j (fun _ => ?_)
             clear hK K
             (try simp only [z8, zf, zi, zj])
             refine zG (rs := [12]) (by kernel_rfl) (by simp) ?_
             refine zv rfl (fun K hK => ?_) zC
             go_simp
             refine hK.out _ _ j (fun _ => ?_)
             clear hK K
             (try simp only [z8, zf, zi, zj])
             refine zG (rs := [13]) (by kernel_rfl) (by simp) ?_
             refine zv rfl (fun K hK => ?_) zC
             go_simp
             refine hK.out _ _ j (fun _ => ?_)
             clear hK K
             (try simp only [z8, zf, zi, zj])
             refine zG (rs := [14]) (by kernel_rfl) (by simp) ?_
             refine zv rfl (fun K hK => ?_) zC
             go_simp
             refine hK.out _ _ Z (fun _ => ?_)
             clear hK K
             (try simp only [z8, zf, zi, zj])
             refine lF (by kernel_rfl) ?_ _
             dsimp only [ef]
             (try simp only [z8, zf, zi, zj])
             go_wp2_with fail
             go_meet
             exact ⟨rfl, au.out d _ _ X.out Y.out J.out R.out⟩
           · skip
             go_simp
             refine hK.out _ _ ao (fun _ => ?_)
             clear hK K
             (try simp only [z8, zf, zi, zj])
             refine zG (rs := [5]) (by kernel_rfl) (by simp) ?_
             refine zv rfl (fun K hK => ?_) zC
             go_simp
             refine bj.out.mono ?_
             rintro e B ⟨rfl, C, F⟩
             have f := bf.trans F
             have D : Below m N B := av.out.trans (f.mono (by omega))
             have o := za ((f.block m aa).trans b3.out)
             have z := yz o.out
             have I := zac z
             have y := A.out B _ _ o.out
             have Q := za C
             clear C F f
             refine hK.out _ _ y (fun _ => ?_)
             clear hK K
             (try simp only [z8, zf, zi, zj])
             refine zG (rs := [10]) (by kernel_rfl) (by simp) ?_
             refine zv rfl (fun K hK => ?_) zC
             go_simp
             refine (bt.out B D).mono ?_
             rintro e d ⟨rfl, E, i⟩
             have G : Below m N d := D.trans (i.mono I)
             have a := (i.block m z).trans o.out
             have j := A.out d _ _ a
             obtain ⟨-, -, -, y3, y4, -⟩ := yY a
             have q3 := zk d m 3 _ _ a
             have q4 := zk d m 4 _ _ a
             have Z := A.out ((d.setCell ⟨m, 3, none⟩ (.map (some w10.drew.heap.size))).setCell ⟨m, 4, none⟩ (.map (some B.heap.size))) _ _ (zA _ _ 4 _ _ _ (zA d m 3 _ _ _ a))
             have X := za a
             have Y := za G
             have R := za E
             have J := za (Q.out.below i)
             clear a G E i
             refine hK.out _ _ j (fun _ => ?_)
             clear hK K
             (try simp only [z8, zf, zi, zj])
             refine zG (rs := [11]) (by kernel_rfl) (by simp) ?_
             refine zv rfl (fun K hK => ?_) zC
             go_simp
             refine hK.out _ _ j (fun _ => ?_)
             clear hK K
             (try simp only [z8, zf, zi, zj])
             refine zG (rs := [12]) (by kernel_rfl) (by simp) ?_
             refine zv rfl (fun K hK => ?_) zC
             go_simp
             refine hK.out _ _ j (fun _ => ?_)
             clear hK K
             (try simp only [z8, zf, zi, zj])
             refine zG (rs := [13]) (by kernel_rfl) (by simp) ?_
             refine zv rfl (fun K hK => ?_) zC
             go_simp
             refine hK.out _ _ j (fun _ => ?_)
             clear hK K
             (try simp only [z8, zf, zi, zj])
             refine zG (rs := [14]) (by kernel_rfl) (by simp) ?_
             refine zv rfl (fun K hK => ?_) zC
             go_simp
             refine hK.out _ _ Z (fun _ => ?_)
             clear hK K
             (try simp only [z8, zf, zi, zj])
             refine lF (by kernel_rfl) ?_ _
             dsimp only [ef]
             (try simp only [z8, zf, zi, zj])
             go_wp2_with fail
             go_meet
             exact ⟨rfl, au.out d _ _ X.out Y.out J.out R.out⟩
    case rest =>
     obtain ⟨rfl, s0, s1, cb, bw, ca, ce⟩ := hcut
     have e9 := ds.out
     have HR := za (TK HPr m M1 M2 M3 s0 s1 tb.size tl.size tr.size tl.size tr.size cnt _ _ _ S t (.slice pp np cp) wc N cb (by rw [← e9]; exact bw) (by omega) fl.out f4.out fv.out ca ce (ft.out N (L.out.trans (cv.out.mono L.out.size))) HF.out)
     clear e9
     go_wp2_with fail
     refine HR.out.mono ?_
     rintro e bi ⟨gv, kv, kb, g6, pb, rfl, a8, b1, cg⟩
     obtain ⟨dv, dr, rfl⟩ := a8.gaps.slice
     obtain ⟨dq, dx, rfl⟩ := a8.kids.slice
     have gp := cv.out.size
     have dm := L.out.size
     have e9 := ds.out
     have ci : Below O.heap.size O N := L.out.trans (cv.out.mono dm)
     have bm : Below O.heap.size O wc := ci.trans (bw.mono (by omega))
     have P : Below O.heap.size O bi := yd bm cg (fun k e => by cases e; omega) bm.size
     obtain ⟨bh, a6⟩ : ∃ bh, bh = bi.alloc (.cells #[.int .i64 t.k, .string t.s, .slice dv t.g.length dr, .slice dq t.ks.length dx] 25) := ⟨_, rfl⟩
     have U : Below bi.heap.size bi bh := by rw [a6]; exact ya _
     have cf : bh.heap[bi.heap.size]? = some (.cells #[.int .i64 t.k, .string t.s, .slice dv t.g.length dr, .slice dq t.ks.length dx] 25 (0, 0)) := by rw [a6]; exact zx _ _
     have ch := (U.block m (yz b1)).trans b1
     obtain ⟨-, -, -, -, -, -, -, m7, -, -, -⟩ := yY ch
     obtain ⟨t0, t1, t2, t3⟩ := yi cf
     have ax : Below O.heap.size O bh := P.trans (U.mono P.size)
     have fy := za (My t _ _ bh (T.Lies.below U t a8) HF.out.size f5.out)
     have c9 := za ax
     have fw := ax.size
     clear cb bw ca ce a8 b1 cg ci bm P U cf ch ax HR e9
     go_upto_region 21 with fail
     rw [← a6]
     clear a6
     go_wp2_with fail
     refine fy.out.mono ?_
     rintro e aq ⟨gv, kv, rfl, ck, an⟩
     have bk := ck.lies (zn _)
     obtain ⟨de, dn, rfl⟩ := bk.gaps.slice
     obtain ⟨dp, dw, rfl⟩ := bk.kids.slice
     have a4 : Below O.heap.size O aq := c9.out.trans (an.mono fw)
     obtain ⟨-, -, -, A3⟩ := bu.out aq a4
     obtain ⟨z0, z1, z2, z3⟩ := yi A3
     have q0 := zk aq (w.heap.size + 3) 0 _ _ A3
     have q1 := zk aq (w.heap.size + 3) 1 _ _ A3
     have q2 := zk aq (w.heap.size + 3) 2 _ _ A3
     have q3 := zk aq (w.heap.size + 3) 3 _ _ A3
     have dz := za A3
     have gd := za ck
     have fz := za an
     have c7 := za a4
     clear A3 ck an a4 bk
     go_wp2
     rw [show w.heap.size + 1 + 1 + 1 = w.heap.size + 3 from rfl]
     have cm := AT aq (w.heap.size + 3) (.int .i64 t.k) (.string t.s) (.slice de t.g.length dn) (.slice dp t.ks.length dw)
     have f3 := AO aq (w.heap.size + 3) 25 _ _ _ _ (.int .i64 t.k) (.string t.s) (.slice de t.g.length dn) (.slice dp t.ks.length dw) dz.out
     have ct := dc.out
     have dj := H.out aq c7.out
     refine eG (AI rfl _ _ (w.heap.size + 3) _ _ _ rfl f3 BZ) rfl ⟨_, _, rfl, ?_, ?_⟩
     · exact (gd.out.keep (fun k h1 h2 => cm.block k h2 (by simp; omega))).lies cm.size
     · exact yd dj cm (fun k e => by cases e; omega) dj.size
end Go.Proofs
