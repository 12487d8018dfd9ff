/-
  Part of the proof: Copies of lists; the first number that a function value picks.
-/
import Derived.Test.YtpdlpdkehminlaaGreatDoorWC
set_option linter.all false
set_option maxRecDepth 100000
set_option maxHeartbeats 20000000
open Bool renaming eq_false_or_eq_true->zN
open Go renaming Addr->oh,Calls->zM,Value->zg,World->ze,info_parts->iY,wpList_append_own->ew
open Go.Instr renaming field->zcd,lookup->ec
open Go.Lib renaming hid->za
open Go.MapKept renaming heap_alloc->eN
open Go.RowKit renaming Hid->eW
open Go.RowKit.Below renaming refl->zt
open Go.Value renaming bool->zd4,int->zX,oneCell'->ej,ownBlock->eP,string->im
open Go.Value.bool renaming injEq->zew
open Go.World renaming cell?->zS,ownsRow_lit->zcI,ownsRow_nil->ed
open Go.World.ownsRow renaming cellAt->ep,drew->zc1,form->om,frozenAt->iN,kept->zF,stored->ii
open Int renaming toNat_natCast->zbu
open List renaming append_nil->iW,eq_nil_of_length_eq_zero->lm,filter_append->oO,filter_eq_self->zcy,foldl_append->zc0,foldl_cons->zbL,getD->zbn,getElem?_eq_getElem->zc,getElem?_eq_none->oC,getElem?_eq_some_iff->zm,getElem?_map->ig,getElem?_set_ne->zcm,length_append->zT,length_cons->lN,length_filter_le->eL,length_set->zdn,length_take->iR,mem_append->eZ,mem_filter->ie,mem_mergeSort->zcJ,mem_of_getElem?->zq,nodup_append->za4,range->ev,replicate->ia,take_add_one->z6,take_length->zY,take_set_of_le->zcx,take_take->zbG
open Nat renaming eq_zero_or_pos->zcY,le_refl->zn,le_trans->zI,lt_of_lt_of_le->ez,min_eq_left->zdB,mul_one->zdq,zero_add->eV
open Option renaming toList_some->zaQ
open Option.some renaming inj->eF,injEq->zb
namespace Go.Proofs
open Go.RowKit
open Classical
theorem Nv(w:ze)(e:TypeId)(sz base:Nat)(hb:base<=w.heap.size):(w.alloc (.cells #[] e)).ownsRow base e sz (.slice (some ⟨w.heap.size,0,none⟩) 0 0) 0 []:=zcI w #[] 0 hb (by simp[maxLen]) (by simp)
theorem EG{w:ze}{b off:Nat}{l:List Int}(h:∀i(x:Int),l[i]?=some x->w.cell? ⟨b,off+i,none⟩=some (.int .i64 x)):∀j u,(l.map (zX .i64))[j]?=some u->w.cell? ((⟨b,off,none⟩:oh).add j)=some u:=by
 intro j u a;obtain⟨x,c,rfl⟩:∃x,l[j]?=some x/\zX .i64 x=u:=by simpa using a
 have e:(⟨b,off,none⟩:oh).add j=⟨b,off+j,none⟩:=by
  unfold Addr.add;split
  .subst_vars;rfl
  .rfl
 rw[e];exact h j x c
theorem SL{w:ze}{b off:Nat}{l:List ByteArray}(h:∀i(x:ByteArray),l[i]?=some x->w.cell? ⟨b,off+i,none⟩=some (.string x)):∀j u,(l.map im)[j]?=some u->w.cell? ((⟨b,off,none⟩:oh).add j)=some u:=by
 intro j u a;obtain⟨x,c,rfl⟩:∃x,l[j]?=some x/\im x=u:=by simpa using a
 have e:(⟨b,off,none⟩:oh).add j=⟨b,off+j,none⟩:=by
  unfold Addr.add;split
  .subst_vars;rfl
  .rfl
 rw[e];exact h j x c
def Cd(w:ze)(base:Nat)(v:zg)(l:List ByteArray):Prop:=w.ownsRow base 9 1 v l.length (l.map im)
theorem yj.ints{w:ze}{base:Nat}{v:zg}{l:List Int}(h:yj w base v l):yo w v l:=by
 rcases zcY l.length with h0|h0
 .obtain rfl:=lm h0;obtain⟨a,c,rfl⟩:=yq h;exact .inl ⟨⟨a,c,rfl⟩,rfl⟩
 .have m:=h;obtain⟨g,b,rfl,_,d⟩:=om m h0;refine .inr ⟨g,0,b,rfl,?_,d,λi x hx=>?_⟩
  .rcases h.2 with⟨e,_⟩|⟨o,f,j,e,_,_,k,_⟩
   .cases e
   .cases e;exact k
  .have n:=(zm.1 hx).1;rw[eV,ep h i (by omega),ig,hx];rfl
theorem Cd.lines{w:ze}{base:Nat}{v:zg}{l:List ByteArray}(h:Cd w base v l):yI w v l:=by
 rcases zcY l.length with h0|h0
 .obtain rfl:=lm h0;obtain⟨a,c,rfl⟩:=yq h;exact .inl ⟨⟨a,c,rfl⟩,rfl⟩
 .have m:=h;obtain⟨g,b,rfl,_,d⟩:=om m h0;refine .inr ⟨g,0,b,rfl,?_,d,λi x hx=>?_⟩
  .rcases h.2 with⟨e,_⟩|⟨o,f,j,e,_,_,k,_⟩
   .cases e
   .cases e;exact k
  .have n:=(zm.1 hx).1;rw[eV,ep h i (by omega),ig,hx];rfl
theorem M7(v:zg)(l:List Int)(w:ze)(hv:yo w v l)(hn:l.length<=1000000):zM Tryz.prog 101 #[v] w λe w'=>∃u,e=.returned u/\yj w' w.heap.size u l/\Below w.heap.size w w':=by
 obtain⟨A,C,y,s,t⟩:=iY Br;have m:∀(a:oh)(c:Nat),(∀j u,(l.map (zX .i64))[j]?=some u->(w.alloc (.cells #[] 3)).cell? (a.add j)=some u)->zM Tryz.prog 101 #[.slice (some a) l.length c] w λe w'=>∃u,e=.returned u/\yj w' w.heap.size u l/\Below w.heap.size w w':=by
  intro a c n;have D:=za n;clear n hv;have B:∀w,(binOp .eql 55 (.slice (some a) l.length c) (.slice none 0 0)).run Tryz.prog w=.ok (.bool false) w:=λw=>by kernel_rfl
  go_enter Tryz.func101,Tryz.ntmps101;go_wp2_with (at_builtin;refine ew _ rfl _ _ 55 rfl w.heap.size 3 A (.int .i64 0) 1 8 Tryz.underlying55 C y s t rfl (by decide) _ 0 [] rfl (Nv w _ _ _ (zn _)) a l.length c (l.map (zX .i64)) rfl (by simp) D.out (by simp[ej]) (by simp[maxLen];omega) (by omega) (by simp) ?_;intro G F f d q);go_ret;refine⟨_,rfl,?_,?_⟩
  .unfold yj;simpa using f
  .exact yd (ya _) d (λk e=>by cases e;exact zn _) (by simp)
 rcases hv with⟨⟨p,c,rfl⟩,rfl⟩|⟨b,g,r,rfl,z,o,E⟩
 .cases p with
  |none=>
   have B:∀w,(binOp .eql 55 (.slice none 0 c) (.slice none 0 0)).run Tryz.prog w=.ok (.bool true) w:=λw=>by kernel_rfl
   go_enter Tryz.func101,Tryz.ntmps101;go_wp2;go_ret;exact⟨_,rfl,ed _ _ _ _,zt _ _⟩
  |some a=>exact m a c (λj u h=>by simp at h)
 .exact m ⟨b,g,none⟩ r (EG λi x hx=>((ya _).cell (p:=⟨b,g+i,none⟩) o).trans (E i x hx))
theorem Di(v:zg)(l:List ByteArray)(w:ze)(hv:yI w v l)(hn:l.length<=1000000):zM Tryz.prog 52 #[v] w λe w'=>∃u,e=.returned u/\Cd w' w.heap.size u l/\Below w.heap.size w w':=by
 obtain⟨A,C,y,s,t⟩:=iY Ma;have m:∀(a:oh)(c:Nat),(∀j u,(l.map (im))[j]?=some u->(w.alloc (.cells #[] 9)).cell? (a.add j)=some u)->zM Tryz.prog 52 #[.slice (some a) l.length c] w λe w'=>∃u,e=.returned u/\Cd w' w.heap.size u l/\Below w.heap.size w w':=by
  intro a c n;have D:=za n;clear n hv;have B:∀w,(binOp .eql 22 (.slice (some a) l.length c) (.slice none 0 0)).run Tryz.prog w=.ok (.bool false) w:=λw=>by kernel_rfl
  go_enter Tryz.func52,Tryz.ntmps52;go_wp2_with (at_builtin;refine ew _ rfl _ _ 22 rfl w.heap.size 9 A (.string .empty) 1 16 Tryz.underlying22 C y s t rfl (by decide) _ 0 [] rfl (Nv w _ _ _ (zn _)) a l.length c (l.map (im)) rfl (by simp) D.out (by simp[ej]) (by simp[maxLen];omega) (by omega) (by simp) ?_;intro G F f d q);go_ret;refine⟨_,rfl,?_,?_⟩
  .unfold Cd;simpa using f
  .exact yd (ya _) d (λk e=>by cases e;exact zn _) (by simp)
 rcases hv with⟨⟨p,c,rfl⟩,rfl⟩|⟨b,g,r,rfl,z,o,E⟩
 .cases p with
  |none=>
   have B:∀w,(binOp .eql 22 (.slice none 0 c) (.slice none 0 0)).run Tryz.prog w=.ok (.bool true) w:=λw=>by kernel_rfl
   go_enter Tryz.func52,Tryz.ntmps52;go_wp2;go_ret;exact⟨_,rfl,ed _ _ _ _,zt _ _⟩
  |some a=>exact m a c (λj u h=>by simp at h)
 .exact m ⟨b,g,none⟩ r (SL λi x hx=>((ya _).cell (p:=⟨b,g+i,none⟩) o).trans (E i x hx))
open Go.RowKit Go.Maps Go.MapKept
structure Dl where
 k:Int
 s:ByteArray
 g:List ByteArray
 parent:Int
 kids:List Int
abbrev Ver:=Int->Option Dl
@[reducible]def Dh (y:Dl) (gp:Option oh) (gc:Nat) (kp:Option oh) (kc:Nat):zg:=.agg #[.int .i64 y.k,.string y.s,.slice gp y.g.length gc,.int .i64 y.parent,.slice kp y.kids.length kc]
def GC(w:ze)(v:zg)(y:Dl):Prop:=∃gp gc kp kc,v=Dh y gp gc kp kc/\yI w (.slice gp y.g.length gc) y.g/\yo w (.slice kp y.kids.length kc) y.kids
theorem GC.below{w w':ze}{v:zg}{y:Dl}(h:GC w v y)(hb:Below w.heap.size w w'):GC w' v y:=by obtain⟨f,b,g,d,e,a,c⟩:=h;exact⟨f,b,g,d,e,a.below hb,c.below hb⟩
def yV(w:ze)(b n:Nat)(V:Ver):Prop:=∃F:Int->Option zg,Ae w b n F/\∀i,(V i=none/\F i=none)\/∃y v,V i=some y/\F i=some v/\GC w v y
theorem yV.lt{w:ze}{b n:Nat}{V:Ver}(h:yV w b n V):b<w.heap.size:=by obtain⟨F,h,_⟩:=h;exact h.lt
theorem yV.below{w w':ze}{b n:Nat}{V:Ver}(h:yV w b n V)(hb:Below w.heap.size w w'):yV w' b n V:=by
 obtain⟨F,a,f⟩:=h;refine⟨F,a.below hb a.lt,λi=>?_⟩;rcases f i with h|⟨y,v,d,c,g⟩
 .exact .inl h
 .exact .inr ⟨y,v,d,c,g.below hb⟩
theorem yV.look{w:ze}{b n:Nat}{V:Ver}(h:yV w b n V){i:Int}(hi:yw i){y:Dl}(hy:V i=some y):∃gp gc kp kc,(ec 62 (.map (some b)) (.int .i64 i) false).run Tryz.prog w=.ok (Dh y gp gc kp kc) w/\(ec 62 (.map (some b)) (.int .i64 i) true).run Tryz.prog w=.ok (.tuple #[Dh y gp gc kp kc,.bool true]) w/\yI w (.slice gp y.g.length gc) y.g/\yo w (.slice kp y.kids.length kc) y.kids:=by
 obtain⟨F,a,f⟩:=h;rcases f i with⟨h,_⟩|⟨l,v,d,c,gp,gc,kp,kc,rfl,k,j⟩
 .rw[hy]at h;cases h
 .rw[hy]at d;cases d;refine⟨gp,gc,kp,kc,?_,?_,k,j⟩
  .have:=a.look (t:=62) (e:=94) Tryz.underlying62 (Dr w) i hi;rw[this,c];rfl
  .have:=a.look_ok (t:=62) (e:=94) Tryz.underlying62 (Dr w) i hi;rw[this,c];rfl
theorem yV.look_none{w:ze}{b n:Nat}{V:Ver}(h:yV w b n V){i:Int}(hi:yw i)(hy:V i=none):(ec 62 (.map (some b)) (.int .i64 i) false).run Tryz.prog w=.ok (.agg #[.int .i64 0,.string .empty,.slice none 0 0,.int .i64 0,.slice none 0 0]) w/\(ec 62 (.map (some b)) (.int .i64 i) true).run Tryz.prog w=.ok (.tuple #[.agg #[.int .i64 0,.string .empty,.slice none 0 0,.int .i64 0,.slice none 0 0],.bool false]) w:=by
 obtain⟨F,a,f⟩:=h;rcases f i with⟨_,c⟩|⟨g,v,d,_⟩
 .constructor
  .have:=a.look (t:=62) (e:=94) Tryz.underlying62 (Dr w) i hi;rw[this,c];rfl
  .have:=a.look_ok (t:=62) (e:=94) Tryz.underlying62 (Dr w) i hi;rw[this,c];rfl
 .rw[hy]at d;cases d
theorem yV.look_any{w:ze}{b n:Nat}{V:Ver}(h:yV w b n V){i:Int}(hi:yw i):∃y gp gc kp kc,(ec 62 (.map (some b)) (.int .i64 i) false).run Tryz.prog w=.ok (Dh y gp gc kp kc) w/\(ec 62 (.map (some b)) (.int .i64 i) true).run Tryz.prog w=.ok (.tuple #[Dh y gp gc kp kc,.bool (V i).isSome]) w/\yI w (.slice gp y.g.length gc) y.g/\yo w (.slice kp y.kids.length kc) y.kids/\y=(V i).getD ⟨0,.empty,[],0,[]⟩:=by
 cases hV:V i with
 |none=>obtain⟨a,c⟩:=h.look_none hi hV;exact⟨⟨0,.empty,[],0,[]⟩,none,0,none,0,a,c,.inl ⟨⟨_,_,rfl⟩,rfl⟩,.inl ⟨⟨_,_,rfl⟩,rfl⟩,rfl⟩
 |some y=>obtain⟨gp,gc,kp,kc,a,c,f,d⟩:=h.look hi hV;exact⟨y,gp,gc,kp,kc,a,c,f,d,rfl⟩
def Ww(V:Ver)(k:Int)(y:Dl):Ver:=λi=>if i=k then some y else V i
theorem yV.made(w:ze):yV (w.alloc (.map #[] 0)) w.heap.size 0 λ_=>none:=⟨_,B6 w,λ_=>.inl ⟨rfl,rfl⟩⟩
def Bl(ids:List Int)(r:An):Dl:=⟨r.k,r.s,r.g,if 0<=r.parent then ids.getD r.parent.toNat 0 else-1,r.kids.map λk=>ids.getD k.toNat 0⟩
def IW(rs:List An)(ids:List Int):Nat->Ver
 |0=>λ_=>none
 |i+1=>Ww (IW rs ids i) (ids.getD i 0) (Bl ids (rs.getD i ⟨0,0,.empty,[],[]⟩))
def AG(t:T)(ids:List Int):Ver:=IW (t.rows 0 (-1)) ids t.size
theorem Ke{rs:List An}{ids:List Int}:∀(n:Nat){id:Int}{y:Dl},IW rs ids n id=some y->∃i,i<n/\id=ids.getD i 0/\y=Bl ids (rs.getD i ⟨0,0,.empty,[],[]⟩)
 |0,id,y,h=>by cases h
 |n+1,id,y,h=>by
  rw[IW,Ww]at h;split at h
  .rename_i e;exact⟨n,by omega,e,(eF h).symm⟩
  .obtain⟨i,hi,r⟩:=Ke n h;exact⟨i,by omega,r⟩
theorem PY{rs:List An}{ids:List Int}(hd:ids.Nodup):∀(n:Nat),n<=ids.length->∀i,i<n->IW rs ids n (ids.getD i 0)=some (Bl ids (rs.getD i ⟨0,0,.empty,[],[]⟩))
 |0,_,i,h=>absurd h (by omega)
 |n+1,hn,i,h=>by
  rw[IW,Ww];by_cases e:i=n
  .subst e;rw[if_pos rfl]
  .rw[if_neg,PY hd n (by omega) i (by omega)];intro e2;have h1:ids.getD i 0=ids[i]'(by omega):=by simp[zbn,zc (show i<ids.length by omega)]
   have a:ids.getD n 0=ids[n]'(by omega):=by simp[zbn,zc (show n<ids.length by omega)]
   rw[h1,a]at e2;exact e ((List.getElem_inj hd).1 e2)
theorem yh{w w':ze}{b:Nat}{a:oh}{v:zg}(h:w.mapTurned w' b)(hc:w.cell? a=some v):w'.cell? a=some v:=by
 have f:a.block≠b:=by rintro rfl;obtain⟨k,d,g,c,j,rfl⟩:=h;simp only[zS,j]at hc;cases hc
 have i:=yu h f;simp only[zS]at hc⊢;rw[i];exact hc
theorem yI.turned{w w':ze}{b:Nat}{v:zg}{l:List ByteArray}(h:yI w v l)(ht:w.mapTurned w' b):yI w' v l:=by
 rcases h with h|⟨k,c,d,g,a,f,j⟩
 .exact .inl h
 .exact .inr ⟨k,c,d,g,a,by rw[yU ht];exact f,λi p hp=>yh ht (j i p hp)⟩
theorem yo.turned{w w':ze}{b:Nat}{v:zg}{l:List Int}(h:yo w v l)(ht:w.mapTurned w' b):yo w' v l:=by
 rcases h with h|⟨k,c,d,g,a,f,j⟩
 .exact .inl h
 .exact .inr ⟨k,c,d,g,a,by rw[yU ht];exact f,λi p hp=>yh ht (j i p hp)⟩
theorem GC.turned{w w':ze}{b:Nat}{v:zg}{y:Dl}(h:GC w v y)(ht:w.mapTurned w' b):GC w' v y:=by obtain⟨g,c,i,f,e,a,d⟩:=h;exact⟨g,c,i,f,e,a.turned ht,d.turned ht⟩
theorem Im{w:ze}{ops:Array Oper}{rest:List Oper}{o:Oper}{a:Act}{Q:Exit->Act->ze->Prop}(hg:o.guard=none)(m x v:Operand)(hop:o.op=Op.mapUpdate 62 m x v)(b n:Nat)(V:Ver)(hm:a.eval m=.map (some b))(hown:yV w b n V)(hn:n<maxLen)(i:Int)(hx:a.eval x=.int .i64 i)(hi:yw i)(y:Dl)(hy:GC w (a.eval v) y)(hK:∀w',yV w' b (n+1) (Ww V i y)->w.mapTurned w' b->wpList Tryz.prog ops Q rest (a.put o.dst undef) w'):wpList Tryz.prog ops Q (o::rest) a w:=by
 obtain⟨F,c,g⟩:=hown;refine yS hg m x v _ 94 hop Tryz.underlying62 b n F hm c hn i hx hi λw' r1 r2=>hK w' ⟨_,r1,λj=>?_⟩ r2;unfold upd Ww;by_cases e:j=i
 .rw[if_pos e,if_pos e];exact .inr ⟨y,_,rfl,rfl,hy.turned r2⟩
 .rw[if_neg e,if_neg e];rcases g j with h|⟨k,l,f,d,p⟩
  .exact .inl h
  .exact .inr ⟨k,l,f,d,p.turned r2⟩
theorem yV.look_all{w:ze}{b n:Nat}{V:Ver}(h:yV w b n V){i:Int}(hi:yw i):∃y gp gc kp kc,(∀W:ze,W.heap[b]?=w.heap[b]?->(ec 62 (.map (some b)) (.int .i64 i) false).run Tryz.prog W=.ok (Dh y gp gc kp kc) W/\(ec 62 (.map (some b)) (.int .i64 i) true).run Tryz.prog W=.ok (.tuple #[Dh y gp gc kp kc,.bool (V i).isSome]) W)/\yI w (.slice gp y.g.length gc) y.g/\yo w (.slice kp y.kids.length kc) y.kids/\y=(V i).getD ⟨0,.empty,[],0,[]⟩:=by
 obtain⟨F,d,f⟩:=h;rcases f i with⟨c,a⟩|⟨j,v,c,a,gp,gc,kp,kc,rfl,l,k⟩
 .refine⟨⟨0,.empty,[],0,[]⟩,none,0,none,0,λW hW=>⟨?_,?_⟩,.inl ⟨⟨_,_,rfl⟩,rfl⟩,.inl ⟨⟨_,_,rfl⟩,rfl⟩,by rw[c];rfl⟩
  .have:=(d.block hW).look (t:=62) (e:=94) Tryz.underlying62 (Dr W) i hi;rw[this,a];rfl
  .have:=(d.block hW).look_ok (t:=62) (e:=94) Tryz.underlying62 (Dr W) i hi;rw[this,c,a];rfl
 .refine⟨j,gp,gc,kp,kc,λW hW=>⟨?_,?_⟩,l,k,by rw[c];rfl⟩
  .have:=(d.block hW).look (t:=62) (e:=94) Tryz.underlying62 (Dr W) i hi;rw[this,a];rfl
  .have:=(d.block hW).look_ok (t:=62) (e:=94) Tryz.underlying62 (Dr W) i hi;rw[this,c,a];rfl
def Win(B L R S:Ver):Prop:=∀i,(L i=R i/\S i=R i)\/(L i=B i/\S i=R i)\/(R i=B i/\S i=L i)
theorem Gr(f:Nat)(cs:Array zg)(p:Int->Bool)(v:zg)(l:List Int)(w:ze)(hv:yo w v l)(hn:l.length<=1000000)(eg:∀args w,(callFunc f args).run Tryz.prog w=.ok (.enter f args) w)(hp:∀x∈l,∀W,Below w.heap.size w W->zM Tryz.prog f (#[.int .i64 x]++cs) W λe W'=>e=.returned (.bool (p x))/\Below W.heap.size W W'):zM Tryz.prog 134 #[v,.func (.func f) #[] cs] w λe w'=>(((∀x∈l,p x=false)/\e=.returned (.int .i64 (-1)))\/∃(j:Nat)(x:Int),l[j]?=some x/\p x=true/\(∀y∈l.take j,p y=false)/\e=.returned (.int .i64 j))/\Below w.heap.size w w':=by
 obtain⟨A,c,rfl⟩:=hv.slice;go_enter Tryz.func134,Tryz.ntmps134;go_wp2;go_loopw [8] (λi w'=>∃j:Nat,j<=l.length/\(∀y∈l.take j,p y=false)/\i=.int .i64 j/\Below w.heap.size w w') (λi _=>l.length-(intOf i).toNat)
 case atStart=>exact⟨0,by omega,by simp,rfl,zt _ _⟩
 case round=>
  rename_i wr hrel;obtain⟨j,z,d,rfl,a⟩:=hrel;replace hv:=hv.below a;have k:=za a;have o:=za d;clear d;by_cases n:j<l.length
  .obtain⟨x,h⟩:∃x,l[j]?=some x:=⟨l[j],zc n⟩
   obtain⟨b,t,rfl,_,B⟩:=hv.at h;have r:=za (hp x (zq h) wr a);have s:=za h;clear hp h a;rcases zN (p x)with q|q
   .have m:=za q;clear q;go_wp2;refine r.out.mono ?_;rintro e w' ⟨rfl,g⟩;rw[m.out];go_wp2;go_ret;exact⟨.inr ⟨j,x,s.out,m.out,o.out,rfl⟩,k.out.trans (g.mono k.out.size)⟩
   .have m:=za q;clear q;go_wp2;refine r.out.mono ?_;rintro e w' ⟨rfl,g⟩;rw[m.out];go_wp2;go_roundw
    case rel=>
     refine⟨j+1,by omega,λy hy=>?_,by go_num,k.out.trans (g.mono k.out.size)⟩;rw[z6,s.out]at hy;simp only[zaQ,eZ,List.mem_singleton]at hy;rcases hy with hy|rfl
     .exact o.out y hy
     .exact m.out
    case measure=>simp[intOf];omega
  .obtain rfl:j=l.length:=by omega
   go_wp2;go_ret;refine⟨.inl ⟨λx h=>o.out x (by rw[zY];exact h),rfl⟩,k.out⟩
theorem Jr(f:Nat)(cs:Array zg)(p:Int->Bool)(v:zg)(l:List Int)(w:ze)(hv:yo w v l)(hn:l.length<=1000000)(eg:∀args w,(callFunc f args).run Tryz.prog w=.ok (.enter f args) w)(hp:∀x∈l,∀W,Below w.heap.size w W->zM Tryz.prog f (#[.int .i64 x]++cs) W λe W'=>e=.returned (.bool (p x))/\Below W.heap.size W W'):zM Tryz.prog 95 #[v,.func (.func f) #[] cs] w λe w'=>e=.returned (.bool (l.any p))/\Below w.heap.size w w':=by
 have i:=za (Gr f cs p v l w hv hn eg hp);clear hv hp eg;go_enter Tryz.func95,Tryz.ntmps95;go_wp2_with (first|(go_at_call 134;refine i.out.mono ?_));rintro e w' ⟨h|h,c⟩
 .obtain⟨a,rfl⟩:=h;go_wp2;go_ret;refine⟨yA ?_,c⟩;have:l.any p=false:=List.any_eq_false.2 λx hx=>by rw[a x hx];simp
  rw[this]
 .obtain⟨j,x,a,b,_,rfl⟩:=h;have d:decide ((0:Int)<=(j:Int))=true:=by simp
  have k:=za (zq a);have g:=za b;clear a b;go_wp2;go_ret;refine⟨yA ?_,c⟩;have:l.any p=true:=List.any_eq_true.2 ⟨x,k.out,g.out⟩;rw[this]
section
variable{base cap:Nat} {e:TypeId}
theorem Hr{b:Nat}:∀(vs:List zg)(o n:Nat)(xs:List zg)(w:ze),w.ownsRow base e 1 (.slice (some ⟨b,0,none⟩) n cap) n xs->o+vs.length<=n->∃xs',(w.setCells b o vs).ownsRow base e 1 (.slice (some ⟨b,0,none⟩) n cap) n xs'/\xs'.take o=xs.take o/\w.grownBy (w.setCells b o vs) (some b)
 |[],o,n,xs,w,h,_=>⟨xs,h,rfl,⟨rfl,rfl,rfl,zn _,λ_ _ _=>rfl⟩⟩
 |v::vs,o,n,xs,w,h,hl=>by
  obtain⟨h1,h2⟩:=h.stored o v;obtain⟨xs',h3,h4,h5⟩:=Hr vs (o+1) n _ _ h1 (by simp at hl;omega);refine⟨xs',h3,?_,yc h2 h5⟩;have:(xs'.take (o+1)).take o=((xs.set o v).take (o+1)).take o:=by rw[h4]
  rw[zbG,zbG,zdB (by omega)]at this;rw[this,zcx (by omega)]
theorem VG{w:ze}{b n i:Nat}{xs:List zg}(h:w.ownsRow base e 1 (.slice (some ⟨b,0,none⟩) n cap) n xs)(hi:i<=n):w.ownsRow base e 1 (.slice (some ⟨b,0,none⟩) i cap) i (xs.take i):=by
 obtain⟨d,l⟩:=h;refine⟨by rw[iR,d];omega,?_⟩;rcases l with⟨e,_⟩|⟨g,c,a,e,o,f,p,j,k,m⟩
 .cases e
 .cases e;refine .inr ⟨b,cap,a,rfl,o,f,by omega,j,k,?_⟩;rw[<-m,zbG,zdq,zdq,zdB hi]
end
structure T9(q:Int->Bool)(l cur:List Int)(i j:Nat):Prop where
 ij:i<=j
 len:cur.length=l.length
 low:cur.take i=(l.take j).filter q
 high:∀m,j<=m->cur[m]?=l[m]?
theorem T9.count{q:Int->Bool}{l cur:List Int}{i j:Nat}(h:T9 q l cur i j)(hj:j<=l.length):i=((l.take j).filter q).length:=by rw[<-h.low,iR,h.len];have:=h.ij;omega
theorem T9.keep{q:Int->Bool}{l cur:List Int}{i j:Nat}{x:Int}(h:T9 q l cur i j)(hx:l[j]?=some x)(hq:q x=true):T9 q l (cur.set i x) (i+1) (j+1):=by
 have c:=(zm.1 hx).1;have a:=h.ij;refine⟨by omega,by rw[zdn,h.len],?_,λm hm=>?_⟩
 .have b:i<(cur.set i x).length:=by rw[zdn,h.len];omega
  rw[z6,List.getElem?_set_self (by rw[h.len];omega),zcx (by omega),h.low,z6,hx];simp[hq]
 .rw[zcm (by omega)];exact h.high m (by omega)
theorem T9.skip{q:Int->Bool}{l cur:List Int}{i j:Nat}{x:Int}(h:T9 q l cur i j)(hx:l[j]?=some x)(hq:q x=false):T9 q l cur i (j+1):=by refine⟨by have:=h.ij;omega,h.len,?_,λm hm=>h.high m (by omega)⟩;rw[z6,hx,oO,h.low];simp[hq]
theorem LD(f:Nat)(cs:Array zg)(p:Int->Bool)(v:zg)(l:List Int)(base:Nat)(w:ze)(hv:yj w base v l)(hn:l.length<=1000000)(eg:∀args w,(callFunc f args).run Tryz.prog w=.ok (.enter f args) w)(hp:∀x∈l,∀W,w.grownBy W v.ownBlock->zM Tryz.prog f (#[.int .i64 x]++cs) W λe W'=>e=.returned (.bool (p x))/\W'=W):zM Tryz.prog 100 #[v,.func (.func f) #[] cs] w λe w'=>∃u,e=.returned u/\yj w' base u (l.filter λx=> !p x)/\w.grownBy w' v.ownBlock:=by
 have Q:=za (Gr f cs p v l w hv.ints hn eg λx r W A=>(hp x r W (yM A)).mono λ_ _ ⟨o,I⟩=>⟨o,by rw[I];exact zt _ _⟩);obtain⟨pv,c,rfl⟩:=yq hv;go_enter Tryz.func100,Tryz.ntmps100;go_wp2_with (first|(go_at_call 134;refine Q.out.mono ?_));rintro e w' ⟨h|h,A⟩
 .obtain⟨o,rfl⟩:=h;have M:=za (zF hv (yM (row:=none) A) (by cases(Value.slice pv l.length c).ownBlock<;>simp));have H1:=za o;clear hv o;go_wp2;go_ret;refine⟨_,rfl,?_,yM A⟩;have e:(l.filter λx=> !p x)=l:=zcy.2 λx r=>by rw[H1.out x r];rfl
  unfold yj;rw[e];exact M.out
 .obtain⟨E,x0,o,I,T,rfl⟩:=h;have aj:=(zm.1 o).1;obtain⟨b,c',e,_,aa⟩:=om hv (by omega);cases e;have R:l.length<=c:=by
   rcases hv.2 with⟨e,_⟩|⟨g,X,a,e,_,_,L,_⟩
   .cases e
   .cases e;exact L
  have F:w.grownBy w' (some b):=yM A;have H:Al w' base b l.length c l:=zF hv (yM (row:=none) A) (by simp[eP]);have n:T9 (λx=> !p x) l l E (E+1):=by refine⟨by omega,rfl,?_,λm _=>rfl⟩;rw[z6,o,oO,zcy.2 λy hy=>by rw[T y hy];rfl];simp[I]
  have M:=za H;have B:=za n;have D:=za F;have d:((E:Int)==-1)=false:=by rw[beq_eq_false_iff_ne];omega
  have HP:=za hp;clear H n F o I T hp hv A Q;go_wp2;go_loopw [5,6,7] (λi j _ wr=>∃(i' j':Nat)(a:List Int),j'<=l.length/\i=.int .i64 i'/\j=.int .i64 j'/\i'<j'/\T9 (λx=> !p x) l a i' j'/\Al wr base b l.length c a/\w.grownBy wr (some b)) (λ_ j _ _=>l.length-(intOf j).toNat)
  case atStart=>exact⟨E,E+1,l,by omega,rfl,by go_num,by omega,B.out,M.out,D.out⟩
  case round=>
   rename_i wr hrel;obtain⟨i,j,a,hj,rfl,rfl,Z,n,k,J⟩:=hrel;have B:=za n;have O:=za k;have D:=za J;by_cases N:j<l.length
   .obtain⟨x,r⟩:∃x,l[j]?=some x:=⟨l[j],zc N⟩
    have c0:=k.at (j:=j) (x:=x) ((n.high j (by omega)).trans r);obtain⟨P,s⟩:∃x,a[i]?=some x:=⟨a[i]'(by rw[n.len];omega),zc _⟩
    have c1:=k.at (j:=i) (x:=P) s;have f1:=iN k i;have z:=HP.out x (zq r) wr J;have C:=za z;have V:=za r;clear n k J z r s;rcases zN (p x)with q|q
    .have G:=za q;clear q;go_wp2;refine C.out.mono ?_;rintro e w9 ⟨rfl,rfl⟩;rw[G.out];go_wp2;go_roundw
     case rel=>exact⟨i,j+1,a,by omega,rfl,by go_num,by omega,B.out.skip V.out (by rw[G.out];rfl),O.out,D.out⟩
     case measure=>simp[intOf];omega
    .have G:=za q;clear q;go_wp2;refine C.out.mono ?_;rintro e w9 ⟨rfl,rfl⟩;rw[G.out];go_wp2;go_roundw
     case rel=>exact⟨i+1,j+1,a.set i x,by omega,by go_num,by go_num,by omega,B.out.keep V.out (by rw[G.out];rfl),(O.out.set i x).1,yc D.out (O.out.set i x).2⟩
     case measure=>simp[intOf];omega
   .obtain rfl:j=l.length:=by omega
    have z:∀ty,(Builtin.clear_ #[55] ty #[.slice (some ⟨b,i,none⟩) (l.length-i) (c-i)]).run Tryz.prog wr=.ok (.tuple #[]) (wr.setCells b i (ia (l.length-i) (.int .i64 0))):=λty=>Lib.run_clear_slice wr _ _ ty _ Tryz.underlying55 (λw=>by kernel_rfl) rfl rfl b i _ _ (by omega) (λt ht=>by rw[k.at (j:=i+t) (x:=a[i+t]'(by rw[n.len];omega)) (zc _)];rfl) (λt ht=>iN k (i+t));obtain⟨ah,S,Y,U⟩:=Hr (ia (l.length-i) (zX .i64 0)) i l.length _ wr k (by simp;omega);have O1:=za (VG S (i:=i) (by omega));have O2:=za Y;have O3:=za U;have i0:(0:Int)<=(i:Int):=by omega
    have i1:(i:Int)<=(l.length:Int):=by omega
    have i2:(l.length:Int)<=(c:Int):=by omega
    have ak:i<=l.length:=by omega
    clear n k J S Y U;go_wp2;go_ret;refine⟨_,rfl,?_,yc D.out O3.out⟩;have h:=O1.out;rw[O2.out,<-List.map_take,B.out.low,zY]at h;have L:=B.out.count (zn _);rw[zY]at L;unfold yj;rw[<-L];exact h
theorem DG(b n:Nat)(V:Ver)(i:Int)(w:ze)(h:yV w b n V)(hi:yw i):zM Tryz.prog 74 #[.map (some b),.int .i64 i] w λe w'=>e=.returned (.bool (V i).isSome)/\Below w.heap.size w w':=by obtain⟨y,g,c,j,f,a,d,_,_,_⟩:=h.look_any hi;generalize(V i).isSome=q at*;go_enter Tryz.func74,Tryz.ntmps74;go_wp2;go_ret;exact⟨rfl,ya _⟩
theorem WR(k p:Int)(s:ByteArray)(gp kp:Option oh)(gn gc kn kc:Nat)(w:ze):(zcd 94 (.agg #[.int .i64 k,.string s,.slice gp gn gc,.int .i64 p,.slice kp kn kc]) 2).run Tryz.prog w=.ok (.slice gp gn gc) w:=by kernel_rfl
theorem Xd(k p:Int)(s:ByteArray)(gp kp:Option oh)(gn gc kn kc:Nat)(w:ze):(zcd 94 (.agg #[.int .i64 k,.string s,.slice gp gn gc,.int .i64 p,.slice kp kn kc]) 3).run Tryz.prog w=.ok (.int .i64 p) w:=by kernel_rfl
theorem Vv(k p:Int)(s:ByteArray)(gp kp:Option oh)(gn gc kn kc:Nat)(w:ze):(zcd 94 (.agg #[.int .i64 k,.string s,.slice gp gn gc,.int .i64 p,.slice kp kn kc]) 4).run Tryz.prog w=.ok (.slice kp kn kc) w:=by kernel_rfl
def Tv(w:ze)(p b n:Nat)(V:Ver):Prop:=w.cell? ⟨p,0,none⟩=some (.map (some b))/\p<w.heap.size/\yV w b n V
theorem Tv.below{w w':ze}{p b n:Nat}{V:Ver}(h:Tv w p b n V)(hb:Below w.heap.size w w'):Tv w' p b n V:=⟨(hb.cell (p:=⟨p,0,none⟩) h.2.1).trans h.1,ez h.2.1 hb.size,h.2.2.below hb⟩
def FB(B S:Ver)(i:Int):Bool:=(B i).isSome&& !(S i).isSome
theorem R7(p q b s n m:Nat)(B S:Ver)(i:Int)(w:ze)(hp:Tv w p b n B)(hq:Tv w q s m S)(hi:yw i):zM Tryz.prog 94 #[.int .i64 i,.pointer (some ⟨p,0,none⟩),.pointer (some ⟨q,0,none⟩)] w λe w'=>e=.returned (.bool (FB B S i))/\Below w.heap.size w w':=by
 have c:=za (DG b n B i w hp.2.2 hi);have f:eW (∀W,Below w.heap.size w W->zM Tryz.prog 74 #[.map (some s),.int .i64 i] W λe w'=>e=.returned (.bool (S i).isSome)/\Below W.heap.size W w'):=za λW h=>DG s m S i W (hq.2.2.below h) hi;have k:=hp.1;have j:=za hq;unfold FB;clear hp hq;rcases zN (B i).isSome with e1|e1
 .rw[e1];rw[e1]at c;generalize(S i).isSome=q2 at*;go_enter Tryz.func94,Tryz.ntmps94;go_wp2_with fail;refine c.out.mono ?_;rintro e g ⟨rfl,a⟩;have o:=(j.out.below a).1;go_wp2_with fail;refine(f.out _ a).mono ?_;rintro e l ⟨rfl,d⟩;go_wp2;go_ret;exact⟨by simp,a.trans (d.mono a.size)⟩
 .rw[e1];rw[e1]at c;go_enter Tryz.func94,Tryz.ntmps94;go_wp2_with fail;refine c.out.mono ?_;rintro e g ⟨rfl,a⟩;go_wp2;go_ret;exact⟨by simp,a⟩
def Ao(w:ze)(v:zg)(l:List (Int×Int)):Prop:=((∃p c,v=.slice p 0 c)/\l=[])\/∃b off cap,v=.slice (some ⟨b,off,none⟩) l.length cap/\b<w.heap.size/\∀i(x:Int×Int),l[i]?=some x->w.cell? ⟨b,off+i*2,none⟩=some (.int .i64 x.1)/\w.cell? ⟨b,off+i*2+1,none⟩=some (.int .i64 x.2)
theorem Ao.below{w wr:ze}{v:zg}{l:List (Int×Int)}(h:Ao w v l)(hb:Below w.heap.size w wr):Ao wr v l:=by
 rcases h with h|⟨b,c,d,g,a,f⟩
 .exact .inl h
 .exact .inr ⟨b,c,d,g,ez a hb.size,λi p hp=>⟨(hb.cell (p:=⟨b,_,none⟩) a).trans (f i p hp).1,(hb.cell (p:=⟨b,_,none⟩) a).trans (f i p hp).2⟩⟩
theorem Ao.slice{w:ze}{v:zg}{l:List (Int×Int)}(h:Ao w v l):∃p c,v=.slice p l.length c:=by
 rcases h with⟨⟨p,c,rfl⟩,rfl⟩|⟨b,d,a,rfl,_⟩
 .exact⟨p,c,rfl⟩
 .exact⟨_,_,rfl⟩
theorem Ao.at{w:ze}{p:Option oh}{n c:Nat}{l:List (Int×Int)}(h:Ao w (.slice p n c) l){i:Nat}{x:Int×Int}(hi:l[i]?=some x):∃b off,p=some ⟨b,off,none⟩/\b<w.heap.size/\w.cell? ⟨b,off+i*2,none⟩=some (.int .i64 x.1)/\w.cell? ⟨b,off+i*2+1,none⟩=some (.int .i64 x.2):=by
 rcases h with⟨_,rfl⟩|⟨b,off,f,e,a,d⟩
 .simp at hi
 .cases e;exact⟨b,off,rfl,a,d i x hi⟩
theorem Vf:(Tryz.prog.info? 4).map (λi=>(i.zero,i.size,i.bytes))=some (some (.bool false),1,1):=by kernel_rfl
theorem QJ(w:ze)(n:Nat)(hn:n<=1000000):(Instr.makeSlice 83 (.int .i64 (n:Int)) (.int .i64 (n:Int))).run Tryz.prog w=.ok (.slice (some ⟨w.heap.size,0,none⟩) n n) (w.alloc (.cells (madeCells #[.bool false] n) 4)):=by obtain⟨f,d,c,a,b⟩:=iY Vf;have h:=run_makeSlice (P:=Tryz.prog) w 83 4 f (.bool false) Tryz.underlying83 d c .i64 .i64 (n:Int) (n:Int) (by omega) (by omega) (by rw[a];omega) (by rw[b];omega) (by omega);rw[a]at h;simpa[Value.cells]using h
def Ay(w:ze)(base b n:Nat)(S:List Int):Prop:=w.ownsRow base 4 1 (.slice (some ⟨b,0,none⟩) n n) n ((ev n).map λ(i:Nat)=>.bool (decide ((i:Int)∈S)))
theorem Ay.made(w:ze)(n:Nat)(hn:n<=1000000){base:Nat}(hb:base<=w.heap.size):Ay (w.alloc (.cells (madeCells #[.bool false] n) 4)) base w.heap.size n []:=by have h:=zcI (base:=base) (e:=4) (size:=1) w (madeCells #[.bool false] n) n hb (by simp[maxLen];omega) (by simp[size_madeCells]);rw[toList_madeCells_one]at h;unfold Ay;simpa[List.map_const']using h
theorem Ay.at{w:ze}{base b n:Nat}{S:List Int}(h:Ay w base b n S){j:Nat}(hj:j<n):w.cell? ⟨b,j,none⟩=some (.bool (decide ((j:Int)∈S))):=by refine(ep h j (by omega)).trans ?_;simp[hj]
theorem Ay.set{w:ze}{base b n:Nat}{S:List Int}(h:Ay w base b n S)(j:Nat):Ay (w.setCell ⟨b,j,none⟩ (.bool true)) base b n ((j:Int)::S)/\w.grownBy (w.setCell ⟨b,j,none⟩ (.bool true)) (some b):=by
 obtain⟨d,f⟩:=ii h j (.bool true);refine⟨?_,f⟩;unfold Ay;have e:((ev n).map λ(i:Nat)=>zd4 (decide ((i:Int)∈S))).set j (.bool true)=(ev n).map λ(i:Nat)=>zd4 (decide ((i:Int)∈(j:Int)::S)):=by
  apply List.ext_getElem?;intro i;by_cases c:i<n
  .by_cases a:j=i
   .subst a;simp[c]
   .rw[zcm a];simp only[ig,List.getElem?_range c,Option.map_some,List.mem_cons,zb,zew,decide_eq_decide];constructor
    .exact .inr
    .rintro(h|h)
     .omega
     .exact h
  .rw[oC (by simp;omega),oC (by simp;omega)]
 rw[<-e];exact d
theorem Ay.kept{w w':ze}{base b n:Nat}{S:List Int}{row:Option Nat}(h:Ay w base b n S)(hg:w.grownBy w' row)(hne:row≠some b):Ay w' base b n S:=zF h hg (.inr (by simpa[eP]usingλe=>hne e.symm))
def FU(A B:List An):Int->List Int->List (Int×Int)->Option (List Int)
 |_,used,[]=>some used
 |last,used,(o,n)::m=>if o<=last\/(A.length:Int)<=o\/n<0\/(B.length:Int)<=n\/n∈used then none else if(A[o.toNat]?).map An.k≠(B[n.toNat]?).map An.k\/¬(o=0↔n=0)then none else FU A B o (n::used) m
noncomputable def Aj(ka kb:Int)(A B:List An)(m:List (Int×Int)):Int:=
 match FU A B (-1) [] m with
 |none=>15
 |some used=>if ka=kb/\(0:Int)∉used then 15 else 0
theorem QL{A B:List An}{m:List (Int×Int)}{j:Nat}{o n:Int}(h:m[j]?=some (o,n))(last:Int)(used:List Int):FU A B last used (m.drop j)=if o<=last\/(A.length:Int)<=o\/n<0\/(B.length:Int)<=n\/n∈used then none else if(A[o.toNat]?).map An.k≠(B[n.toNat]?).map An.k\/¬(o=0↔n=0)then none else FU A B o (n::used) (m.drop (j+1)):=by obtain⟨a,e⟩:=zm.1 h;rw[List.drop_eq_getElem_cons a,e,FU]
theorem yD{w:ze}{B:Nat}{x0 x1:zg}{t:TypeId}{fz:Nat×Nat}(h:w.heap[B]?=some (.cells #[x0,x1] t fz)):w.cell? ⟨B,0,none⟩=some x0/\w.cell? ⟨B,1,none⟩=some x1:=by refine⟨?_,?_⟩<;>(simp only[zS,h];rfl)
def Ss(B:Nat)(W1:ze)(a b:T)(ga ka gb kb:zg)(w':ze):Prop:=w'.cell? ⟨B,0,none⟩=some (.int .i64 a.k)/\w'.cell? ⟨B,1,none⟩=some (.string a.s)/\w'.cell? ⟨B,2,none⟩=some ga/\w'.cell? ⟨B,3,none⟩=some ka/\w'.cell? ⟨B+1,0,none⟩=some (.int .i64 b.k)/\w'.cell? ⟨B+1,1,none⟩=some (.string b.s)/\w'.cell? ⟨B+1,2,none⟩=some gb/\w'.cell? ⟨B+1,3,none⟩=some kb/\W1.heap.size=B+2/\Below (B+2) W1 w'
theorem Ss.below{B:Nat}{W1:ze}{a b:T}{ga ka gb kb:zg}{w' w'':ze}(h:Ss B W1 a b ga ka gb kb w')(hb:Below w'.heap.size w' w''):Ss B W1 a b ga ka gb kb w'':=by
 obtain⟨l,m,i,n,q,o,g,r,j,d⟩:=h;have k:=d.size;have f:B<w'.heap.size:=by omega
 have c:B+1<w'.heap.size:=by omega
 exact⟨(hb.cell (p:=⟨B,_,none⟩) f).trans l,(hb.cell (p:=⟨B,_,none⟩) f).trans m,(hb.cell (p:=⟨B,_,none⟩) f).trans i,(hb.cell (p:=⟨B,_,none⟩) f).trans n,(hb.cell (p:=⟨B+1,_,none⟩) c).trans q,(hb.cell (p:=⟨B+1,_,none⟩) c).trans o,(hb.cell (p:=⟨B+1,_,none⟩) c).trans g,(hb.cell (p:=⟨B+1,_,none⟩) c).trans r,j,d.trans (hb.mono (by omega))⟩
theorem Sg(w:ze)(a b:T)(ga ka gb kb:zg):Ss w.heap.size ((w.alloc (.cells #[.int .i64 a.k,.string a.s,ga,ka] 25)).alloc (.cells #[.int .i64 b.k,.string b.s,gb,kb] 25)) a b ga ka gb kb ((w.alloc (.cells #[.int .i64 a.k,.string a.s,ga,ka] 25)).alloc (.cells #[.int .i64 b.k,.string b.s,gb,kb] 25)):=by
 have f:=(eN w (.cells #[.int .i64 a.k,.string a.s,ga,ka] 25)).1;have d:=(eN (w.alloc (.cells #[.int .i64 a.k,.string a.s,ga,ka] 25)) (.cells #[.int .i64 b.k,.string b.s,gb,kb] 25)).1;have e:(w.alloc (.cells #[.int .i64 a.k,.string a.s,ga,ka] 25)).heap.size=w.heap.size+1:=by simp
 rw[e]at d;have c:=((ya (w:=w.alloc (.cells #[.int .i64 a.k,.string a.s,ga,ka] 25)) (.cells #[.int .i64 b.k,.string b.s,gb,kb] 25)).block w.heap.size (by simp)).trans f;refine⟨?_,?_,?_,?_,?_,?_,?_,?_,by simp,zt _ _⟩;all_goals first|(simp only[zS,c];rfl)|(simp only[zS,d];rfl)
theorem BJ(a b:T)(ga ka gb kb mv:zg)(m:List (Int×Int))(w:ze)(ha:a.Lies w ga ka)(hb:b.Lies w gb kb)(hm:Ao w mv m)(sa:a.size<=300)(sb:b.size<=300)(ba:a.bulk<=1048576)(bb:b.bulk<=1048576)(hml:m.length<=1000):zM Tryz.prog 19 #[yJ a.k a.s ga ka,yJ b.k b.s gb kb,mv] w λe w'=>e=.returned (.int .i64 (Aj a.k b.k (a.rows 0 (-1)) (b.rows 0 (-1)) m))/\Below w.heap.size w w':=by
 obtain⟨Q,I,rfl⟩:=ha.kids.slice;obtain⟨L,O,rfl⟩:=ha.gaps.slice;obtain⟨N,M,rfl⟩:=hb.kids.slice;obtain⟨P,J,rfl⟩:=hb.gaps.slice;obtain⟨pm,cm,rfl⟩:=hm.slice;have hT:=Sg w a b (.slice L a.g.length O) (.slice Q a.ks.length I) (.slice P b.g.length J) (.slice N b.ks.length M);obtain⟨W1,aj⟩:∃W1,W1=((w.alloc (.cells #[.int .i64 a.k,.string a.s,.slice L a.g.length O,.slice Q a.ks.length I] 25)).alloc (.cells #[.int .i64 b.k,.string b.s,.slice P b.g.length J,.slice N b.ks.length M] 25)):=⟨_,rfl⟩
 have a1:Below w.heap.size w W1:=by rw[aj];exact(ya _).trans ((ya _).mono (by simp))
 rw[<-aj]at hT;have aw:(a.rows 0 (-1)).length=a.size:=T.length_rows _ _ _;have au:(b.rows 0 (-1)).length=b.size:=T.length_rows _ _ _;have ap:∀(t:T)(gv kv:zg),t.Lies w gv kv->t.size<=300->t.bulk<=1048576->(t.rows 0 (-1)).length=t.size->∀wc,Ss w.heap.size W1 a b (.slice L a.g.length O) (.slice Q a.ks.length I) (.slice P b.g.length J) (.slice N b.ks.length M) wc->zM Tryz.prog 34 #[yJ t.k t.s gv kv] wc λe w'=>∃p c,e=.returned (.slice p t.size c)/\(∀w'',Below w'.heap.size w' w''->C8 w'' (.slice p t.size c) (t.rows 0 (-1)))/\Below wc.heap.size wc w'/\Ss w.heap.size W1 a b (.slice L a.g.length O) (.slice Q a.ks.length I) (.slice P b.g.length J) (.slice N b.ks.length M) w':=by intro t gv kv hl hs b9 bp wc h;have ac:Below w.heap.size w wc:=a1.trans (h.2.2.2.2.2.2.2.2.2.mono (by omega));exact(Hc t gv kv wc (T.Lies.below ac t hl) (by omega) b9).mono λ_ _ ⟨u,E,G,S⟩=>by have hv:=G.val;obtain⟨p,c,rfl⟩:=hv.slice;rw[bp]at E hv;exact⟨p,c,E,λw'' h'=>hv.below h',S,h.below S⟩
 have HA:=za (ap a _ _ ha sa ba aw);have bf:=za (ap b _ _ hb sb bb au);generalize c6:a.rows 0 (-1)=RA at*;generalize c9:b.rows 0 (-1)=RB at*;have co:Ss w.heap.size W1 a b (.slice L a.g.length O) (.slice Q a.ks.length I) (.slice P b.g.length J) (.slice N b.ks.length M) W1.drew:=hT.below ((zt _ _).drew);have HT:=za hT;have cd:=za a1;have cs:=za aj;have HM:=za hm;clear ap ha hb hm hT a1;unfold Ss at co;go_enter Tryz.func19,Tryz.ntmps19;go_wp2;rw[<-cs.out];clear aj;go_region_held3 (λw'=>w'.cell? ⟨w.heap.size,0,none⟩=some (.int .i64 a.k)/\w'.cell? ⟨w.heap.size,1,none⟩=some (.string a.s)/\w'.cell? ⟨w.heap.size,2,none⟩=some (.slice L a.g.length O)/\w'.cell? ⟨w.heap.size,3,none⟩=some (.slice Q a.ks.length I)/\w'.cell? ⟨w.heap.size+1,0,none⟩=some (.int .i64 b.k)/\w'.cell? ⟨w.heap.size+1,1,none⟩=some (.string b.s)/\w'.cell? ⟨w.heap.size+1,2,none⟩=some (.slice P b.g.length J)/\w'.cell? ⟨w.heap.size+1,3,none⟩=some (.slice N b.ks.length M)/\W1.heap.size=w.heap.size+2/\Below (w.heap.size+2) W1 w') (first|assumption|(change Ss w.heap.size W1 a b (.slice L a.g.length O) (.slice Q a.ks.length I) (.slice P b.g.length J) (.slice N b.ks.length M) _;assumption)) (first
   |(go_at_call 34;refine(HA.out _ (by unfold Ss;assumption)).mono ?_;rintro e w' ⟨pA,cA,rfl,bh,b6,hS⟩)
   |(go_at_call 34;refine(bf.out _ (by unfold Ss;assumption)).mono ?_;rintro e w' ⟨pB,cB,rfl,bk,bl,hS⟩))
 have bq:=hS;have bn:=bh _ bl;have br:=bk _ (zt _ _);have ac:Below w.heap.size w w':=cd.out.trans (hS.2.2.2.2.2.2.2.2.2.mono (by omega));have hmk:=QJ w' b.size (by omega);have bo:=HM.out.below ac;clear bh bk b6 bl HA bf;obtain⟨w8,Z⟩:∃w8,w8=w'.alloc (.cells (madeCells #[.bool false] b.size) 4):=⟨_,rfl⟩
 have bc:Ay w8 w'.heap.size w'.heap.size b.size []:=by rw[Z];exact Ay.made w' _ (by omega) (zn _)
 have bg:Below w'.heap.size w' w8:=by rw[Z];exact ya _
 rw[<-Z]at hmk;have bj:w8.heap.size=w'.heap.size+1:=by rw[Z];simp
 have b5:=za bc;have ch:=za bg;have ck:=za bn;have cc:=za br;have cq:=za bo;have a8:=za ac;have az:=za bq;have bi:=za bj;have R:=za aw;have ab:=za au;clear bc bg bn br bo ac bq hS Z bj aw au;have r:eW (∀(e:Ending)(w9:ze),Below w'.heap.size w' w9->e=.returned (.int .i64 (Aj a.k b.k RA RB m))->(e=.returned (.int .i64 (Aj a.k b.k RA RB m))/\Below w.heap.size w w9)):=za λe w9 h1 h2=>⟨h2,a8.out.trans (h1.mono a8.out.size)⟩
 have C:eW (FU RA RB (-1) [] m=none->Aj a.k b.k RA RB m=15):=za λh=>by unfold Aj;rw[h]
 go_wp2;go_loopw [10,22] (λl i w9=>∃(j:Nat)(z:Int)(f:List Int),j<=m.length/\l=.int .i64 z/\-1<=z/\FU RA RB (-1) [] m=FU RA RB z f (m.drop j)/\Ay w9 w'.heap.size w'.heap.size b.size f/\Below w'.heap.size w' w9/\w8.heap.size<=w9.heap.size/\i=.int .i64 j) (λ_ i _=>m.length-(intOf i).toNat)
 case atStart=>exact⟨0,-1,[],by omega,rfl,by omega,by simp,b5.out,ch.out,zn _,rfl⟩
 case round=>
  rename_i wr hrel;obtain⟨j,z,f,hj,rfl,cr,an,hU,ag,be,rfl⟩:=hrel;have aa:=ck.out.below ag;have U:=cc.out.below ag;have av:=cq.out.below ag;have HU:=za hU;have q:=za ag;have F:=za an;have a2:=za be;clear hU an be;by_cases cp:j<m.length
  .obtain⟨⟨o,n⟩,ho⟩:∃x,m[j]?=some x:=⟨m[j],zc cp⟩
   obtain⟨bm,cz,rfl,dg,c0,c1⟩:=av.at ho;simp only at c0 c1;have HD:=za (QL (A:=RA) (B:=RB) ho z f);clear ho av;by_cases E:o<=z
   .have d1:decide (o<=z)=true:=by simpa using E
    have H:eW (Aj a.k b.k RA RB m=15):=za (C.out (by rw[F.out,HD.out,if_pos (.inl E)]));clear E;go_wp2;go_ret;exact r.out _ _ (q.out.trans ((ya _).mono q.out.size)) (by rw[H.out];first|done|rfl)
   have d1:decide (o<=z)=false:=by simpa using E
   by_cases G:(RA.length:Int)<=o
   .rw[R.out]at G;have d2:decide ((a.size:Int)<=o)=true:=by simpa using G
    have H:eW (Aj a.k b.k RA RB m=15):=za (C.out (by rw[F.out,HD.out,if_pos (.inr (.inl (by rw[R.out];exact G)))]));clear E G;go_wp2;go_ret;exact r.out _ _ (q.out.trans ((ya _).mono q.out.size)) (by rw[H.out];first|done|rfl)
   rw[R.out]at G;have d2:decide ((a.size:Int)<=o)=false:=by simpa using G
   by_cases S:n<0
   .have d3:decide (n<0)=true:=by simpa using S
    have H:eW (Aj a.k b.k RA RB m=15):=za (C.out (by rw[F.out,HD.out,if_pos (.inr (.inr (.inl S)))]));clear E G S;go_wp2;go_ret;exact r.out _ _ (q.out.trans ((ya _).mono q.out.size)) (by rw[H.out];first|done|rfl)
   have d3:decide (n<0)=false:=by simpa using S
   by_cases e4:(RB.length:Int)<=n
   .rw[ab.out]at e4;have d4:decide ((b.size:Int)<=n)=true:=by simpa using e4
    have H:eW (Aj a.k b.k RA RB m=15):=za (C.out (by rw[F.out,HD.out,if_pos (.inr (.inr (.inr (.inl (by rw[ab.out];exact e4)))))]));clear E G S e4;go_wp2;go_ret;exact r.out _ _ (q.out.trans ((ya _).mono q.out.size)) (by rw[H.out];first|done|rfl)
   rw[ab.out]at e4;have d4:decide ((b.size:Int)<=n)=false:=by simpa using e4
   obtain⟨D,rfl⟩:∃D:Nat,o=D:=⟨o.toNat,by omega⟩
   obtain⟨v,rfl⟩:∃v:Nat,n=v:=⟨n.toNat,by omega⟩
   have cw:D<a.size:=by omega
   have a4:v<b.size:=by omega
   have ax:=(HU.out.at a4)
   have am:=((ya (w:=wr) (.cells #[.int .i64 (D:Int),.int .i64 (v:Int)] 51)).cell (p:=⟨w'.heap.size,v,none⟩) (show w'.heap.size<wr.heap.size by have:=a2.out;have:=bi.out;omega)).trans ax;by_cases e5:(v:Int)∈f
   .have d5:decide ((v:Int)∈f)=true:=by simpa using e5
    have H:eW (Aj a.k b.k RA RB m=15):=za (C.out (by rw[F.out,HD.out,if_pos (.inr (.inr (.inr (.inr e5))))]));rw[d5]at am;clear E G S e4 e5 ax;go_wp2;go_ret;exact r.out _ _ (q.out.trans ((ya _).mono q.out.size)) (by rw[H.out];first|done|rfl)
   have d5:decide ((v:Int)∈f)=false:=by simpa using e5
   rw[d5]at am;obtain⟨x,hx⟩:∃x,RA[D]?=some x:=⟨RA[D]'(by rw[R.out];exact cw),zc _⟩
   obtain⟨y,hy⟩:∃y,RB[v]?=some y:=⟨RB[v]'(by rw[ab.out];exact a4),zc _⟩
   have ae:∀n,Below wr.heap.size wr ((wr.alloc (.cells #[.int .i64 (D:Int),.int .i64 (v:Int)] 51)).drewN n):=λn=>yk (ya _);obtain⟨bA,oA,rfl,_,_,_,_,x1,_⟩:=(aa.below (ya (.cells #[.int .i64 (D:Int),.int .i64 (v:Int)] 51))).at hx;obtain⟨bB,oB,rfl,_,_,_,_,y1,_⟩:=(U.below (ya (.cells #[.int .i64 (D:Int),.int .i64 (v:Int)] 51))).at hy;have ai:=za (show¬(D<=z\/(RA.length:Int)<=D\/(v:Int)<0\/(RB.length:Int)<=v\/(v:Int)∈f) by
    rw[R.out,ab.out];rintro(h|h|h|h|h)
    .exact E h
    .exact G h
    .exact S h
    .exact e4 h
    .exact e5 h)
   have W:eW ((RA[(D:Int).toNat]?).map An.k=some x.k/\(RB[(v:Int).toNat]?).map An.k=some y.k):=za (by rw[zbu,zbu,hx,hy];exact⟨rfl,rfl⟩);clear aa U hx hy E G S e4 e5 ax;by_cases e6:x.k=y.k
   case neg=>
    have d6:(x.k !=y.k)=true:=by simpa using e6
    have H:eW (Aj a.k b.k RA RB m=15):=za (C.out (by rw[F.out,HD.out,if_neg ai.out,if_pos (.inl (by rw[W.out.1,W.out.2];simpa using e6))]));clear e6;go_wp2;go_quiet (fail);go_wp2;go_ret;exact r.out _ _ (q.out.trans ((ae _).mono q.out.size)) (by rw[H.out];first|done|rfl)
   have d6:(x.k !=y.k)=false:=by simpa using e6
   by_cases e7:D=0↔v=0
   case neg=>
    have d7:(((D:Int)==0)=true/\((v:Int)==0)=false)\/(((D:Int)==0)=false/\((v:Int)==0)=true):=by simp only[beq_iff_eq,beq_eq_false_iff_ne];omega
    have H:eW (Aj a.k b.k RA RB m=15):=za (C.out (by rw[F.out,HD.out,if_neg ai.out,if_pos (.inr (by omega))]));clear e7;rcases d7 with⟨z1,z2⟩|⟨z1,z2⟩;all_goals
     go_wp2;go_quiet (fail);go_wp2;go_ret;exact r.out _ _ (q.out.trans ((ae _).mono q.out.size)) (by rw[H.out];first|done|rfl)
   have d7:(((D:Int)==0)=true/\((v:Int)==0)=true)\/(((D:Int)==0)=false/\((v:Int)==0)=false):=by simp only[beq_iff_eq,beq_eq_false_iff_ne];omega
   have HN:eW (FU RA RB (-1) [] m=FU RA RB D ((v:Int)::f) (m.drop (j+1))):=za (by rw[F.out,HD.out,if_neg ai.out,if_neg (by rw[W.out.1,W.out.2];rintro(h|h);exact h (by rw[e6]);omega)]);clear e7 e6 F HD ai W;rcases d7 with⟨z1,z2⟩|⟨z1,z2⟩;all_goals
    go_wp2;go_quiet (fail);go_wp2;clear x1 y1;rename_i nq;obtain⟨wx,X⟩:∃wx,wx=((wr.alloc (.cells #[.int .i64 (D:Int),.int .i64 (v:Int)] 51)).drewN nq):=⟨_,rfl⟩
    obtain⟨b0,b1⟩:wx.cell? ⟨wr.heap.size,0,none⟩=some (.int .i64 (D:Int))/\wx.cell? ⟨wr.heap.size,1,none⟩=some (.int .i64 (v:Int)):=by rw[X];exact yD (heap_alloc_new wr _)
    have ak:Ay wx w'.heap.size w'.heap.size b.size f:=by rw[X];exact HU.out.kept (row:=none) ⟨rfl,rfl,rfl,by show wr.heap.size<=(wr.alloc _).heap.size;simp,λk hk h=>(World.grownBy_alloc wr _ none).block k hk h⟩ (by simp)
    have cn:=ak.at a4;rw[d5]at cn;have c4:=iN ak v;have al:=ak.set v;have ao:=q.out.trans ((ae nq).mono q.out.size);rw[<-X]at ao⊢;have cv:w'.heap.size≠wr.heap.size:=by have:=a2.out;have:=bi.out;omega
    have bs:w8.heap.size<=wx.heap.size:=by have:=(ae nq).size;rw[<-X]at this;exact zI a2.out this
    have ay:=za al;have bt:=za ao;have ci:=za bs;clear ak al ao bs X;have i0:(0:Int)<=(v:Int):=by omega
    have i1:(v:Int)<(b.size:Int):=by omega
    go_region_held3 (λw''=>w''.cell? ⟨wr.heap.size,0,none⟩=some (.int .i64 (D:Int))/\w''.cell? ⟨wr.heap.size,1,none⟩=some (.int .i64 (v:Int))) (first
      |go_keep
      |(refine⟨?_,?_⟩<;>((first|rw[World.cell_drew]|skip);rw[cell_set_other _ (Ne.symm cv)];assumption)))
     (fail)
    go_wp2;go_roundw
    case rel=>
     refine⟨j+1,D,(v:Int)::f,by omega,rfl,by omega,HN.out,?_,?_,?_,by go_num⟩
     .exact zc1 ay.out.1
     .exact(yd bt.out ay.out.2 (λk e=>by cases e;exact zn _) bt.out.size).drew
     .have h1:=ay.out.2.size;have h2:=ci.out;exact zI h2 h1
    case measure=>simp[intOf];omega
  .obtain rfl:j=m.length:=by omega
   have Y:=F.out;rw[List.drop_length,FU]at Y;obtain⟨_,_,_,_,_,_,_,_,cf,a9⟩:=az.out;have a0:=az.out.1;have b0:=az.out.2.2.2.2.1;have dh:w.heap.size+2<=w'.heap.size:=by have:=a9.size;omega
   replace a0:=(q.out.cell (p:=⟨w.heap.size,0,none⟩) (show w.heap.size<w'.heap.size by omega)).trans a0;replace b0:=(q.out.cell (p:=⟨w.heap.size+1,0,none⟩) (show w.heap.size+1<w'.heap.size by omega)).trans b0;have b7:0<b.size:=T.size_pos b;have bd:=HU.out.at b7;have H:eW (Aj a.k b.k RA RB m=if a.k=b.k/\(0:Int)∉f then 15 else 0):=za (by unfold Aj;rw[Y]);clear Y cf a9 aa U av;by_cases E:a.k=b.k
   case neg=>
    have d1:(a.k==b.k)=false:=by simpa using E
    have V:eW (Aj a.k b.k RA RB m=0):=za (by rw[H.out,if_neg (λh=>E h.1)]);clear E;go_wp2;go_ret;exact r.out _ _ q.out (by rw[V.out];first|done|rfl)
   have d1:(a.k==b.k)=true:=by simpa using E
   by_cases G:((0:Nat):Int)∈f
   .have d2:decide (((0:Nat):Int)∈f)=true:=by simpa using G
    rw[d2]at bd;have V:eW (Aj a.k b.k RA RB m=0):=za (by rw[H.out,if_neg (λh=>h.2 G)]);clear E G d2;go_wp2;go_ret;exact r.out _ _ q.out (by rw[V.out];first|done|rfl)
   .have d2:decide (((0:Nat):Int)∈f)=false:=by simpa using G
    rw[d2]at bd;have V:eW (Aj a.k b.k RA RB m=15):=za (by rw[H.out,if_pos ⟨E,G⟩]);clear E G d2;go_wp2;go_ret;exact r.out _ _ q.out (by rw[V.out];first|done|rfl)
noncomputable def Az{α:Type}(b l r:α):α:=if l=r\/r=b then l else r
noncomputable def ND(b l r:List ByteArray)(own:Int):List ByteArray:=if((Az b l r).length:Int)=own then Az b l r else[]
theorem Cy{w:ze}{b b':Nat}{v:zg}{l:List ByteArray}(h:Cd w b' v l)(hb:b<=b'):Cd w b v l:=by
 refine⟨h.1,?_⟩;rcases h.2 with h0|⟨g,d,c,i,f,a⟩
 .exact .inl h0
 .exact .inr ⟨g,d,c,i,zI hb f,a⟩
theorem Mf(vb vl vr:zg)(b l r:List ByteArray)(own:Int)(w:ze)(hb:yI w vb b)(hl:yI w vl l)(hr:yI w vr r)(nb:b.length<=1000000)(nl:l.length<=1000000)(nr:r.length<=1000000)(h3:l=r\/r=b\/l=b):zM Tryz.prog 115 #[vb,vl,vr,.int .i64 own] w λe w'=>∃u,e=.returned u/\Cd w' w.heap.size u (ND b l r own)/\Below w.heap.size w w':=by
 have n:=za (DF vl vr l r w hl hr (by omega));have q:eW (∀w',Below w.heap.size w w'->zM Tryz.prog 147 #[vr,vb] w' λe w''=>e=.returned (.bool (decide (r=b)))/\Below w'.heap.size w' w''):=za λw' h=>DF vr vb r b w' (hr.below h) (hb.below h) (by omega);have C:eW (∀w',Below w.heap.size w w'->zM Tryz.prog 147 #[vl,vb] w' λe w''=>e=.returned (.bool (decide (l=b)))/\Below w'.heap.size w' w''):=za λw' h=>DF vl vb l b w' (hl.below h) (hb.below h) (by omega);have p:eW (∀w',Below w.heap.size w w'->zM Tryz.prog 52 #[vl] w' λe w''=>∃u,e=.returned u/\Cd w'' w'.heap.size u l/\Below w'.heap.size w' w''):=za λw' h=>Di vl l w' (hl.below h) nl;have v:eW (∀w',Below w.heap.size w w'->zM Tryz.prog 52 #[vr] w' λe w''=>∃u,e=.returned u/\Cd w'' w'.heap.size u r/\Below w'.heap.size w' w''):=za λw' h=>Di vr r w' (hr.below h) nr;obtain⟨N,I,rfl⟩:=hb.slice;obtain⟨J,M,rfl⟩:=hl.slice;obtain⟨L,H,rfl⟩:=hr.slice;clear hb hl hr nb nl nr;by_cases s:l=r
 .have k:=za (decide_eq_true s);have m:eW (ND b l r own=if(l.length:Int)=own then l else[]):=za (by
   have A:Az b l r=l:=by unfold Az;exact if_pos (Or.inl s)
   unfold ND;rw[A])
  clear s h3;by_cases j:(l.length:Int)=own
  .rw[if_pos j]at m;have d:((l.length:Int) !=own)=false:=by simpa using j
   clear j;go_enter Tryz.func115,Tryz.ntmps115;go_wp2_with (first
    |(go_at_call 147;refine n.out.mono ?_;rintro e x ⟨rfl,c⟩;rw[k.out])
    |(go_at_call 52;refine(p.out _ c).mono ?_;rintro e z ⟨u,rfl,f,i⟩;obtain⟨B,D,rfl⟩:=yq f))
   go_ret;exact⟨_,rfl,by rw[m.out];exact Cy f c.size,c.trans (i.mono c.size)⟩
  .rw[if_neg j]at m;have d:((l.length:Int) !=own)=true:=by simpa using j
   clear j;go_enter Tryz.func115,Tryz.ntmps115;go_wp2_with (first
    |(go_at_call 147;refine n.out.mono ?_;rintro e x ⟨rfl,c⟩;rw[k.out])
    |(go_at_call 52;refine(p.out _ c).mono ?_;rintro e z ⟨u,rfl,f,i⟩;obtain⟨B,D,rfl⟩:=yq f))
   go_ret;exact⟨_,rfl,by rw[m.out];exact ed _ _ _ _,c.trans (i.mono c.size)⟩
 have k:=za (decide_eq_false s);by_cases t:r=b
 .have o:=za (decide_eq_true t);have m:eW (ND b l r own=if(l.length:Int)=own then l else[]):=za (by
   have A:Az b l r=l:=by unfold Az;exact if_pos (Or.inr t)
   unfold ND;rw[A])
  clear s t h3;by_cases j:(l.length:Int)=own
  .rw[if_pos j]at m;have d:((l.length:Int) !=own)=false:=by simpa using j
   clear j;go_enter Tryz.func115,Tryz.ntmps115;go_wp2_with (first
    |(go_at_call 147;refine(q.out _ c).mono ?_;rintro e E ⟨rfl,a⟩;rw[o.out];replace a:=c.trans (a.mono c.size))
    |(go_at_call 147;refine n.out.mono ?_;rintro e x ⟨rfl,c⟩;rw[k.out])
    |(go_at_call 52;refine(p.out _ a).mono ?_;rintro e z ⟨u,rfl,f,i⟩;obtain⟨B,D,rfl⟩:=yq f))
   go_ret;exact⟨_,rfl,by rw[m.out];exact Cy f a.size,a.trans (i.mono a.size)⟩
  .rw[if_neg j]at m;have d:((l.length:Int) !=own)=true:=by simpa using j
   clear j;go_enter Tryz.func115,Tryz.ntmps115;go_wp2_with (first
    |(go_at_call 147;refine(q.out _ c).mono ?_;rintro e E ⟨rfl,a⟩;rw[o.out];replace a:=c.trans (a.mono c.size))
    |(go_at_call 147;refine n.out.mono ?_;rintro e x ⟨rfl,c⟩;rw[k.out])
    |(go_at_call 52;refine(p.out _ a).mono ?_;rintro e z ⟨u,rfl,f,i⟩;obtain⟨B,D,rfl⟩:=yq f))
   go_ret;exact⟨_,rfl,by rw[m.out];exact ed _ _ _ _,a.trans (i.mono a.size)⟩
 have o:=za (decide_eq_false t);have F:l=b:=by
  rcases h3 with h|h|h
  .exact absurd h s
  .exact absurd h t
  .exact h
 have y:=za (decide_eq_true F);have m:eW (ND b l r own=if(r.length:Int)=own then r else[]):=za (by
  have A:Az b l r=r:=by unfold Az;exact if_neg (λh=>h.elim s t)
  unfold ND;rw[A])
 clear s t F h3;by_cases j:(r.length:Int)=own
 .rw[if_pos j]at m;have d:((r.length:Int) !=own)=false:=by simpa using j
  clear j;go_enter Tryz.func115,Tryz.ntmps115;go_wp2_with (first
   |(go_at_call 147;refine(C.out _ a).mono ?_;rintro e G ⟨rfl,g⟩;rw[y.out];replace g:=a.trans (g.mono a.size))
   |(go_at_call 147;refine(q.out _ c).mono ?_;rintro e E ⟨rfl,a⟩;rw[o.out];replace a:=c.trans (a.mono c.size))
   |(go_at_call 147;refine n.out.mono ?_;rintro e x ⟨rfl,c⟩;rw[k.out])
   |(go_at_call 52;refine(v.out _ g).mono ?_;rintro e z ⟨u,rfl,f,i⟩;obtain⟨B,D,rfl⟩:=yq f))
  go_ret;exact⟨_,rfl,by rw[m.out];exact Cy f g.size,g.trans (i.mono g.size)⟩
 .rw[if_neg j]at m;have d:((r.length:Int) !=own)=true:=by simpa using j
  clear j;go_enter Tryz.func115,Tryz.ntmps115;go_wp2_with (first
   |(go_at_call 147;refine(C.out _ a).mono ?_;rintro e G ⟨rfl,g⟩;rw[y.out];replace g:=a.trans (g.mono a.size))
   |(go_at_call 147;refine(q.out _ c).mono ?_;rintro e E ⟨rfl,a⟩;rw[o.out];replace a:=c.trans (a.mono c.size))
   |(go_at_call 147;refine n.out.mono ?_;rintro e x ⟨rfl,c⟩;rw[k.out])
   |(go_at_call 52;refine(v.out _ g).mono ?_;rintro e z ⟨u,rfl,f,i⟩;obtain⟨B,D,rfl⟩:=yq f))
  go_ret;exact⟨_,rfl,by rw[m.out];exact ed _ _ _ _,g.trans (i.mono g.size)⟩
noncomputable def B7(b l r:List Int):List Int:=(Ai b).filter λx=>decide (x∈l/\x∈r)
noncomputable def CG(b l r:List Int):List Int:=(Ai (l++r)).filter λx=>decide (x∉b)
noncomputable def AP(b l r:List Int):List Int:=B7 b l r++(CG b l r).mergeSort λx y=>decide (x<=y)
theorem NY{b l r:List Int}{x:Int}:x∈AP b l r↔(x∈b/\x∈l/\x∈r)\/(x∉b/\(x∈l\/x∈r)):=by
 unfold AP B7 CG;simp only[eZ,ie,CN,decide_eq_true_eq,zcJ];constructor
 .rintro(⟨a,c⟩|⟨a,c⟩)
  .exact .inl ⟨a,c⟩
  .exact .inr ⟨c,a⟩
 .rintro(⟨a,c⟩|⟨a,c⟩)
  .exact .inl ⟨a,c⟩
  .exact .inr ⟨c,a⟩
theorem N4(b l r:List Int):(AP b l r).length<=b.length+l.length+r.length:=by unfold AP B7 CG;have c:=eL (λx=>decide (x∈l/\x∈r)) (Ai b);have d:=eL (λx=>decide (x∉b)) (Ai (l++r));have f:=Aw b;have a:=Aw (l++r);rw[zT]at a;rw[zT,List.length_mergeSort];omega
theorem II(l:List Int):∀acc:List Int,(acc++l).Nodup->l.foldl Ad acc=acc++l:=by
 induction l with
 |nil=>simp
 |cons x l ih=>
  intro acc h;have a:x∉acc:=by intro a;have:=(za4.1 h).2.2 x a x (List.mem_cons_self ..);exact this rfl
  rw[zbL,show Ad acc x=acc++[x] by unfold Ad;rw[if_neg a],ih (acc++[x]) (by simpa using h),List.append_assoc];rfl
theorem Hb{l:List Int}(h:l.Nodup):Ai l=l:=by unfold Ai;rw[II l [] (by simpa using h),List.nil_append]
theorem Je(l:List Int):∀acc:List Int,acc.Nodup->(l.foldl Ad acc).Nodup:=by
 induction l with
 |nil=>simp
 |cons x l ih=>
  intro acc h;rw[zbL];refine ih _ ?_;unfold Ad;by_cases e:x∈acc
  .rw[if_pos e];exact h
  .rw[if_neg e];exact za4.2 ⟨h,by simp,by simp;rintro a b rfl;exact e b⟩
theorem DI(l:List Int):(Ai l).Nodup:=Je l [] (by simp)
theorem Oo(b l r:List Int):(AP b l r).Nodup:=by
 unfold AP B7 CG;refine za4.2 ⟨(DI b).filter _,?_,?_⟩
 .exact((List.mergeSort_perm _ _).nodup_iff).2 ((DI _).filter _)
 .intro x c y a e;subst e;rw[ie,CN]at c;rw[zcJ,ie]at a;have:=a.2;simp only[decide_eq_true_eq]at this;exact this c.1
theorem J8{a b:List Int}(ha:a.Nodup)(hb:b.Nodup)(h:∀x,x∈a↔x∈b):a.length=b.length:=((List.perm_ext_iff_of_nodup ha hb).2 h).length_eq
noncomputable def C6(S:Int->Prop)(out:List (List Int))(x:Int):List (List Int):=if S x then out++[[]]else out.dropLast++[out.getLastD []++[x]]
noncomputable def AE(S:Int->Prop)(l:List Int):List (List Int):=l.foldl (C6 S) [[]]
theorem Q6{S:Int->Prop}{l:List Int}{j:Nat}{x:Int}(h:l[j]?=some x):AE S (l.take (j+1))=C6 S (AE S (l.take j)) x:=by unfold AE;rw[z6,h,zaQ,zc0];rfl
theorem KR(S:Int->Prop)(l:List Int)(x:Int):AE S (l++[x])=C6 S (AE S l) x:=by unfold AE;rw[zc0];rfl
theorem J9(S:Int->Prop)(out:List (List Int))(x:Int)(h:out≠[]):(C6 S out x).length=out.length+(if S x then 1 else 0):=by
 unfold C6;by_cases e:S x
 .simp[e]
 .have:0<out.length:=List.length_pos_iff.2 h;simp[e];omega
theorem Rr(S:Int->Prop)(out:List (List Int))(x:Int):C6 S out x≠[]:=by unfold C6;split<;>simp
theorem Uu(S:Int->Prop)(l:List Int):AE S l≠[]:=by
 unfold AE;have:∀(l:List Int)(acc:List (List Int)),acc≠[]->l.foldl (C6 S) acc≠[]:=by
  intro l;induction l with
  |nil=>exactλacc h=>h
  |cons x l ih=>exactλacc h=>ih _ (Rr S acc x)
 exact this l _ (by simp)
theorem PO{P:List Int->Prop}(h0:P [])(h1:∀l x,P l->P (l++[x])):∀l,P l:=by
 intro l;rw[<-List.reverse_reverse l];induction l.reverse with
 |nil=>exact h0
 |cons x l ih=>rw[List.reverse_cons];exact h1 _ _ ih
theorem BK(S:Int->Prop):∀l:List Int,(AE S l).length=(l.filter λx=>decide (S x)).length+1:=by
 refine PO rfl λl x ih=>?_;rw[KR,J9 _ _ _ (Uu S l),ih,oO,zT];by_cases e:S x
 .simp[e]
 .simp[e]
def CQ:List (List Int)->List Int->List Int
 |[],_=>[]
 |p::ps,[]=>p++CQ ps []
 |p::ps,x::o=>p++x::CQ ps o
theorem KJ:∀(ps:List (List Int))(o:List Int)(x:Int)(q:List Int),ps.length=o.length+1->CQ (ps++[q]) (o++[x])=CQ ps o++[x]++q
 |[],o,x,q,h=>by simp at h
 |[p],[],x,q,_=>by simp[CQ]
 |[p],y::o,x,q,h=>by simp at h
 |p::p'::ps,[],x,q,h=>by simp at h
 |p::p'::ps,y::o,x,q,h=>by have:=KJ (p'::ps) o x q (by simpa using h);show CQ (p::(p'::ps++[q])) (y::(o++[x]))=_;rw[CQ,this,CQ];simp
theorem Km:∀(ps:List (List Int))(o:List Int)(x:Int),ps.length=o.length+1->CQ (ps.dropLast++[ps.getLastD []++[x]]) o=CQ ps o++[x]
 |[],o,x,h=>by simp at h
 |[p],[],x,_=>by simp[CQ]
 |[p],y::o,x,h=>by simp at h
 |p::p'::ps,[],x,h=>by simp at h
 |p::p'::ps,y::o,x,h=>by
  have:=Km (p'::ps) o x (by simpa using h);rw[List.dropLast_cons₂,List.cons_append,CQ,CQ];have e:(p::p'::ps).getLastD []=(p'::ps).getLastD []:=by simp[List.getLastD]
  rw[e,this];simp
theorem Ko(S:Int->Prop):∀l:List Int,CQ (AE S l) (l.filter λx=>decide (S x))=l:=by
 refine PO rfl λl x ih=>?_;have a:=BK S l;rw[KR,oO];unfold C6;by_cases e:S x
 .rw[if_pos e];have:[x].filter (λx=>decide (S x))=[x]:=by simp[e]
  rw[this,KJ _ _ _ _ a,ih,iW]
 .rw[if_neg e];have:[x].filter (λx=>decide (S x))=[]:=by simp[e]
  rw[this,iW,Km _ _ _ a,ih]
def Cb(ps:List (List Int))(o:List Int)(k:Nat):List Int:=(ev k).flatMap λi=>ps[i]?.getD []++o[i]?.toList
theorem Pu(ps:List (List Int))(o:List Int)(k:Nat):Cb ps o (k+1)=Cb ps o k++(ps[k]?.getD []++o[k]?.toList):=by unfold Cb;rw[List.range_succ,List.flatMap_append];simp
theorem Jo(p:List Int)(ps:List (List Int))(o:List Int)(k:Nat):Cb (p::ps) o (k+1)=p++o.head?.toList++Cb ps o.tail k:=by
 unfold Cb;rw[List.range_succ_eq_map,List.flatMap_cons,List.flatMap_map];have e:∀i:Nat,o[i+1]?=o.tail[i]?:=by intro i;cases o<;>simp
 have a:o[0]?=o.head?:=by cases o<;>simp
 simp only[Nat.succ_eq_add_one,List.getElem?_cons_succ,List.getElem?_cons_zero,Option.getD_some,e,a]
theorem G7:∀(ps:List (List Int))(o:List Int),o.length<=ps.length->Cb ps o ps.length=CQ ps o
 |[],o,_=>by simp[Cb,CQ]
 |p::ps,[],_=>by rw[lN,Jo,CQ,<-G7 ps [] (by simp)];simp
 |p::ps,x::o,h=>by rw[lN,Jo,CQ,<-G7 ps o (by simpa using h)];simp
end Go.Proofs
