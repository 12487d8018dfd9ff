/-
  Part of the proof: Trees in memory.
-/
import Derived.Test.YtpdlpdkehminlaaGreatDoorProg
import Derived.WalkKit
import Derived.Below
import Derived.Outline
import Derived.Lib.Hide
import Derived.WalkLawsBesides
import Derived.BigQuiet
import Derived.Deep.QuietTactic
import Derived.IntWalk
import Derived.OwnWalk
import Derived.WalkSpells
import Derived.StillTactics
import Derived.Deep.RegionHeld
import Derived.Deep.RegionHeld3
import Derived.StillTailTactics
import Derived.Laws.OwnMore
import Derived.Laws.MakeOwn
import Derived.Deep.AppendLies
import Derived.Maps.OwnSet
import Derived.Maps.Views
import Derived.Maps.RangeWalk
import Derived.Carry
set_option linter.all false
set_option maxRecDepth 100000
set_option maxHeartbeats 20000000
open Bool renaming eq_iff_iff->iy
open ByteArray renaming size_append->zaj
open Go renaming Calls->zM,DataW->l7,MemPlace->oN,TypeId->zL,Value->zg,World->ze
open Go.ByteArray renaming toList_eq->iQ
open Go.Calls renaming quiet_of_same->lT
open Go.ChangeMaps renaming setBlock->zbI
open Go.Ending renaming returned->zas
open Go.Instr renaming lookup->ec
open Go.Lib renaming hid->za
open Go.MapKept renaming heap_alloc->eN
open Go.Maps renaming keyOf_int_mk->zcT
open Go.RowKit.Below renaming refl->zt
open Go.WideAt renaming IsKeyLit->zcS
open Go.World renaming cell?->zS
open Int renaming max_def->zcu
open List renaming drop_eq_getElem_cons->oG,drop_length->zdb,getElem?_eq_getElem->zc,getElem?_eq_some_iff->zm,mem_of_getElem?->zq,sizeOf_lt_of_mem->zcc,take_add_one->z6,take_append_drop->oz,take_length->zY
open Nat renaming le_refl->zn,lt_of_lt_of_le->ez
open SizeOf renaming sizeOf->zdj
namespace Go.Proofs
open Go.RowKit
open Classical
theorem ya{w:ze}(o:Obj):Below w.heap.size w (w.alloc o):=(zt _ _).alloc (zn _) _
theorem yk{b n:Nat}{w wr:ze}(h:Below b w wr):Below b w (wr.drewN n):=⟨h.os,h.tape,h.output,h.size,λk hk=>h.block k hk⟩
theorem Wb{a b:ByteArray}(h:a=b):zas (.string a)=.returned (.string b):=by rw[h]
theorem yA{a b:Bool}(h:a=b):zas (.bool a)=.returned (.bool b):=by rw[h]
theorem Ck{a b:Int}(h:a=b):zas (.int .i64 a)=.returned (.int .i64 b):=by rw[h]
theorem Vt{a b:ByteArray}(h:a.data.toList=b.data.toList):a=b:=ByteArray.ext (Array.ext' h)
theorem CU(x y:ByteArray):(x.toList==y.toList)=decide (x=y):=by rw[iy,beq_iff_eq,decide_eq_true_eq,iQ,iQ];exact⟨Vt,λh=>by rw[h]⟩
def yI(w:ze)(v:zg)(l:List ByteArray):Prop:=((∃p c,v=.slice p 0 c)/\l=[])\/∃b off cap,v=.slice (some ⟨b,off,none⟩) l.length cap/\l.length<=cap/\b<w.heap.size/\∀i(s:ByteArray),l[i]?=some s->w.cell? ⟨b,off+i,none⟩=some (.string s)
theorem yI.below{w wr:ze}{v:zg}{l:List ByteArray}(h:yI w v l)(hb:Below w.heap.size w wr):yI wr v l:=by
 rcases h with h|⟨b,c,f,g,a,d,j⟩
 .exact .inl h
 .exact .inr ⟨b,c,f,g,a,ez d hb.size,λi p hp=>(hb.cell (p:=⟨b,c+i,none⟩) d).trans (j i p hp)⟩
theorem yI.slice{w:ze}{v:zg}{l:List ByteArray}(h:yI w v l):∃p c,v=.slice p l.length c:=by
 rcases h with⟨⟨p,c,rfl⟩,rfl⟩|⟨b,d,a,rfl,_⟩
 .exact⟨p,c,rfl⟩
 .exact⟨_,_,rfl⟩
theorem yI.at{w:ze}{p:Option Addr}{n c:Nat}{l:List ByteArray}(h:yI w (.slice p n c) l){i:Nat}{s:ByteArray}(hi:l[i]?=some s):∃b off,p=some ⟨b,off,none⟩/\b<w.heap.size/\w.cell? ⟨b,off+i,none⟩=some (.string s):=by
 rcases h with⟨_,rfl⟩|⟨b,off,f,e,_,a,d⟩
 .simp at hi
 .cases e;exact⟨b,off,rfl,a,d i s hi⟩
inductive T where
 |mk (k:Int) (s:ByteArray) (g:List ByteArray) (ks:List T)
def T.k:T->Int|.mk k _ _ _=>k
def T.s:T->ByteArray|.mk _ s _ _=>s
def T.g:T->List ByteArray|.mk _ _ g _=>g
def T.ks:T->List T|.mk _ _ _ ks=>ks
theorem T.ind{P:T->Prop}(h:∀k s g ks,(∀t∈ks,P t)->P (.mk k s g ks)):∀t,P t
 |.mk k s g ks=>h k s g ks λt _=>T.ind h t
mutual
def T.size:T->Nat
 |.mk _ _ _ ks=>1+T.sizes ks
def T.sizes:List T->Nat
 |[]=>0
 |t::ts=>t.size+T.sizes ts
end
mutual
def T.tall:T->Nat
 |.mk _ _ _ ks=>1+T.talls ks
def T.talls:List T->Nat
 |[]=>0
 |t::ts=>max t.tall (T.talls ts)
end
theorem T.sizes_append(a b:List T):T.sizes (a++b)=T.sizes a+T.sizes b:=by
 induction a with
 |nil=>simp[T.sizes]
 |cons t a ih=>simp[T.sizes,ih]<;>omega
theorem T.talls_append(a b:List T):T.talls (a++b)=max (T.talls a) (T.talls b):=by
 induction a with
 |nil=>simp[T.talls]
 |cons t a ih=>simp[T.talls,ih]<;>omega
theorem T.sizes_take{l:List T}{j:Nat}{t:T}(h:l[j]?=some t):T.sizes (l.take (j+1))=T.sizes (l.take j)+t.size:=by rw[z6,h,T.sizes_append];simp[T.sizes]
theorem T.talls_take{l:List T}{j:Nat}{t:T}(h:l[j]?=some t):T.talls (l.take (j+1))=max (T.talls (l.take j)) t.tall:=by rw[z6,h,T.talls_append];simp[T.talls]
theorem T.size_pos(t:T):0<t.size:=by cases t;rw[T.size];omega
theorem T.length_sizes(l:List T):l.length<=T.sizes l:=by
 induction l with
 |nil=>simp[T.sizes]
 |cons t l ih=>have:=T.size_pos t;simp[T.sizes];omega
def T.Lies(w:ze):T->zg->zg->Prop
 |.mk _ _ g ks,gv,kv=>yI w gv g/\(((∃p c,kv=.slice p 0 c)/\ks=[])\/∃b off cap,kv=.slice (some ⟨b,off,none⟩) ks.length cap/\b<w.heap.size/\∀i(h:i<ks.length),∃gv' kv',w.cell? ⟨b,off+i*4,none⟩=some (.int .i64 ks[i].k)/\w.cell? ⟨b,off+i*4+1,none⟩=some (.string ks[i].s)/\w.cell? ⟨b,off+i*4+2,none⟩=some gv'/\w.cell? ⟨b,off+i*4+3,none⟩=some kv'/\T.Lies w ks[i] gv' kv')
termination_by t=>zdj t
decreasing_by
 have:=zcc (List.getElem_mem h);simp only[T.mk.sizeOf_spec];omega
def Hu(w:ze)(b o:Nat)(t:T):Prop:=∃gv kv,w.cell? ⟨b,o,none⟩=some (.int .i64 t.k)/\w.cell? ⟨b,o+1,none⟩=some (.string t.s)/\w.cell? ⟨b,o+2,none⟩=some gv/\w.cell? ⟨b,o+3,none⟩=some kv/\t.Lies w gv kv
def Bq(w:ze)(v:zg)(l:List T):Prop:=((∃p c,v=.slice p 0 c)/\l=[])\/∃b off cap,v=.slice (some ⟨b,off,none⟩) l.length cap/\b<w.heap.size/\∀i(t:T),l[i]?=some t->Hu w b (off+i*4) t
theorem T.lies_iff{w:ze}{k:Int}{s:ByteArray}{g:List ByteArray}{ks:List T}{gv kv:zg}:(T.mk k s g ks).Lies w gv kv↔yI w gv g/\Bq w kv ks:=by
 unfold T.Lies Bq Hu;refine and_congr_right λ_=>or_congr_right ?_;refine exists_congr λb=>exists_congr λoff=>exists_congr λcap=>and_congr_right λ_=>and_congr_right λ_=>?_;constructor
 .intro h i t c;obtain⟨a,rfl⟩:=zm.1 c;exact h i a
 .intro h i a;exact h i _ (zc a)
theorem T.Lies.gaps{w:ze}{t:T}{gv kv:zg}(h:t.Lies w gv kv):yI w gv t.g:=by cases t;exact(T.lies_iff.1 h).1
theorem T.Lies.kids{w:ze}{t:T}{gv kv:zg}(h:t.Lies w gv kv):Bq w kv t.ks:=by cases t;exact(T.lies_iff.1 h).2
theorem Bq.slice{w:ze}{v:zg}{l:List T}(h:Bq w v l):∃p c,v=.slice p l.length c:=by
 rcases h with⟨⟨p,c,rfl⟩,rfl⟩|⟨b,d,a,rfl,_⟩
 .exact⟨p,c,rfl⟩
 .exact⟨_,_,rfl⟩
theorem Bq.at{w:ze}{p:Option Addr}{n c:Nat}{l:List T}(h:Bq w (.slice p n c) l){i:Nat}{t:T}(hi:l[i]?=some t):∃b off,p=some ⟨b,off,none⟩/\b<w.heap.size/\Hu w b (off+i*4) t:=by
 rcases h with⟨_,rfl⟩|⟨b,off,f,e,a,d⟩
 .simp at hi
 .cases e;exact⟨b,off,rfl,a,d i t hi⟩
theorem T.Lies.below{w wr:ze}(hb:Below w.heap.size w wr):∀(t:T){gv kv:zg},t.Lies w gv kv->t.Lies wr gv kv:=by
 refine T.ind λk s g ks ih gv kv h=>?_;obtain⟨m,d⟩:=T.lies_iff.1 h;refine T.lies_iff.2 ⟨m.below hb,?_⟩;rcases d with d|⟨b,f,j,e,a,v⟩
 .exact .inl d
 .refine .inr ⟨b,f,j,e,ez a hb.size,λi t ht=>?_⟩;obtain⟨c,l,q,o,r,x,n⟩:=v i t ht;exact⟨c,l,(hb.cell (p:=⟨b,_,none⟩) a).trans q,(hb.cell (p:=⟨b,_,none⟩) a).trans o,(hb.cell (p:=⟨b,_,none⟩) a).trans r,(hb.cell (p:=⟨b,_,none⟩) a).trans x,ih t (zq ht) n⟩
theorem Hu.below{w wr:ze}{b o:Nat}{t:T}(h:Hu w b o t)(hb:Below w.heap.size w wr)(hlt:b<w.heap.size):Hu wr b o t:=by obtain⟨a,c,g,f,i,j,d⟩:=h;exact⟨a,c,(hb.cell (p:=⟨b,_,none⟩) hlt).trans g,(hb.cell (p:=⟨b,_,none⟩) hlt).trans f,(hb.cell (p:=⟨b,_,none⟩) hlt).trans i,(hb.cell (p:=⟨b,_,none⟩) hlt).trans j,T.Lies.below hb t d⟩
theorem Bq.below{w wr:ze}{v:zg}{l:List T}(h:Bq w v l)(hb:Below w.heap.size w wr):Bq wr v l:=by
 rcases h with h|⟨b,c,d,f,a,g⟩
 .exact .inl h
 .exact .inr ⟨b,c,d,f,ez a hb.size,λi t hi=>(g i t hi).below hb a⟩
def T.Fine:T->Prop
 |.mk _ s g ks=>s.size<=9223372036854775807/\g.length<=9223372036854775807/\(∀x∈g,x.size<=9223372036854775807)/\ks.length<=9223372036854775807/\∀t,(h:t∈ks)->T.Fine t
termination_by t=>zdj t
decreasing_by
 have:=zcc h;simp only[T.mk.sizeOf_spec];omega
theorem T.fine_iff{k:Int}{s:ByteArray}{g:List ByteArray}{ks:List T}:(T.mk k s g ks).Fine↔s.size<=9223372036854775807/\g.length<=9223372036854775807/\(∀x∈g,x.size<=9223372036854775807)/\ks.length<=9223372036854775807/\∀t∈ks,t.Fine:=by rw[T.Fine]
abbrev yJ(k:Int)(s:ByteArray)(gv kv:zg):zg:=.agg #[.int .i64 k,.string s,gv,kv]
theorem Rx:∀(t:T)(gv kv:zg)(w:ze)(nodes levels:Int),t.Lies w gv kv->0<=nodes->nodes<=60->0<=levels->levels<=16->
  zM Tryz.prog 15 #[yJ t.k t.s gv kv,.int .i64 nodes,.int .i64 levels] w λe w'=>∃r:Int,e=.returned (.int .i64 r)/\-1<=r/\r<=nodes-1/\(0<=r->r=nodes-t.size/\t.tall<=levels)/\Below w.heap.size w w':=by
 refine T.ind λk s g ks ih gv kv w nodes levels hl h0 h60 hl0 h16=>?_
 obtain⟨Y,R⟩:=T.lies_iff.1 hl
 obtain⟨p,c,rfl⟩:=R.slice
 simp only[T.k,T.s]
 have q:=ya (w:=w) (.cells #[.int .i64 k,.string s,gv,.slice p ks.length c] 25)
 have C:=R.below q
 have V:=(eN w (.cells #[.int .i64 k,.string s,gv,.slice p ks.length c] 25)).1
 have v:(w.alloc (.cells #[.int .i64 k,.string s,gv,.slice p ks.length c] 25)).cell? ⟨w.heap.size,3,none⟩=some (.slice p ks.length c):=by simp only[zS,V];rfl
 have D:(w.alloc (.cells #[.int .i64 k,.string s,gv,.slice p ks.length c] 25)).heap.size=w.heap.size+1:=by simp
 have F:=za q
 have U:=za C
 have J:=za v
 have z:=za D
 clear Y R hl q C V v D
 go_enter Tryz.func15,Tryz.ntmps15
 by_cases l:levels=0
 .subst l
  go_wp2
  go_ret
  exact⟨-1,rfl,by omega,by omega,by omega,F.out⟩
 .have H:(levels==0)=false:=by simpa using l
  go_wp2
  try rw[H]
  go_loopw [1,7] (λn i w'=>∃j:Nat,j<=ks.length/\∃r:Int,n=.int .i64 r/\-1<=r/\r<=nodes-1/\(0<=r->r=nodes-1-T.sizes (ks.take j)/\T.talls (ks.take j)<=levels-1)/\i=.int .i64 j/\
   Below (w.heap.size+1) (w.alloc (.cells #[.int .i64 k,.string s,gv,.slice p ks.length c] 25)) w') (λ_ i _=>ks.length-(intOf i).toNat)
  case atStart=>exact⟨0,by omega,nodes-1,by go_num,by omega,by omega,λ_=>⟨by simp[T.sizes],by simp[T.talls];omega⟩,rfl,zt _ _⟩
  case round=>
   rename_i wr hrel
   obtain⟨j,hj,r,rfl,I,N,E,rfl,a⟩:=hrel
   have o:=U.out.below (by rw[z.out];exact a)
   have ac:=(a.cell (p:=⟨w.heap.size,3,none⟩) (by simp)).trans J.out
   have P:=za a
   have m:=za E
   clear a E
   by_cases S:j<ks.length/\0<=r
   .obtain⟨B,y⟩:=S
    obtain⟨t,A⟩:∃t,ks[j]?=some t:=⟨ks[j],zc B⟩
    obtain⟨b,Z,rfl,hb,Q,L,c0,c1,c2,c3,x⟩:=o.at A
    have W:j<=60:=by
     have h1:=(m.out y).1
     have h2:=T.length_sizes (ks.take j)
     rw[List.length_take]at h2
     omega
    have M:=za (T.sizes_take A)
    have O:=za (T.talls_take A)
    have HI:=za (ih t (zq A) Q L wr r (levels-1) x (by omega) (by omega) (by omega) (by omega))
    clear o A ih x
    go_wp2_with (first|(go_at_call 15;refine HI.out.mono ?_;rintro e w' ⟨r',rfl,g1,g2,g3,G⟩))
    go_roundw
    case rel=>
     refine⟨j+1,by omega,r',rfl,by omega,by omega,λh=>?_,by go_num,P.out.trans (G.mono (by have:=P.out.size;rw[z.out]at this;exact this))⟩
     have:=m.out y
     have:=g3 h
     rw[M.out,O.out]
     omega
    case measure=>simp[intOf];omega
   .have X:¬0<=r\/j=ks.length:=by omega
    have f:-1<=r/\r<=nodes-1/\(0<=r->r=nodes-(T.mk k s g ks).size/\(T.mk k s g ks).tall<=levels)/\Below w.heap.size w wr:=by
     refine⟨I,N,λh=>?_,F.out.trans (P.out.mono (by omega))⟩
     obtain rfl:j=ks.length:=by omega
     have:=m.out h
     rw[zY]at this
     rw[T.size,T.tall]
     omega
    have d:=za f
    clear f o
    by_cases B:j<ks.length
    .go_wp2
     go_ret
     exact⟨r,rfl,d.out⟩
    .go_wp2
     go_ret
     exact⟨r,rfl,d.out⟩
theorem IX(t:T)(gv kv:zg)(w:ze)(hl:t.Lies w gv kv):zM Tryz.prog 6 #[yJ t.k t.s gv kv] w λe w'=>∃b:Bool,e=.returned (.bool b)/\(b=true->t.size<=60/\t.tall<=16)/\Below w.heap.size w w':=by
 have a:=ya (w:=w) (.cells #[.int .i64 t.k,.string t.s,gv,kv] 25);have c:=za a;have f:=za (Rx t gv kv (w.alloc (.cells #[.int .i64 t.k,.string t.s,gv,kv] 25)) 60 16 (T.Lies.below a t hl) (by omega) (by omega) (by omega) (by omega));clear a hl;go_enter Tryz.func6,Tryz.ntmps6;go_wp2_with (first|(go_at_call 15;refine f.out.mono ?_;rintro e w' ⟨r,rfl,j,l,g,d⟩));go_ret;refine⟨_,rfl,λh=>?_,c.out.trans (d.mono c.out.size)⟩;have i:0<=r:=by simpa using h
 have:=g i;omega
theorem OB:∀(t:T)(gv kv:zg)(w:ze),t.Lies w gv kv->t.size<=60->zM Tryz.prog 39 #[yJ t.k t.s gv kv] w λe w'=>e=.returned (.int .i64 t.size)/\Below w.heap.size w w':=by
 refine T.ind λk s g ks ih gv kv w hl h60=>?_;obtain⟨N,F⟩:=T.lies_iff.1 hl;obtain⟨p,c,rfl⟩:=F.slice;simp only[T.k,T.s];rw[T.size]at h60⊢;have Z:=T.length_sizes ks;have f:=ya (w:=w) (.cells #[.int .i64 k,.string s,gv,.slice p ks.length c] 25);have o:=F.below f;have G:=(eN w (.cells #[.int .i64 k,.string s,gv,.slice p ks.length c] 25)).1;have D:(w.alloc (.cells #[.int .i64 k,.string s,gv,.slice p ks.length c] 25)).cell? ⟨w.heap.size,3,none⟩=some (.slice p ks.length c):=by simp only[zS,G];rfl
 have r:(w.alloc (.cells #[.int .i64 k,.string s,gv,.slice p ks.length c] 25)).heap.size=w.heap.size+1:=by simp
 have z:=za f;have E:=za o;have m:=za r;clear N F hl f o G r;go_enter Tryz.func39,Tryz.ntmps39;go_wp2;clear D;go_loopw [3,9] (λn i w'=>∃j:Nat,j<=ks.length/\n=.int .i64 (1+T.sizes (ks.take j):Nat)/\i=.int .i64 j/\Below (w.heap.size+1) (w.alloc (.cells #[.int .i64 k,.string s,gv,.slice p ks.length c] 25)) w') (λ_ i _=>ks.length-(intOf i).toNat)
 case atStart=>exact⟨0,by omega,by simp[T.sizes],rfl,zt _ _⟩
 case round=>
  rename_i wr hrel;obtain⟨j,U,rfl,rfl,a⟩:=hrel;have l:=E.out.below (by rw[m.out];exact a);have C:=za a;clear a;by_cases B:j<ks.length
  .obtain⟨t,v⟩:∃t,ks[j]?=some t:=⟨ks[j],zc B⟩
   have A:=T.sizes_take v;have M:T.sizes (ks.take (j+1))<=T.sizes ks:=by have:=T.sizes_append (ks.take (j+1)) (ks.drop (j+1));rw[oz]at this;omega
   obtain⟨b,O,rfl,W,R,Q,S,Y,V,X,d⟩:=l.at v;obtain⟨L,H,rfl⟩:=d.gaps.slice;obtain⟨J,I,rfl⟩:=d.kids.slice;have h:=ya (w:=wr) (.cells #[.int .i64 t.k,.string t.s,.slice L t.g.length H,.slice J t.ks.length I] 25);have P:=za (ih t (zq v) _ _ (wr.alloc (.cells #[.int .i64 t.k,.string t.s,.slice L t.g.length H,.slice J t.ks.length I] 25)) (T.Lies.below h t d) (by omega));have q:=za h;clear l v ih d h;go_wp2_with (first|(go_at_call 39;refine P.out.mono ?_;rintro e w' ⟨rfl,x⟩));have y:w.heap.size+1<=wr.heap.size:=by have:=C.out.size;rw[m.out]at this;exact this
   go_roundw
   case rel=>exact⟨j+1,by omega,by rw[A];go_num,by go_num,C.out.trans ((q.out.trans (x.mono q.out.size)).mono y)⟩
   case measure=>simp[intOf];omega
  .obtain rfl:j=ks.length:=by omega
   rw[zY];go_wp2;go_ret;exact⟨rfl,z.out.trans (C.out.mono (by omega))⟩
mutual
def T.gapped:T->ByteArray
 |.mk _ _ g ks=>(if g.length=0 then⟨#[48]⟩else⟨#[49]⟩)++T.gappedL ks
def T.gappedL:List T->ByteArray
 |[]=>.empty
 |t::ts=>t.gapped++T.gappedL ts
end
theorem EA(a b c:ByteArray):a++b++c=a++(b++c):=ByteArray.append_assoc
theorem T.gappedL_append:∀(a b:List T),T.gappedL (a++b)=T.gappedL a++T.gappedL b
 |[],b=>by simp[T.gappedL]
 |t::a,b=>by rw[List.cons_append,T.gappedL,T.gappedL,T.gappedL_append a b,EA]
theorem T.gappedL_take{ks:List T}{j:Nat}{t:T}(h:ks[j]?=some t):T.gappedL (ks.take (j+1))=T.gappedL (ks.take j)++t.gapped:=by rw[z6,h,T.gappedL_append];simp[T.gappedL]
mutual
theorem T.size_gapped:∀t:T,t.gapped.size=t.size
 |.mk _ _ g ks=>by rw[T.gapped,T.size,zaj,T.size_gappedL];split<;>rfl
theorem T.size_gappedL:∀ts:List T,(T.gappedL ts).size=T.sizes ts
 |[]=>by simp[T.gappedL,T.sizes]
 |t::ts=>by rw[T.gappedL,T.sizes,zaj,T.size_gapped,T.size_gappedL]
end
theorem NU:∀(t:T)(gv kv:zg)(w:ze),t.Lies w gv kv->t.size<=300->zM Tryz.prog 137 #[yJ t.k t.s gv kv] w λe w'=>e=.returned (.string t.gapped)/\Below w.heap.size w w':=by
 refine T.ind λk s g ks ih gv kv w hl h60=>?_;obtain⟨R,Q⟩:=T.lies_iff.1 hl;obtain⟨p,c,rfl⟩:=Q.slice;obtain⟨n,h,rfl⟩:=R.slice;simp only[T.k,T.s];rw[T.size]at h60;have hn:=T.length_sizes ks;have l:=ya (w:=w) (.cells #[.int .i64 k,.string s,.slice n g.length h,.slice p ks.length c] 25);have C:=Q.below l;have I:=(eN w (.cells #[.int .i64 k,.string s,.slice n g.length h,.slice p ks.length c] 25)).1;have J:(w.alloc (.cells #[.int .i64 k,.string s,.slice n g.length h,.slice p ks.length c] 25)).cell? ⟨w.heap.size,2,none⟩=some (.slice n g.length h):=by simp only[zS,I];rfl
 have O:(w.alloc (.cells #[.int .i64 k,.string s,.slice n g.length h,.slice p ks.length c] 25)).cell? ⟨w.heap.size,3,none⟩=some (.slice p ks.length c):=by simp only[zS,I];rfl
 have G:(w.alloc (.cells #[.int .i64 k,.string s,.slice n g.length h,.slice p ks.length c] 25)).heap.size=w.heap.size+1:=by simp
 have M:=za l;have P:=za C;have z:=za G;obtain⟨d,v⟩:∃d:ByteArray,d=(if g.length=0 then⟨#[48]⟩else⟨#[49]⟩):=⟨_,rfl⟩
 have HG:Hid (T.gapped (.mk k s g ks)=d++T.gappedL ks/\d.size=1):=za ⟨by rw[T.gapped,v],by rw[v];split<;>rfl⟩;have hq:(decide (0<g.length)=false/\Hid (d=⟨#[48]⟩))\/(decide (0<g.length)=true/\Hid (d=⟨#[49]⟩)):=by
  by_cases S:g.length=0
  .exact .inl ⟨by rw[decide_eq_false_iff_not];omega,za (by rw[v,if_pos S])⟩
  .exact .inr ⟨by rw[decide_eq_true_iff];omega,za (by rw[v,if_neg S])⟩
 rw[HG.out.1];have aa:=za T.size_gappedL;clear R Q hl l C I G v;rcases hq with⟨q,e⟩|⟨q,e⟩;all_goals
  go_enter Tryz.func137,Tryz.ntmps137;go_wp2;clear J O q;go_loopw [3,13] (λu i w'=>∃j:Nat,j<=ks.length/\(∃r:ByteArray,u=.string r/\r.size=1+T.sizes (ks.take j)/\r=d++T.gappedL (ks.take j))/\i=.int .i64 j/\Below (w.heap.size+1) (w.alloc (.cells #[.int .i64 k,.string s,.slice n g.length h,.slice p ks.length c] 25)) w') (λ_ i _=>ks.length-(intOf i).toNat)
  case atStart=>exact⟨0,by omega,⟨_,rfl,rfl,by rw[e.out];rfl⟩,rfl,zt _ _⟩
  case round=>
   rename_i wr hrel;obtain⟨j,hj,⟨r,rfl,af,V⟩,rfl,a⟩:=hrel;have x:=P.out.below (by rw[z.out];exact a);have L:w.heap.size+1<=wr.heap.size:=by have:=a.size;rw[z.out]at this;exact this
   have W:=za a;have U:=za V;clear a V;by_cases N:j<ks.length
   .obtain⟨t,A⟩:∃t,ks[j]?=some t:=⟨ks[j],zc N⟩
    have ae:=T.sizes_take A;have X:T.sizes (ks.take (j+1))<=T.sizes ks:=by have:=T.sizes_append (ks.take (j+1)) (ks.drop (j+1));rw[oz]at this;omega
    obtain⟨b,Y,rfl,hb,ah,ab,c0,c1,c2,c3,f⟩:=x.at A;obtain⟨B,E,rfl⟩:=f.gaps.slice;obtain⟨o,F,rfl⟩:=f.kids.slice;have m:=ya (w:=wr) (.cells #[.int .i64 t.k,.string t.s,.slice B t.g.length E,.slice o t.ks.length F] 25);have Z:=za (ih t (zq A) _ _ (wr.alloc (.cells #[.int .i64 t.k,.string t.s,.slice B t.g.length E,.slice o t.ks.length F] 25)) (T.Lies.below m t f) (by omega));have D:=za m;have ac:=T.size_gapped t;have HL:=za (T.gappedL_take A);clear x A ih f m;generalize T.gapped t=y at*;go_wp2_with (first|(go_at_call 137;refine Z.out.mono ?_;rintro e w' ⟨rfl,H⟩));go_roundw
    case rel=>exact⟨j+1,by omega,⟨_,rfl,by rw[zaj];omega,by rw[HL.out,U.out,EA]⟩,by go_num,W.out.trans ((D.out.trans (H.mono D.out.size)).mono L)⟩
    case measure=>simp[intOf];omega
   .obtain rfl:j=ks.length:=by omega
    go_wp2;go_ret;exact⟨Wb (by rw[U.out,zY]),M.out.trans (W.out.mono (by omega))⟩
open Go.RowKit Go.Maps Go.MapKept Go.WideShapes
abbrev Vw:zL:=3
theorem Vg:Keyed Tryz.prog Vw:=int_keyed Tryz.underlying3
def VA(v:zg):Option (l7 zg×List oN):=some (.held v,[])
def yw(i:Int):Prop:=(Lit.int .i64 i).wf=true
theorem Bg{i:Int}(h0:-9223372036854775808<=i)(h1:i<=9223372036854775807):yw i:=WalkArith.wf_i64 ⟨h0,h1⟩
def Ae(w:ze)(b n:Nat)(f:Int->Option zg):Prop:=∃D:l7 zg,w.ownsMap Tryz.prog Vw VA b n D/\IsMap D/\∀i,has D (.int .i64 i)=(f i).isSome/\∀z,D.atKey (.int .i64 i) (.held z)=.held ((f i).getD z)
def upd(f:Int->Option zg)(k:Int)(v:zg):Int->Option zg:=λi=>if i=k then some v else f i
theorem B6(w:ze):Ae (w.alloc (.map #[] 0)) w.heap.size 0 λ_=>none:=⟨_,World.ownsMap_made w Tryz.prog _ _,isMap_empty,λ_=>⟨rfl,λ_=>rfl⟩⟩
theorem Ae.lt{w:ze}{b n:Nat}{f:Int->Option zg}(h:Ae w b n f):b<w.heap.size:=h.elim λ_ h=>h.1.lt
theorem Ae.mono{w:ze}{b n n':Nat}{f:Int->Option zg}(h:Ae w b n f)(hn:n<=n'):Ae w b n' f:=h.elim λD h=>⟨D,h.1.mono hn,h.2⟩
theorem K7{H:Type}{w w':ze}{P:Program}{k:zL}{R:zg->Option (l7 H×List oN)}{b n:Nat}{D:l7 H}(h:w.ownsMap P k R b n D)(e:w'.heap[b]?=w.heap[b]?):w'.ownsMap P k R b n D:=by obtain⟨a,c,d,r⟩:=h;exact⟨a,c,e.trans d,r⟩
theorem Ae.block{w w':ze}{b n:Nat}{f:Int->Option zg}(h:Ae w b n f)(e:w'.heap[b]?=w.heap[b]?):Ae w' b n f:=by obtain⟨D,a,c⟩:=h;exact⟨D,K7 a e,c⟩
theorem Ae.below{w w':ze}{b n B:Nat}{f:Int->Option zg}(h:Ae w b n f)(hb:Below B w w')(hB:b<B):Ae w' b n f:=h.block (hb.block b hB)
theorem Ae.congr{w:ze}{b n:Nat}{f g:Int->Option zg}(h:Ae w b n f)(e:∀i,f i=g i):Ae w b n g:=by obtain⟨D,a,c,d⟩:=h;exact⟨D,a,c,λi=>by rw[<-e i];exact d i⟩
theorem PQ(i:Int):zcS (.int .i64 i):=by simp[zcS]
theorem Lj{v:zg}{x:zg}{ps:List oN}(h:VA v=some (.held x,ps)):v=x:=by simp[VA]at h;exact h.1
section
variable{w:ze} {b n:Nat} {t e:zL} {f:Int->Option zg}
theorem Ae.look(h:Ae w b n f)(ht:Tryz.prog.underlying t=some (.map Vw e)){z:zg}(hz:(zeroValue e).run Tryz.prog w=.ok z w)(i:Int)(hi:yw i):(ec t (.map (some b)) (.int .i64 i) false).run Tryz.prog w=.ok ((f i).getD z) w:=by obtain⟨D,d,j,g⟩:=h;obtain⟨v,k,a,c⟩:=d.lookup Vg ht hz (zd:=.held z) (zp:=[]) rfl (zcT Tryz.underlying3 hi);rw[a];rw[(g i).2 z]at c;rw[Lj c]
theorem Ae.look_ok(h:Ae w b n f)(ht:Tryz.prog.underlying t=some (.map Vw e)){z:zg}(hz:(zeroValue e).run Tryz.prog w=.ok z w)(i:Int)(hi:yw i):(ec t (.map (some b)) (.int .i64 i) true).run Tryz.prog w=.ok (.tuple #[(f i).getD z,.bool (f i).isSome]) w:=by obtain⟨D,g,j,d⟩:=h;obtain⟨v,k,a,c⟩:=g.look_ok Vg ht hz (zd:=.held z) (zp:=[]) rfl (zcT Tryz.underlying3 hi);rw[a];rw[(d i).2 z]at c;rw[Lj c,<-(d i).1]
theorem Ae.store(h:Ae w b n f)(ht:Tryz.prog.underlying t=some (.map Vw e))(hn:n<maxLen)(i:Int)(v:zg)(hi:yw i):∃w',(Instr.mapUpdate t (.map (some b)) (.int .i64 i) v).run Tryz.prog w=.ok () w'/\Ae w' b (n+1) (upd f i v)/\w.mapTurned w' b:=by
 obtain⟨D,l,j,k⟩:=h;obtain⟨w',a,m,o⟩:=l.store Vg ht hn (zcT Tryz.underlying3 hi) (d:=.held v) (ps:=[]) (val:=v) rfl;refine⟨w',a,⟨_,m,j.put _ _,λx=>?_⟩,o⟩;by_cases g:x=i
 .subst g;refine⟨(has_put_same j (PQ x) _).trans ?_,λz=>(atKey_put_same j (PQ x) _ _).trans ?_⟩
  .simp[upd]
  .simp[upd]
 .have c:(Lit.int .i64 x)≠ .int .i64 i:=by simpa using g
  refine⟨(has_put_other c _).trans ((k x).1.trans ?_),λz=>(atKey_put_other c _ _).trans (((k x).2 z).trans ?_)⟩
  .simp[upd,g]
  .simp[upd,g]
end
theorem yu{w w':ze}{b k:Nat}(h:w.mapTurned w' b)(hk:k≠b):w'.heap[k]?=w.heap[k]?:=by obtain⟨f,c,d,a,g,rfl⟩:=h;simp[zbI,Ne.symm hk]
theorem yU{w w':ze}{b:Nat}(h:w.mapTurned w' b):w'.heap.size=w.heap.size:=by obtain⟨f,c,d,a,g,rfl⟩:=h;simp[zbI]
theorem yE{w w':ze}{b B:Nat}(h:w.mapTurned w' b)(hB:B<=b):Below B w w':=by have d:=yU h;have g:=λk=>yu (k:=k) h;obtain⟨i,c,f,a,j,rfl⟩:=h;exact⟨rfl,rfl,rfl,by rw[d];exact zn _,λk hk=>g k (by omega)⟩
theorem yS{w:ze}{ops:Array Oper}{rest:List Oper}{o:Oper}{a:Act}{Q:Exit->Act->ze->Prop}(hg:o.guard=none)(m x v:Operand)(t e:zL)(hop:o.op=Op.mapUpdate t m x v)(ht:Tryz.prog.underlying t=some (.map Vw e))(b n:Nat)(f:Int->Option zg)(hm:a.eval m=.map (some b))(hown:Ae w b n f)(hn:n<maxLen)(i:Int)(hx:a.eval x=.int .i64 i)(hi:yw i)(hK:∀w',Ae w' b (n+1) (upd f i (a.eval v))->w.mapTurned w' b->wpList Tryz.prog ops Q rest (a.put o.dst undef) w'):wpList Tryz.prog ops Q (o::rest) a w:=by refine wpList_plain hg λK' hK'=>?_;obtain⟨w',c,g,d⟩:=hown.store ht hn i (a.eval v) hi;unfold Oper.wp;simp[execOp,hop,hm,hx,c,Result.andThen];exact hK' _ _ (hK w' g d)
def Bf(k:Int):Bool:=decide (1<=k/\k<27)
def Dp(k:Int):Int:=
 if k=2\/k=7\/k=9 then 1 else if k=10\/k=11\/k=12\/k=13\/k=15\/k=16 then 2 else if 17<=k/\k<=26 then 3 else 0
def Lq(k:Int):Int:=if k=3\/k=20 then 16 else if k=21 then 17 else 200
def VK(k:Int):Bool:=decide (k=1\/k=7)
theorem yT(k:Int)(w:ze):zM Tryz.prog 54 #[.int .i64 k] w λe w'=>e=.returned (.bool (Bf k))/\w'=w:=by
 go_enter Tryz.func54,Tryz.ntmps54;go_wp2;all_goals
  go_ret;refine⟨yA ?_,rfl⟩;rw[iy];simp[Bf];try omega
theorem RS(k:Int)(w:ze):zM Tryz.prog 109 #[.int .i64 k] w λe w'=>e=.returned (.bool (VK k))/\w'=w:=by
 go_enter Tryz.func109,Tryz.ntmps109;go_wp2;all_goals
  go_ret;refine⟨yA ?_,rfl⟩;rw[iy];simp[VK];try omega
theorem EZ(k:Int)(w:ze):zM Tryz.prog 53 #[.int .i64 k] w λe w'=>e=.returned (.int .i64 (Lq k))/\w'=w:=by
 by_cases c:k=3
 .subst c;go_enter Tryz.func53,Tryz.ntmps53;go_wp2;go_ret;exact⟨rfl,rfl⟩
 .by_cases a:k=20
  .subst a;go_enter Tryz.func53,Tryz.ntmps53;go_wp2;go_ret;exact⟨rfl,rfl⟩
  .by_cases b:k=21
   .subst b;go_enter Tryz.func53,Tryz.ntmps53;go_wp2;go_ret;exact⟨rfl,rfl⟩
   .go_enter Tryz.func53,Tryz.ntmps53;go_wp2;go_ret;exact⟨Ck (by simp[Lq,c,a,b]),rfl⟩
theorem DT(k:Int)(w:ze):zM Tryz.prog 128 #[.int .i64 k] w λe w'=>e=.returned (.int .i64 (Dp k))/\w'=w:=by
 by_cases j:k=2\/k=7\/k=9\/k=10\/k=11\/k=12\/k=13\/k=15\/k=16
 .rcases j with rfl|rfl|rfl|rfl|rfl|rfl|rfl|rfl|rfl;all_goals
   go_enter Tryz.func128,Tryz.ntmps128;go_wp2;go_ret;exact⟨rfl,rfl⟩
 .have h:k≠2/\k≠7/\k≠9/\k≠10/\k≠11/\k≠12/\k≠13/\k≠15/\k≠16:=by omega
  obtain⟨m,l,n,d,c,i,b,a,f⟩:=h;have e:Dp k=if 17<=k/\k<=26 then 3 else 0:=by simp[Dp,m,l,n,d,c,i,b,a,f]
  rw[e];clear e j;by_cases g:17<=k/\k<=26
  .rw[if_pos g];obtain⟨o,p⟩:=g;go_enter Tryz.func128,Tryz.ntmps128;go_wp2;go_ret;exact⟨rfl,rfl⟩
  .rw[if_neg g];by_cases o:17<=k
   .have p:¬k<=26:=by omega
    go_enter Tryz.func128,Tryz.ntmps128;go_wp2;go_ret;exact⟨rfl,rfl⟩
   .go_enter Tryz.func128,Tryz.ntmps128;go_wp2;go_ret;exact⟨rfl,rfl⟩
def It(m:Nat):Int:=([0,1,2,2,1,1,2,4,2,4,4,3,2,1,1,1,1,1,1,1,3,4,4,1,1,1,2]:List Int).getD m 0
def Ek(m:Nat):Int:=([0,0,1,0,1,1,0,1,2,1,1,1,0,0,0,0,0,3,4,1,1,1,1,4,4,4,0]:List Int).getD m 0
def BC(m:Nat):Int×Int:=([(0,0),(0,1),(0,0),(4,0),(0,0),(0,0),(0,2),(2,0),(0,0),(0,0),(0,0),(0,0),(0,0),(0,0),(0,0),(0,0),(0,0),(0,0),(0,0),(0,0),(0,3),(0,3),(0,0),(0,0),(0,0),(0,0),(0,0)]:List (Int×Int)).getD m (0,0)
def Ah(m:Nat):List (Int×Int):=([[],[],[(3,0),(5,0),(6,0)],[],[(5,0)],[],[],[(8,0)],[],[(0,3)],[(0,3)],[(0,3)],[(0,3)],[(0,3),(6,0),(14,0)],[(6,0)],[(0,3),(6,0)],[(0,3)],[],[],[],[],[(0,3)],[],[],[(0,3),(0,3)],[(0,3)],[(0,3)]]:List (List (Int×Int))).getD m []
def B5(m:Nat):List ByteArray:=
 if m=18 then[⟨#[116,114,117,101]⟩,⟨#[102,97,108,115,101]⟩]else if m=23 then[⟨#[115,101,108,102]⟩]
 else if m=24 then[⟨#[124]⟩,⟨#[38]⟩,⟨#[61,61]⟩,⟨#[60]⟩,⟨#[43]⟩,⟨#[45]⟩,⟨#[42]⟩,⟨#[47]⟩]else if m=25 then[⟨#[45]⟩,⟨#[33]⟩]else[]
def Co(w:ze)(v:zg)(l:List (Int×Int)):Prop:=((∃p c,v=.slice p 0 c)/\l=[])\/∃b off cap,v=.slice (some ⟨b,off,none⟩) l.length cap/\b<w.heap.size/\∀i(x:Int×Int),l[i]?=some x->w.cell? ⟨b,off+i*2,none⟩=some (.int .i64 x.1)/\w.cell? ⟨b,off+i*2+1,none⟩=some (.int .i64 x.2)
theorem Co.below{w wr:ze}{v:zg}{l:List (Int×Int)}(h:Co w v l)(hb:Below w.heap.size w wr):Co wr v l:=by
 rcases h with h|⟨b,c,d,g,a,f⟩
 .exact .inl h
 .exact .inr ⟨b,c,d,g,ez a hb.size,λi x hx=>⟨(hb.cell (p:=⟨b,_,none⟩) a).trans (f i x hx).1,(hb.cell (p:=⟨b,_,none⟩) a).trans (f i x hx).2⟩⟩
theorem Co.slice{w:ze}{v:zg}{l:List (Int×Int)}(h:Co w v l):∃p c,v=.slice p l.length c:=by
 rcases h with⟨⟨p,c,rfl⟩,rfl⟩|⟨b,d,a,rfl,_⟩
 .exact⟨p,c,rfl⟩
 .exact⟨_,_,rfl⟩
theorem Co.at{w:ze}{p:Option Addr}{n c:Nat}{l:List (Int×Int)}(h:Co w (.slice p n c) l){i:Nat}{x:Int×Int}(hi:l[i]?=some x):∃b off,p=some ⟨b,off,none⟩/\b<w.heap.size/\w.cell? ⟨b,off+i*2,none⟩=some (.int .i64 x.1)/\w.cell? ⟨b,off+i*2+1,none⟩=some (.int .i64 x.2):=by
 rcases h with⟨_,rfl⟩|⟨b,off,f,e,a,d⟩
 .simp at hi
 .cases e;exact⟨b,off,rfl,a,d i x hi⟩
structure Bh(w:ze):Prop where
 lt:0<w.heap.size
 first:∀m,m<27->∃v,w.cell? ⟨0,m*6,none⟩=some v/\Co w v (Ah m)
 kind:∀m,m<27->w.cell? ⟨0,m*6+1,none⟩=some (.int .i64 (BC m).1)
 group:∀m,m<27->w.cell? ⟨0,m*6+2,none⟩=some (.int .i64 (BC m).2)
 text:∀m,m<27->w.cell? ⟨0,m*6+3,none⟩=some (.int .i64 (Ek m))
 words:∀m,m<27->∃v,w.cell? ⟨0,m*6+4,none⟩=some v/\yI w v (B5 m)
 own:∀m,m<27->w.cell? ⟨0,m*6+5,none⟩=some (.int .i64 (It m))
theorem Bh.below{w wr:ze}(h:Bh w)(hb:Below w.heap.size w wr):Bh wr where
 lt:=ez h.lt hb.size
 first m hm:=by obtain⟨v,a,b⟩:=h.first m hm;exact⟨v,(hb.cell (p:=⟨0,_,none⟩) h.lt).trans a,b.below hb⟩
 kind m hm:=(hb.cell (p:=⟨0,_,none⟩) h.lt).trans (h.kind m hm)
 group m hm:=(hb.cell (p:=⟨0,_,none⟩) h.lt).trans (h.group m hm)
 text m hm:=(hb.cell (p:=⟨0,_,none⟩) h.lt).trans (h.text m hm)
 words m hm:=by obtain⟨v,a,b⟩:=h.words m hm;exact⟨v,(hb.cell (p:=⟨0,_,none⟩) h.lt).trans a,b.below hb⟩
 own m hm:=(hb.cell (p:=⟨0,_,none⟩) h.lt).trans (h.own m hm)
def T.own(t:T):Int:=
 if Bf t.k=false then 0 else if t.k=8/\t.s=.empty then 0 else if t.k=14/\t.ks.length=0 then 0
 else if t.k=21 then It 21+max 0 ((t.ks.length:Int) -2)else if t.k=20 then It 20+max 0 ((t.ks.length:Int) -1)else if t.k=3 then It 3+max 0 ((t.ks.length:Int) -1)else It t.k.toNat
theorem IB{s:ByteArray}:s.toList.isEmpty=decide (s=.empty):=by have h:=CU s .empty;rw[<-h,iQ,iQ];cases s.data.toList<;>rfl
theorem Nj(t:T)(gv kv:zg)(w:ze)(hl:t.Lies w gv kv)(hn:t.ks.length<=300)(hS:Bh w):zM Tryz.prog 77 #[yJ t.k t.s gv kv] w λe w'=>e=.returned (.int .i64 t.own)/\Below w.heap.size w w':=by
 obtain⟨v,r,rfl⟩:=hl.kids.slice;have f:=za (ya (w:=w) (.cells #[.int .i64 t.k,.string t.s,gv,.slice v t.ks.length r] 25));have a:=hS.below f.out;clear hl hS;unfold T.own;generalize t.k=k at*;generalize t.s=s at*;generalize t.ks.length=n at*;by_cases c:Bf k=true
 case neg=>
  have c:Bf k=false:=by simpa using c
  rw[if_pos c];go_enter Tryz.func77,Tryz.ntmps77;go_wp2_with (first|(go_at_call 54;refine(yT _ _).mono ?_;rintro e w' ⟨rfl,rfl⟩;rw[c]));go_ret;exact⟨rfl,f.out⟩
 rw[if_neg (by simp[c])];by_cases p:k=8
 .subst p;have o:=a.own 8 (by omega);have b:Bf 8=true:=rfl;clear a c;by_cases h:s=.empty
  .have d:s.toList.isEmpty=true:=by rw[IB];simp[h]
   rw[if_pos ⟨rfl,h⟩];clear h;go_enter Tryz.func77,Tryz.ntmps77;go_wp2_with (first|(go_at_call 54;refine(yT _ _).mono ?_;rintro e w' ⟨rfl,rfl⟩;rw[b]));go_ret;exact⟨rfl,f.out⟩
  .have d:s.toList.isEmpty=false:=by rw[IB];simp[h]
   rw[if_neg (by simp[h])];clear h;go_enter Tryz.func77,Tryz.ntmps77;go_wp2_with (first|(go_at_call 54;refine(yT _ _).mono ?_;rintro e w' ⟨rfl,rfl⟩;rw[b]));go_ret;exact⟨rfl,f.out⟩
 by_cases g:k=14
 .subst g;have o:=a.own 14 (by omega);have b:Bf 14=true:=rfl;clear a c;rw[if_neg (by simp)];by_cases h:n=0
  .subst h;go_enter Tryz.func77,Tryz.ntmps77;go_wp2_with (first|(go_at_call 54;refine(yT _ _).mono ?_;rintro e w' ⟨rfl,rfl⟩;rw[b]));go_ret;exact⟨rfl,f.out⟩
  .have d:((n:Int)==0)=false:=by simp;omega
   rw[if_neg (by simp[h])];go_enter Tryz.func77,Tryz.ntmps77;go_wp2_with (first|(go_at_call 54;refine(yT _ _).mono ?_;rintro e w' ⟨rfl,rfl⟩;rw[b]));go_ret;exact⟨rfl,f.out⟩
 rw[if_neg (by simp[p]),if_neg (by simp[g])];by_cases j:k=21
 .subst j;have o:(w.alloc (.cells #[.int .i64 21,.string s,gv,.slice v n r] 25)).cell? ⟨0,131,none⟩=some (.int .i64 4):=a.own 21 (by omega);have b:Bf 21=true:=rfl;have l:It 21=4:=rfl;clear a c;rw[if_pos rfl,l];clear l;go_enter Tryz.func77,Tryz.ntmps77;go_wp2_with (first|(go_at_call 54;refine(yT _ _).mono ?_;rintro e w' ⟨rfl,rfl⟩;rw[b]));all_goals
   go_ret;exact⟨Ck (by rw[zcu];split<;>omega),f.out⟩
 rw[if_neg j];by_cases i:k=20
 .subst i;have o:(w.alloc (.cells #[.int .i64 20,.string s,gv,.slice v n r] 25)).cell? ⟨0,125,none⟩=some (.int .i64 3):=a.own 20 (by omega);have b:Bf 20=true:=rfl;have l:It 20=3:=rfl;clear a c;rw[if_pos rfl,l];clear l;go_enter Tryz.func77,Tryz.ntmps77;go_wp2_with (first|(go_at_call 54;refine(yT _ _).mono ?_;rintro e w' ⟨rfl,rfl⟩;rw[b]));all_goals
   go_ret;exact⟨Ck (by rw[zcu];split<;>omega),f.out⟩
 rw[if_neg i];by_cases q:k=3
 .subst q;have o:(w.alloc (.cells #[.int .i64 3,.string s,gv,.slice v n r] 25)).cell? ⟨0,23,none⟩=some (.int .i64 2):=a.own 3 (by omega);have b:Bf 3=true:=rfl;have l:It 3=2:=rfl;clear a c;rw[if_pos rfl,l];clear l;go_enter Tryz.func77,Tryz.ntmps77;go_wp2_with (first|(go_at_call 54;refine(yT _ _).mono ?_;rintro e w' ⟨rfl,rfl⟩;rw[b]));all_goals
   go_ret;exact⟨Ck (by rw[zcu];split<;>omega),f.out⟩
 rw[if_neg q];have x:(1:Int)<=k/\k<27:=by simpa[Bf]using c
 obtain⟨m,rfl⟩:∃m:Nat,k=(m:Int):=⟨k.toNat,by omega⟩
 have D:(0:Int)<=(m:Int):=by omega
 have C:(m:Int)<27:=by omega
 have o:=a.own m (by omega);have E:((m:Int)==8)=false:=by simpa using p
 have y:((m:Int)==14)=false:=by simpa using g
 have z:((m:Int)==21)=false:=by simpa using j
 have A:((m:Int)==20)=false:=by simpa using i
 have B:((m:Int)==3)=false:=by simpa using q
 clear p g j i q a;go_enter Tryz.func77,Tryz.ntmps77;go_wp2_with (first|(go_at_call 54;refine(yT _ _).mono ?_;rintro e w' ⟨rfl,rfl⟩;rw[c]));go_ret;exact⟨rfl,f.out⟩
mutual
def T.within:T->Int->Int->Int
 |.mk k _ _ ks,left,depth=>if left<=0 then-1 else if depth<=0 then-1 else if Lq k<(ks.length:Int)then-1 else T.withinL ks (left-1) (depth-1)
def T.withinL:List T->Int->Int->Int
 |[],left,_=>left
 |t::ts,left,depth=>if t.within left depth<0 then-1 else T.withinL ts (t.within left depth) depth
end
theorem T.withinL_take {ks : List T} {j : Nat} {t : T} (h : ks[j]? = some t) (left depth : Int) :
    T.withinL (ks.drop j) left depth = if t.within left depth < 0 then -1 else T.withinL (ks.drop (j + 1)) (t.within left depth) depth := by
  obtain ⟨a, rfl⟩ := zm.1 h
  rw [oG a, T.withinL]
theorem VS(k:Int):16<=Lq k/\Lq k<=200:=by unfold Lq;split<;>(try split)<;>omega
mutual
theorem T.within_le:∀(t:T)(left depth:Int),t.within left depth<=max left (-1)/\-1<=t.within left depth
 | .mk k s g ks,left,depth=>by
  rw [T.within];split
  .omega
  .split
   .omega
   .split
    .omega
    .have:=T.withinL_le ks (left - 1) (depth - 1) (by omega);omega
theorem T.withinL_le:∀(ts:List T)(left depth:Int),-1<=left->T.withinL ts left depth<=max left (-1)/\-1<=T.withinL ts left depth
 |[],left,depth=>λh=>by rw [T.withinL];omega
 | t::ts,left,depth=>λh=>by have h1:=T.within_le t left depth;have h2:=T.withinL_le ts (t.within left depth) depth h1.2;rw [T.withinL];split<;>omega
end
theorem NI:∀(t:T)(gv kv:zg)(w:ze)(left depth:Int),t.Lies w gv kv->-1<=left->left<=1000000->-1000000<=depth->depth<=1000000->t.Fine->zM Tryz.prog 30 #[yJ t.k t.s gv kv,.int .i64 left,.int .i64 depth] w λe w'=>e=.returned (.int .i64 (t.within left depth))/\Below w.heap.size w w':=by
 refine T.ind λk s g ks ih gv kv w left depth hl h0 h1 d0 d1 hF=>?_;obtain⟨hg,Q⟩:=T.lies_iff.1 hl;obtain⟨p,c,rfl⟩:=Q.slice;obtain⟨_,_,_,hn,G⟩:=T.fine_iff.1 hF;simp only[T.k,T.s];rw[T.within];have q:=ya (w:=w) (.cells #[.int .i64 k,.string s,gv,.slice p ks.length c] 25);have B:=Q.below q;have F:=(eN w (.cells #[.int .i64 k,.string s,gv,.slice p ks.length c] 25)).1;have O:(w.alloc (.cells #[.int .i64 k,.string s,gv,.slice p ks.length c] 25)).cell? ⟨w.heap.size,3,none⟩=some (.slice p ks.length c):=by simp only[zS,F];rfl
 have J:(w.alloc (.cells #[.int .i64 k,.string s,gv,.slice p ks.length c] 25)).cell? ⟨w.heap.size,0,none⟩=some (.int .i64 k):=by simp only[zS,F];rfl
 have C:(w.alloc (.cells #[.int .i64 k,.string s,gv,.slice p ks.length c] 25)).heap.size=w.heap.size+1:=by simp
 have d:=za q;have P:=za B;have z:=za C;clear hg Q hl q B F C;by_cases f:left<=0
 .rw[if_pos f];have S:decide (left<=0)=true:=by simpa using f
  go_enter Tryz.func30,Tryz.ntmps30;go_wp2;go_quiet ((go_at_call 53;exact lT (EZ _ _)));go_wp2;go_ret;exact⟨rfl,yk d.out⟩
 rw[if_neg f];have S:decide (left<=0)=false:=by simpa using f
 by_cases h:depth<=0
 .rw[if_pos h];have R:decide (depth<=0)=true:=by simpa using h
  go_enter Tryz.func30,Tryz.ntmps30;go_wp2;go_quiet ((go_at_call 53;exact lT (EZ _ _)));go_wp2;go_ret;exact⟨rfl,yk d.out⟩
 rw[if_neg h];have R:decide (depth<=0)=false:=by simpa using h
 by_cases x:Lq k<(ks.length:Int)
 .rw[if_pos x];have V:decide ((ks.length:Int)>Lq k)=true:=by simpa using x
  go_enter Tryz.func30,Tryz.ntmps30;go_wp2;go_quiet ((go_at_call 53;exact lT (EZ _ _)));go_wp2;go_ret;exact⟨rfl,yk d.out⟩
 rw[if_neg x];have V:decide ((ks.length:Int)>Lq k)=false:=by simpa using x
 have M:=VS k;have HM:=za (show ks.length<=200 by omega);clear x M;go_enter Tryz.func30,Tryz.ntmps30;go_wp2;go_quiet ((go_at_call 53;exact lT (EZ _ _)));go_wp2;have ai:=HM.out;clear S R V O J;go_loopw [1,29] (λn i w'=>∃j:Nat,j<=ks.length/\∃r:Int,n=.int .i64 r/\-1<=r/\r<=1000000/\T.withinL ks (left-1) (depth-1)=T.withinL (ks.drop j) r (depth-1)/\i=.int .i64 j/\Below (w.heap.size+1) (w.alloc (.cells #[.int .i64 k,.string s,gv,.slice p ks.length c] 25)) w') (λ_ i _=>ks.length-(intOf i).toNat)
 case atStart=>exact⟨0,by omega,left-1,by go_num,by omega,by omega,by simp,rfl,yk (zt _ _)⟩
 case round=>
  rename_i wr hrel;obtain⟨j,hj,r,rfl,r0,r1,hw,rfl,a⟩:=hrel;have y:=P.out.below (by rw[z.out];exact a);have H:w.heap.size+1<=wr.heap.size:=by have:=a.size;rw[z.out]at this;exact this
  have N:=za a;have I:=za hw;clear a hw;by_cases L:j<ks.length
  .obtain⟨t,A⟩:∃t,ks[j]?=some t:=⟨ks[j],zc L⟩
   have Y:=za (T.withinL_take A r (depth-1));obtain⟨b,ad,rfl,hb,ak,ag,c0,c1,c2,c3,l⟩:=y.at A;obtain⟨pg,W,rfl⟩:=l.gaps.slice;obtain⟨Z,X,rfl⟩:=l.kids.slice;have v:=ya (w:=wr) (.cells #[.int .i64 t.k,.string t.s,.slice pg t.g.length W,.slice Z t.ks.length X] 25);have U:=za (ih t (zq A) _ _ (wr.alloc (.cells #[.int .i64 t.k,.string t.s,.slice pg t.g.length W,.slice Z t.ks.length X] 25)) r (depth-1) (T.Lies.below v t l) r0 r1 (by omega) (by omega) (G t (zq A)));have m:=za v;have aj:=T.within_le t r (depth-1);clear y A ih l v;generalize T.within t r (depth-1)=r' at*;by_cases D:r'<0
   .have dr:decide (r'<0)=true:=by simpa using D
    go_wp2_with (first|(go_at_call 30;refine U.out.mono ?_;rintro e w' ⟨rfl,o⟩));go_ret;exact⟨Ck (by rw[I.out,Y.out,if_pos D]),d.out.trans ((N.out.mono (by omega)).trans ((m.out.trans (o.mono m.out.size)).mono (by omega)))⟩
   .have dr:decide (r'<0)=false:=by simpa using D
    have E:=za (by rw[I.out,Y.out,if_neg D]:T.withinL ks (left-1) (depth-1)=T.withinL (ks.drop (j+1)) r' (depth-1));go_wp2_with (first|(go_at_call 30;refine U.out.mono ?_;rintro e w' ⟨rfl,o⟩));go_roundw
    case rel=>exact⟨j+1,by omega,r',rfl,by omega,by omega,E.out,by go_num,N.out.trans ((m.out.trans (o.mono m.out.size)).mono H)⟩
    case measure=>simp[intOf];omega
  .obtain rfl:j=ks.length:=by omega
   go_wp2;go_ret;exact⟨Ck (by rw[I.out,zdb,T.withinL]),d.out.trans (N.out.mono (by omega))⟩
def Fv(m pos:Nat):Int×Int:=((Ah m)[pos]?).getD (BC m)
def M6(m pos:Nat)(kid:Int):Bool:=Bf kid&&(if(Fv m pos).2=0 then decide ((Fv m pos).1=kid)else decide ((Fv m pos).2=Dp kid))
theorem Rt(m pos:Nat)(kid:Int)(w:ze)(hS:Bh w)(h1:1<=m)(h27:m<27)(hp:pos<=1000000):zM Tryz.prog 85 #[.int .i64 m,.int .i64 pos,.int .i64 kid] w λe w'=>e=.returned (.bool (M6 m pos kid))/\Below w.heap.size w w':=by
 have c:Bf (m:Int)=true:=by simp[Bf];omega
 by_cases f:Bf kid=true
 case neg=>
  have f:Bf kid=false:=by simpa using f
  go_enter Tryz.func85,Tryz.ntmps85;go_wp2_with (first|(go_at_call 54;refine(yT _ _).mono ?_;rintro e w' ⟨rfl,rfl⟩;first|rw[c]|rw[f]));go_ret;exact⟨yA (by simp[M6,f]),zt _ _⟩
 obtain⟨R,I,q⟩:=hS.first m h27;obtain⟨J,P,B⟩:=hS.words m h27;obtain⟨s,r,rfl⟩:=q.slice;obtain⟨o,l,rfl⟩:=B.slice;have H:=hS.kind m h27;have E:=hS.group m h27;have Q:=hS.text m h27;have N:=hS.own m h27;have M:(0:Int)<=(m:Int):=by omega
 have L:(m:Int)<27:=by omega
 have A:M6 m pos kid=(if(Fv m pos).2=0 then decide ((Fv m pos).1=kid)else decide ((Fv m pos).2=Dp kid)):=by simp[M6,f]
 rw[A];have n:=za (λa b=>((ya (w:=w) (.cells #[.slice s (Ah m).length r,.int .i64 (BC m).1,.int .i64 (BC m).2,.int .i64 (Ek m),.slice o (B5 m).length l,.int .i64 (It m)] 132)).trans ((ya (w:=w.alloc (.cells #[.slice s (Ah m).length r,.int .i64 (BC m).1,.int .i64 (BC m).2,.int .i64 (Ek m),.slice o (B5 m).length l,.int .i64 (It m)] 132)) (.cells #[.int .i64 a,.int .i64 b] 130)).mono (by simp)):Below w.heap.size w ((w.alloc (.cells #[.slice s (Ah m).length r,.int .i64 (BC m).1,.int .i64 (BC m).2,.int .i64 (Ek m),.slice o (B5 m).length l,.int .i64 (It m)] 132)).alloc (.cells #[.int .i64 a,.int .i64 b] 130))));have O:decide ((pos:Int)<0)=false:=by simp
 clear A hS B;by_cases t:pos<(Ah m).length
 .obtain⟨x,h⟩:∃x,(Ah m)[pos]?=some x:=⟨_,zc t⟩
  obtain⟨b,i,rfl,y,z,v⟩:=q.at h;have d:Fv m pos=x:=by simp[Fv,h]
  rw[d];clear q h d;obtain⟨D,k⟩:=x;simp only at z v⊢;have j:=ya (w:=w) (.cells #[.slice (some ⟨b,i,none⟩) (Ah m).length r,.int .i64 (BC m).1,.int .i64 (BC m).2,.int .i64 (Ek m),.slice o (B5 m).length l,.int .i64 (It m)] 132);have G:=(j.cell (p:=⟨b,i+pos*2,none⟩) y).trans z;have C:=(j.cell (p:=⟨b,i+pos*2+1,none⟩) y).trans v;clear j;by_cases g:k=0
  .subst g;rw[if_pos rfl];go_enter Tryz.func85,Tryz.ntmps85;go_wp2_with (first|(go_at_call 54;refine(yT _ _).mono ?_;rintro e w' ⟨rfl,rfl⟩;first|rw[c]|rw[f]));go_ret;exact⟨yA (by rw[iy];simp),n.out _ _⟩
  .rw[if_neg g];have F:(k !=0)=true:=by simpa using g
   go_enter Tryz.func85,Tryz.ntmps85;go_wp2_with (first|(go_at_call 54;refine(yT _ _).mono ?_;rintro e w' ⟨rfl,rfl⟩;first|rw[c]|rw[f]));go_quiet ((go_at_call 128;exact lT (DT _ _)));go_wp2;go_ret;exact⟨yA (by rw[iy];simp),yk (n.out _ _)⟩
 .have d:Fv m pos=BC m:=by simp[Fv,List.getElem?_eq_none (Nat.le_of_not_lt t)]
  rw[d];have S:decide (pos<(Ah m).length)=false:=by simpa using t
  clear q d;generalize BC m=x at*;obtain⟨D,k⟩:=x;simp only at H E⊢;by_cases g:k=0
  .subst g;rw[if_pos rfl];go_enter Tryz.func85,Tryz.ntmps85;go_wp2_with (first|(go_at_call 54;refine(yT _ _).mono ?_;rintro e w' ⟨rfl,rfl⟩;first|rw[c]|rw[f]));go_ret;exact⟨yA (by rw[iy];simp),n.out _ _⟩
  .rw[if_neg g];have F:(k !=0)=true:=by simpa using g
   go_enter Tryz.func85,Tryz.ntmps85;go_wp2_with (first|(go_at_call 54;refine(yT _ _).mono ?_;rintro e w' ⟨rfl,rfl⟩;first|rw[c]|rw[f]));go_quiet ((go_at_call 128;exact lT (DT _ _)));go_wp2;go_ret;exact⟨yA (by rw[iy];simp),yk (n.out _ _)⟩
def Em(m:Nat):Nat->List T->Bool
 |_,[]=>true
 |i,t::ts=>M6 m i t.k&&Em m (i+1) ts
theorem Nt{m:Nat}{ks:List T}{j:Nat}{t:T}(h:ks[j]?=some t):Em m j (ks.drop j)=(M6 m j t.k&&Em m (j+1) (ks.drop (j+1))):=by obtain⟨a,rfl⟩:=zm.1 h;rw[oG a,Em]
def J4(m:Nat)(ks:List T):Bool:=
 if m=14/\ks.length=0 then true else if ks.length<(Ah m).length then false else if(Ah m).length<ks.length/\BC m=(0,0)then false else Em m 0 ks
theorem RT(m:Nat)(t:T)(hm:t.k=m)(gv kv:zg)(w:ze)(hl:t.Lies w gv kv)(hS:Bh w)(h1:1<=m)(h27:m<27)(hn:t.ks.length<=300):zM Tryz.prog 55 #[yJ t.k t.s gv kv] w λe w'=>e=.returned (.bool (J4 m t.ks))/\Below w.heap.size w w':=by
 obtain⟨k,s,g,a⟩:=t;simp only[T.k]at hm;subst hm;obtain⟨hg,hk⟩:=T.lies_iff.1 hl;obtain⟨p,c,rfl⟩:=hk.slice;obtain⟨F,E,rfl⟩:=hg.slice;simp only[T.k,T.s,T.ks]at hn⊢;obtain⟨v0,c0,p0⟩:=hS.first m h27;obtain⟨v4,c4,p4⟩:=hS.words m h27;obtain⟨P,N,rfl⟩:=p0.slice;obtain⟨I,H,rfl⟩:=p4.slice;have v:=ya (w:=w) (.cells #[.int .i64 m,.string s,.slice F g.length E,.slice p a.length c] 25);have y:Below w.heap.size w ((w.alloc (.cells #[.int .i64 m,.string s,.slice F g.length E,.slice p a.length c] 25)).alloc (.cells #[.slice P (Ah m).length N,.int .i64 (BC m).1,.int .i64 (BC m).2,.int .i64 (Ek m),.slice I (B5 m).length H,.int .i64 (It m)] 132)):=v.trans ((ya _).mono (by simp));have c0:=(v.cell (p:=⟨0,m*6,none⟩) hS.lt).trans c0;have c4:=(v.cell (p:=⟨0,m*6+4,none⟩) hS.lt).trans c4;have r:=hS.below v;have c1:=r.kind m h27;have c2:=r.group m h27;have c3:=r.text m h27;have c5:=r.own m h27;have i1:(0:Int)<=(m:Int):=by omega
 have i2:(m:Int)<27:=by omega
 have Y:=za (hS.below y);have af:=za (hk.below y);have o:=za y;have C:=(eN w (.cells #[.int .i64 m,.string s,.slice F g.length E,.slice p a.length c] 25)).1;have ai:Hid (((w.alloc (.cells #[.int .i64 m,.string s,.slice F g.length E,.slice p a.length c] 25)).alloc (.cells #[.slice P (Ah m).length N,.int .i64 (BC m).1,.int .i64 (BC m).2,.int .i64 (Ek m),.slice I (B5 m).length H,.int .i64 (It m)] 132)).cell? ⟨w.heap.size,0,none⟩=some (.int .i64 m)):=za (by simp only[zS,(ya _).block w.heap.size (show w.heap.size<(w.alloc _).heap.size by simp),C];rfl);have ae:Hid (((w.alloc (.cells #[.int .i64 m,.string s,.slice F g.length E,.slice p a.length c] 25)).alloc (.cells #[.slice P (Ah m).length N,.int .i64 (BC m).1,.int .i64 (BC m).2,.int .i64 (Ek m),.slice I (B5 m).length H,.int .i64 (It m)] 132)).cell? ⟨w.heap.size,3,none⟩=some (.slice p a.length c)):=za (by simp only[zS,(ya _).block w.heap.size (show w.heap.size<(w.alloc _).heap.size by simp),C];rfl);have A:Hid (((w.alloc (.cells #[.int .i64 m,.string s,.slice F g.length E,.slice p a.length c] 25)).alloc (.cells #[.slice P (Ah m).length N,.int .i64 (BC m).1,.int .i64 (BC m).2,.int .i64 (Ek m),.slice I (B5 m).length H,.int .i64 (It m)] 132)).heap.size=w.heap.size+2):=za (by simp);clear v y r hS hg hk hl p0 p4 C;unfold J4;by_cases L:m=14/\a.length=0
 .rw[if_pos L];obtain⟨aj,V⟩:=L;have a6:((m:Int)==14)=true:=by simp;omega
  have a8:((a.length:Int)==0)=true:=by simp[V]
  clear aj V;go_enter Tryz.func55,Tryz.ntmps55;go_wp2;go_ret;exact⟨rfl,o.out⟩
 rw[if_neg L];have G:∀{Q:Prop},(((m:Int)==14)=false->Q)->(((m:Int)==14)=true->((a.length:Int)==0)=false->Q)->Q:=by
  intro Q f g;by_cases h:m=14
  .exact g (by simp[h]) (by simp;rintro e;exact L ⟨h,by simp[e]⟩)
  .exact f (by simp;omega)
 clear L;by_cases W:a.length<(Ah m).length
 .rw[if_pos W];have dB:decide (a.length<(Ah m).length)=true:=by simpa using W
  refine G (λd=>?_) (λd d'=>?_);all_goals
   clear G;go_enter Tryz.func55,Tryz.ntmps55;go_wp2;go_ret;exact⟨rfl,o.out⟩
 rw[if_neg W];have dB:decide (a.length<(Ah m).length)=false:=by simpa using W
 by_cases U:(Ah m).length<a.length/\BC m=(0,0)
 .rw[if_pos U];obtain⟨ac,an⟩:=U;have dC:decide ((Ah m).length<a.length)=true:=by simpa using ac
  rw[an]at c1 c2 o;refine G (λd=>?_) (λd d'=>?_);all_goals
   clear G;go_enter Tryz.func55,Tryz.ntmps55;go_wp2;go_ret;exact⟨rfl,o.out⟩
 rw[if_neg U];have HX:∀{Q:Prop},(decide ((Ah m).length<a.length)=false->Q)->(decide ((Ah m).length<a.length)=true->((BC m).1==0)=false->Q)->(decide ((Ah m).length<a.length)=true->((BC m).1==0)=true->((BC m).2==0)=false->Q)->Q:=by
  intro Q f g k;by_cases h:(Ah m).length<a.length
  .by_cases h1:(BC m).1=0
   .refine k (by simpa using h) (by simpa using h1) ?_;simp only[beq_eq_false_iff_ne,ne_eq];intro h2;exact U ⟨h,Prod.ext h1 h2⟩
   .exact g (by simpa using h) (by simpa using h1)
  .exact f (by simpa using h)
 clear U W;refine HX (λe=>?_) (λe e'=>?_) (λe e' e''=>?_);all_goals
  refine G (λd=>?_) (λd d'=>?_)
 all_goals
  clear G HX;go_enter Tryz.func55,Tryz.ntmps55;go_wp2;clear c0 c1 c2 c3 c4 c5;go_loopw [44] (λi w'=>∃j:Nat,j<=a.length/\Em m 0 a=Em m j (a.drop j)/\i=.int .i64 j/\Below (w.heap.size+2) ((w.alloc (.cells #[.int .i64 m,.string s,.slice F g.length E,.slice p a.length c] 25)).alloc (.cells #[.slice P (Ah m).length N,.int .i64 (BC m).1,.int .i64 (BC m).2,.int .i64 (Ek m),.slice I (B5 m).length H,.int .i64 (It m)] 132)) w') (λi _=>a.length-(intOf i).toNat)
  case atStart=>exact⟨0,by omega,by simp,rfl,zt _ _⟩
  case round=>
   rename_i wr hrel;obtain⟨j,hj,hf,rfl,l⟩:=hrel;have al:w.heap.size+2<=wr.heap.size:=by have:=l.size;rw[A.out]at this;exact this
   have S:=af.out.below (by rw[A.out];exact l);have X:=za (Y.out.below (by rw[A.out];exact l));have aa:=(l.cell (p:=⟨w.heap.size,0,none⟩) (by simp)).trans ai.out;have a7:=(l.cell (p:=⟨w.heap.size,3,none⟩) (by simp)).trans ae.out;have HB:=za l;have HF:=za hf;clear l hf;by_cases ah:j<a.length
   .obtain⟨t,Z⟩:∃t,a[j]?=some t:=⟨a[j],zc ah⟩
    have HT:=za (Nt (m:=m) Z);obtain⟨b,a0,rfl,hb,a9,a1,f0,f1,f2,f3,D⟩:=S.at Z;obtain⟨M,O,rfl⟩:=D.gaps.slice;obtain⟨R,J,rfl⟩:=D.kids.slice;have x:=ya (w:=wr) (.cells #[.int .i64 t.k,.string t.s,.slice M t.g.length O,.slice R t.ks.length J] 25);have av:=(x.cell (p:=⟨w.heap.size,0,none⟩) (by simp;omega)).trans aa;have HI:=za (Rt m j t.k (wr.alloc (.cells #[.int .i64 t.k,.string t.s,.slice M t.g.length O,.slice R t.ks.length J] 25)) (X.out.below x) h1 h27 (by omega));have z:=za x;clear S Z D x;by_cases n:M6 m j t.k=true
    .have q:=za n;clear n;go_wp2_with (first|(go_at_call 85;refine HI.out.mono ?_;rintro e w' ⟨rfl,B⟩;rw[q.out]));go_roundw
     case rel=>exact⟨j+1,by omega,by rw[HF.out,HT.out,q.out];rfl,by go_num,HB.out.trans ((z.out.trans (B.mono z.out.size)).mono al)⟩
     case measure=>simp[intOf];omega
    .have q:=za (by simpa using n:M6 m j t.k=false);clear n;go_wp2_with (first|(go_at_call 85;refine HI.out.mono ?_;rintro e w' ⟨rfl,B⟩;rw[q.out]));go_ret;exact⟨yA (by rw[HF.out,HT.out,q.out];rfl),o.out.trans ((HB.out.mono (by omega)).trans ((z.out.trans (B.mono z.out.size)).mono (by omega)))⟩
   .obtain rfl:j=a.length:=by omega
    go_wp2;go_ret;exact⟨yA (by rw[HF.out,zdb,Em]),o.out.trans (HB.out.mono (by omega))⟩
theorem Nq{l:List ByteArray}{j:Nat}{x y:ByteArray}(h:l[j]?=some y):x∈l.drop j↔x=y\/x∈l.drop (j+1):=by obtain⟨a,rfl⟩:=zm.1 h;rw[oG a,List.mem_cons]
theorem NR(v:zg)(l:List ByteArray)(x:ByteArray)(w:ze)(hv:yI w v l)(hn:l.length<=1000000):zM Tryz.prog 129 #[v,.string x] w λe w'=>(∃r:Int,e=.returned (.int .i64 r)/\decide (r>=0)=decide (x∈l))/\w'=w:=by
 obtain⟨p,c,rfl⟩:=hv.slice;go_enter Tryz.func129,Tryz.ntmps129;go_wp2;go_loop [8] (λi=>∃j:Nat,j<=l.length/\(x∈l↔x∈l.drop j)/\i=.int .i64 j) (λi=>l.length-(intOf i).toNat)
 case atStart=>exact⟨0,by omega,by simp,rfl⟩
 case round=>
  rename_i hrel;obtain⟨j,o,f,rfl⟩:=hrel;by_cases d:j<l.length
  .obtain⟨y,a⟩:∃y,l[j]?=some y:=⟨l[j],zc d⟩
   obtain⟨b,g,rfl,_,q⟩:=hv.at a;have h:=za f;have m:=za (Nq (x:=x) a);have n:=za (zq a);clear f a;by_cases e:x=y
   .subst e;have k:(x.toList==x.toList)=true:=by simp
    go_wp2;go_ret;exact⟨⟨_,rfl,by simp[n.out]⟩,rfl⟩
   .have k:(x.toList==y.toList)=false:=by rw[CU];simp[e]
    go_wp2;go_round
    case rel=>exact⟨j+1,by omega,by rw[h.out,m.out];simp[e],by go_num⟩
    case measure=>simp[intOf];omega
  .obtain rfl:j=l.length:=by omega
   go_wp2;go_ret;exact⟨⟨_,rfl,by simp[f]⟩,rfl⟩
theorem Kc(v:zg)(l:List ByteArray)(x:ByteArray)(w:ze)(hv:yI w v l)(hn:l.length<=1000000):zM Tryz.prog 86 #[v,.string x] w λe w'=>e=.returned (.bool (decide (x∈l)))/\w'=w:=by
 have b:=za (NR v l x w hv hn);clear hv;go_enter Tryz.func86,Tryz.ntmps86;go_wp2_with (first|(go_at_call 129;refine b.out.mono ?_;rintro e w' ⟨⟨r,rfl,a⟩,rfl⟩));go_ret;first
  |exact⟨rfl,rfl⟩
  |exact⟨yA a,rfl⟩
noncomputable def E9(m:Nat)(s:ByteArray):Bool:=if Ek m=0 then s.toList.isEmpty else if Ek m=4 then decide (s∈B5 m)else true
theorem Sh(m:Nat):(B5 m).length<=8:=by
 unfold B5;split
 .decide
 .split
  .decide
  .split
   .decide
   .split<;>decide
theorem Ld(m:Nat)(t:T)(hm:t.k=m)(gv kv:zg)(w:ze)(hl:t.Lies w gv kv)(hS:Bh w)(h1:1<=m)(h27:m<27):zM Tryz.prog 56 #[yJ t.k t.s gv kv] w λe w'=>e=.returned (.bool (E9 m t.s))/\Below w.heap.size w w':=by
 obtain⟨k,s,g,q⟩:=t;simp only[T.k]at hm;subst hm;obtain⟨l,y⟩:=T.lies_iff.1 hl;obtain⟨p,c,rfl⟩:=y.slice;obtain⟨x,o,rfl⟩:=l.slice;simp only[T.k,T.s];obtain⟨M,n,v⟩:=hS.first m h27;obtain⟨E,r,j⟩:=hS.words m h27;obtain⟨z,D,rfl⟩:=v.slice;obtain⟨C,A,rfl⟩:=j.slice;have a:=ya (w:=w) (.cells #[.int .i64 m,.string s,.slice x g.length o,.slice p q.length c] 25);have d:Below w.heap.size w ((w.alloc (.cells #[.int .i64 m,.string s,.slice x g.length o,.slice p q.length c] 25)).alloc (.cells #[.slice z (Ah m).length D,.int .i64 (BC m).1,.int .i64 (BC m).2,.int .i64 (Ek m),.slice C (B5 m).length A,.int .i64 (It m)] 132)):=a.trans ((ya _).mono (by simp));have B:=za (Kc _ (B5 m) s _ (j.below d) (by have:=Sh m;omega));have f:=za d;have n:=(a.cell (p:=⟨0,m*6,none⟩) hS.lt).trans n;have r:=(a.cell (p:=⟨0,m*6+4,none⟩) hS.lt).trans r;have b:=hS.below a;have N:=b.kind m h27;have F:=b.group m h27;have L:=b.text m h27;have I:=b.own m h27;have H:(0:Int)<=(m:Int):=by omega
 have G:(m:Int)<27:=by omega
 clear a d b hS l y hl v j;unfold E9;generalize Ek m=tx at*;by_cases h:tx=0
 .rw[if_pos h];subst h;go_enter Tryz.func56,Tryz.ntmps56;go_wp2;go_ret;exact⟨rfl,f.out⟩
 rw[if_neg h];by_cases i:tx=4
 .rw[if_pos i];subst i;clear h;go_enter Tryz.func56,Tryz.ntmps56;go_wp2_with (first|(go_at_call 86;refine B.out.mono ?_;rintro e w' ⟨rfl,rfl⟩));go_ret;exact⟨rfl,f.out⟩
 .rw[if_neg i];have J:(tx==0)=false:=by simpa using h
  have O:(tx==4)=false:=by simpa using i
  go_enter Tryz.func56,Tryz.ntmps56;go_wp2;go_ret;exact⟨rfl,f.out⟩
end Go.Proofs
