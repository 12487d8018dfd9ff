/-
  Part of the proof: A copy of a list of strings.
-/
import Derived.Test.YtpdlpdkehminlaaGreatDoorWB
import Derived.Laws.CopyOwn
import Derived.Maps.StringElems
set_option linter.all false
set_option maxRecDepth 100000
set_option maxHeartbeats 20000000
open Array renaming getElem?_eq_some_iff->eh
open Go renaming Addr->oh,Calls->zM,Value->zg,World->ze,bodyPost_ret->eG,heap_alloc_new->zx,info_parts->iY,results_tmp2->iD,size_madeCells->zen,wpList_append_own->ew
open Go.Instr renaming lookup->ec,makeMap->za2,makeSlice->zbt
open Go.Lib renaming hid->za
open Go.MapKept renaming heap_alloc->eN
open Go.RowKit renaming Hid->eW
open Go.RowKit.Below renaming refl->zt
open Go.Value renaming cells->zao,int->zX,oneCell'->ej,ownBlock->eP,slice->eU,string->im
open Go.World renaming cell?->zS,grownBy_alloc->eQ,ownsRow_nil->ed
open Go.World.mapTurned renaming grown->ik
open Go.World.ownsRow renaming alloc->zy,cellAt->ep,frozenAt->iN,kept->zF,lt->zE,stored->ii
open List renaming append_assoc->lW,append_nil->iW,cons_append->zat,eq_nil_of_length_eq_zero->lm,filter->zd2,flatten_cons->lu,foldl_cons->zbL,getElem?_append_left->eI,getElem?_append_right->en,getElem?_eq_getElem->zc,getElem?_eq_some_iff->zm,getElem?_set_self->zb7,length_append->zT,length_cons->lN,length_map->l8,length_take->iR,length_take_le'->zcl,mem_cons->zO,mem_cons_of_mem->eJ,mem_cons_self->eO,mem_of_getElem?->zq,not_mem_nil->e8,replicate->ia,set_append_right->zaz,set_cons_zero->zi,take_add_one->z6,take_append_drop->oz,take_length->zY
open Nat renaming add_assoc->iH,le_refl->zn,le_trans->zI,lt_of_lt_of_le->ez,sub_self->ls,zero_add->eV,zero_mul->zbs
open Option renaming toList_some->zaQ
open Option.some renaming inj->eF,injEq->zb
namespace Go.Proofs
open Go.RowKit
open Classical
theorem Ma:(Tryz.prog.info? 9).map (λi=>(i.zero,i.size,i.bytes))=some (some (.string .empty),1,16):=by kernel_rfl
def AH(w:ze)(base:Nat)(v:zg)(l:List ByteArray):Prop:=(v=.slice none 0 0/\l=[])\/∃b,base<=b/\v=.slice (some ⟨b,0,none⟩) l.length l.length/\w.heap[b]?=some (.cells (l.map im).toArray 9 (0,0))
theorem AH.lines{w:ze}{base:Nat}{v:zg}{l:List ByteArray}(h:AH w base v l):yI w v l:=by
 rcases h with⟨rfl,rfl⟩|⟨b,c,rfl,a⟩
 .exact .inl ⟨⟨_,_,rfl⟩,rfl⟩
 .refine .inr ⟨b,0,l.length,rfl,zn _,(eh.1 a).1,λi s hi=>?_⟩;simp only[zS,a];simp[hi]
theorem AH.block{w w':ze}{base:Nat}{v:zg}{l:List ByteArray}(h:AH w base v l)(hk:∀b,v.ownBlock=some b->w'.heap[b]?=w.heap[b]?):AH w' base v l:=by
 rcases h with h|⟨b,c,rfl,a⟩
 .exact .inl h
 .exact .inr ⟨b,c,rfl,(hk b rfl).trans a⟩
theorem Pi(v:zg)(l:List ByteArray)(w:ze)(hv:yI w v l)(hn:l.length<=1048576):zM Tryz.prog 93 #[v] w λe w'=>∃u,e=.returned u/\AH w' w.heap.size u l/\Below w.heap.size w w':=by
 by_cases i:l.length=0
 .obtain rfl:l=[]:=lm i;obtain⟨p,c,rfl⟩:=hv.slice;go_enter Tryz.func93,Tryz.ntmps93;go_wp2;go_ret;exact⟨_,rfl,.inl ⟨rfl,rfl⟩,zt _ _⟩
 .rcases hv with⟨_,rfl⟩|⟨b,a,m,rfl,t,g,y⟩
  .exact absurd rfl i
  obtain⟨B,x,o,d,n⟩:=iY Ma;have hmk:(zbt 22 (.int .i64 (l.length:Int)) (.int .i64 (l.length:Int))).run Tryz.prog w=.ok (.slice (some ⟨w.heap.size,0,none⟩) l.length l.length) (w.alloc (.cells (madeCells #[.string .empty] l.length) 9)):=by have h:=run_makeSlice (P:=Tryz.prog) w 22 9 B (.string .empty) Tryz.underlying22 x o .i64 .i64 (l.length:Int) (l.length:Int) (by omega) (by omega) (by rw[d];omega) (by rw[n];omega) (by omega);rw[d]at h;simpa[zao]using h
  have F:((l.length:Int)==0)=false:=by rw[beq_eq_false_iff_ne];omega
  have q:(Tryz.prog.info? 9).map (·.size)=some 1:=by rw[x];simp[d]
  have D:=za y;clear y i;go_enter Tryz.func93,Tryz.ntmps93;have r:=(eN w (.cells (madeCells #[im .empty] l.length) 9)).1;have z:=za r;have f:=zen #[im .empty] l.length;clear r;have E:=run_copy_row (P:=Tryz.prog) (w.alloc (.cells (madeCells #[im .empty] l.length) 9)) 22 22 3 9 w.heap.size 0 l.length l.length ⟨b,a,none⟩ l.length m (madeCells #[im .empty] l.length) 9 (l.map im) Tryz.underlying22 q z.out (by simp) (λj v hj=>by
    have C:=ya (w:=w) (.cells (madeCells #[im .empty] l.length) 9);obtain⟨s,A,rfl⟩:∃s,l[j]?=some s/\im s=v:=by simpa using hj
    have:=D.out j s A;have e:(⟨b,a,none⟩:oh).add j=⟨b,a+j,none⟩:=by
     unfold Addr.add;split
     .subst_vars;rfl
     .rfl
    rw[e];exact(C.cell (p:=⟨b,a+j,none⟩) g).trans this) (by rw[f];simp) (λv hv=>by
    obtain⟨s,_,rfl⟩:=List.mem_map.1 hv;rfl)
  go_wp2;go_ret;have k:List.map im l++List.drop l.length (madeCells #[im ByteArray.empty] l.length).toList=List.map im l:=by rw[List.drop_of_length_le (by simpa using Nat.le_of_eq f),iW]
  refine⟨_,rfl,.inr ⟨w.heap.size,zn _,rfl,?_⟩,?_⟩
  .rw[k];exact setRow_heap _ _ _ _ _ _ z.out
  .exact below_setRow (ya _) (zn _) _
theorem CF{α:Type}{a b:List α}{j:Nat}{x y:α}(ha:a[j]?=some x)(hb:b[j]?=some y)(h:a.take j=b.take j)(e:x=y):a.take (j+1)=b.take (j+1):=by rw[z6,z6,ha,hb,h,e]
theorem ID{α:Type}{a b:List α}{j:Nat}{x y:α}(ha:a[j]?=some x)(hb:b[j]?=some y)(e:x≠y):a≠b:=by rintro rfl;exact e (eF (ha.symm.trans hb))
theorem Mj(va vb:zg)(a b:List ByteArray)(w:ze)(ha:yI w va a)(hb:yI w vb b)(hn:a.length<=9223372036854775807):zM Tryz.prog 29 #[va,vb] w λe w'=>e=.returned (.bool (decide (a=b)))/\Below w.heap.size w w':=by
 obtain⟨A,B,rfl⟩:=ha.slice;obtain⟨G,s,rfl⟩:=hb.slice;by_cases h:a.length=b.length
 .rw[<-h]at hb⊢;have n:=za h;clear h;go_enter Tryz.func29,Tryz.ntmps29;go_wp2;go_loopw [5] (λi w'=>∃j:Nat,j<=a.length/\a.take j=b.take j/\i=.int .i64 j/\Below w.heap.size w w') (λi _=>a.length-(intOf i).toNat)
  case atStart=>exact⟨0,by omega,by simp,rfl,zt _ _⟩
  case round=>
   rename_i wr hrel;obtain⟨j,z,d,rfl,c⟩:=hrel;replace ha:=ha.below c;replace hb:=hb.below c;have m:=za c;clear c;by_cases f:j<a.length
   .obtain⟨x,g⟩:∃x,a[j]?=some x:=⟨a[j],zc f⟩
    obtain⟨y,k⟩:∃y,b[j]?=some y:=⟨b[j]'(by rw[<-n.out];exact f),zc _⟩
    obtain⟨E,C,rfl,_,t⟩:=ha.at g;obtain⟨r,F,rfl,_,D⟩:=hb.at k;have o:=za (CF g k d);have q:=za (ID g k);clear g k d;by_cases e:x=y
    .subst e;have p:(!x.toList==x.toList)=false:=by simp
     go_wp2;go_quiet (fail);go_wp2;go_roundw
     case rel=>exact⟨j+1,by omega,o.out (by trivial),by go_num,yk m.out⟩
     case measure=>simp[intOf];omega
    .have p:(!x.toList==y.toList)=true:=by rw[CU];simp[e]
     go_wp2;go_quiet (fail);go_wp2;go_ret;exact⟨yA (by simp[q.out e]),yk m.out⟩
   .obtain rfl:j=a.length:=by omega
    rw[zY,n.out,zY]at d;go_wp2;go_ret;exact⟨yA (by simp[d]),m.out⟩
 .have l:a≠b:=λe=>h (by rw[e]);have v:¬((a.length:Int)=(b.length:Int)):=by omega
  go_enter Tryz.func29,Tryz.ntmps29;go_wp2;go_ret;exact⟨yA (by simp[l]),zt _ _⟩
theorem OG:∀(a b:T)(ga ka gb kb:zg)(w:ze),a.Lies w ga ka->b.Lies w gb kb->a.size<=60->a.Fine->zM Tryz.prog 10 #[yJ a.k a.s ga ka,yJ b.k b.s gb kb] w λe w'=>e=.returned (.bool (decide (a=b)))/\Below w.heap.size w w':=by
 refine T.ind λk s g ks ih b ga ka gb kb w hla hlb h60 hF=>?_;obtain⟨D,B,A,d⟩:=b;obtain⟨P,F⟩:=T.lies_iff.1 hla;obtain⟨I,M⟩:=T.lies_iff.1 hlb;obtain⟨_,U,_,a4,S⟩:=T.fine_iff.1 hF;obtain⟨m,n,rfl⟩:=F.slice;obtain⟨E,C,rfl⟩:=M.slice;obtain⟨r,z,rfl⟩:=P.slice;obtain⟨J,O,rfl⟩:=I.slice;simp only[T.k,T.s];rw[T.size]at h60;have hn:=T.length_sizes ks;have c:Below w.heap.size w ((w.alloc (.cells #[.int .i64 k,.string s,.slice r g.length z,.slice m ks.length n] 25)).alloc (.cells #[.int .i64 D,.string B,.slice J A.length O,.slice E d.length C] 25)):=(ya _).trans ((ya _).mono (by simp));have W:((w.alloc (.cells #[.int .i64 k,.string s,.slice r g.length z,.slice m ks.length n] 25)).alloc (.cells #[.int .i64 D,.string B,.slice J A.length O,.slice E d.length C] 25)).heap.size=w.heap.size+2:=by simp
 have V:=(eN w (.cells #[.int .i64 k,.string s,.slice r g.length z,.slice m ks.length n] 25)).1;have G:=(eN (w.alloc (.cells #[.int .i64 k,.string s,.slice r g.length z,.slice m ks.length n] 25)) (.cells #[.int .i64 D,.string B,.slice J A.length O,.slice E d.length C] 25)).1;have cA:((w.alloc (.cells #[.int .i64 k,.string s,.slice r g.length z,.slice m ks.length n] 25)).alloc (.cells #[.int .i64 D,.string B,.slice J A.length O,.slice E d.length C] 25)).cell? ⟨w.heap.size,3,none⟩=some (.slice m ks.length n):=by simp only[zS,(ya _).block w.heap.size (show w.heap.size<(w.alloc _).heap.size by simp),V];rfl
 have cB:((w.alloc (.cells #[.int .i64 k,.string s,.slice r g.length z,.slice m ks.length n] 25)).alloc (.cells #[.int .i64 D,.string B,.slice J A.length O,.slice E d.length C] 25)).cell? ⟨w.heap.size+1,3,none⟩=some (.slice E d.length C):=by
  have e:(w.alloc (.cells #[.int .i64 k,.string s,.slice r g.length z,.slice m ks.length n] 25)).heap.size=w.heap.size+1:=by simp
  rw[e]at G;simp only[zS,G];rfl
 have h:=za c;have o:=za W;have N:=za cA;have Q:=za cB;have ap:=za (F.below c);have am:=za (M.below c);have HS:=za (Mj _ _ g A ((w.alloc (.cells #[.int .i64 k,.string s,.slice r g.length z,.slice m ks.length n] 25)).alloc (.cells #[.int .i64 D,.string B,.slice J A.length O,.slice E d.length C] 25)) (P.below c) (I.below c) U);clear hla hlb P I F M c W V G cA cB hF U;by_cases e1:k=D
 case neg=>
  have d1:(k !=D)=true:=by simpa using e1
  go_enter Tryz.func10,Tryz.ntmps10;go_wp2;go_ret;exact⟨yA (by simp[e1]),h.out⟩
 subst e1;by_cases e2:s=B
 case neg=>
  have d2:(!s.toList==B.toList)=true:=by rw[CU];simp[e2]
  go_enter Tryz.func10,Tryz.ntmps10;go_wp2;go_ret;exact⟨yA (by simp[e2]),h.out⟩
 subst e2;have d1:(k !=k)=false:=by simp
 have d2:(!s.toList==s.toList)=false:=by simp
 by_cases e3:g=A
 case neg=>have HD:=za (decide_eq_false e3);go_enter Tryz.func10,Tryz.ntmps10;go_wp2_with (first|(go_at_call 29;refine HS.out.mono ?_;rintro e w3 ⟨rfl,f⟩;rw[HD.out]));go_ret;exact⟨yA (by simp[e3]),h.out.trans (f.mono h.out.size)⟩
 subst e3;have HD:=za (decide_eq_true (rfl:g=g));by_cases e4:ks.length=d.length
 case neg=>
  have d4:((ks.length:Int) !=(d.length:Int))=true:=by simp;omega
  go_enter Tryz.func10,Tryz.ntmps10;go_wp2_with (first|(go_at_call 29;refine HS.out.mono ?_;rintro e w3 ⟨rfl,f⟩;rw[HD.out];have X:=(f.cell (p:=⟨w.heap.size,3,none⟩) (by simp;omega)).trans N.out;have ab:=(f.cell (p:=⟨w.heap.size+1,3,none⟩) (by simp)).trans Q.out));go_ret;exact⟨yA (by simp;rintro rfl;exact e4 rfl),h.out.trans (f.mono h.out.size)⟩
 have d4:((ks.length:Int) !=(d.length:Int))=false:=by simp;omega
 have v:=za e4;clear e4;go_enter Tryz.func10,Tryz.ntmps10;go_wp2_with (first|(go_at_call 29;refine HS.out.mono ?_;rintro e w3 ⟨rfl,f⟩;rw[HD.out];have X:=(f.cell (p:=⟨w.heap.size,3,none⟩) (by simp;omega)).trans N.out;have ab:=(f.cell (p:=⟨w.heap.size+1,3,none⟩) (by simp)).trans Q.out));have ao:=za f;clear X ab f;go_loopw [5] (λi w'=>∃j:Nat,j<=ks.length/\ks.take j=d.take j/\i=.int .i64 j/\Below (w.heap.size+2) ((w.alloc (.cells #[.int .i64 k,.string s,.slice r g.length z,.slice m ks.length n] 25)).alloc (.cells #[.int .i64 k,.string s,.slice J g.length O,.slice E d.length C] 25)) w') (λi _=>ks.length-(intOf i).toNat)
 case atStart=>exact⟨0,by omega,by simp,rfl,by have:=ao.out;rw[o.out]at this;exact this⟩
 case round=>
  rename_i wr hrel;obtain⟨j,hj,q,rfl,c⟩:=hrel;have Y:=ap.out.below (by rw[o.out];exact c);have l:=am.out.below (by rw[o.out];exact c);rw[<-v.out]at l;have be:=(c.cell (p:=⟨w.heap.size,3,none⟩) (by simp)).trans N.out;have ac:=(c.cell (p:=⟨w.heap.size+1,3,none⟩) (by simp)).trans Q.out;rw[<-v.out]at ac;have HB:=za c;clear c;by_cases Z:j<ks.length
  .obtain⟨t,H⟩:∃t,ks[j]?=some t:=⟨ks[j],zc Z⟩
   obtain⟨u,hu⟩:∃u,d[j]?=some u:=⟨d[j]'(by rw[<-v.out];exact Z),zc _⟩
   have au:=T.sizes_take H;have aa:T.sizes (ks.take (j+1))<=T.sizes ks:=by have:=T.sizes_append (ks.take (j+1)) (ks.drop (j+1));rw[oz]at this;omega
   obtain⟨ba,oa,rfl,a6,bh,a1,c0,c1,c2,c3,x⟩:=Y.at H;obtain⟨bb,ob,rfl,a5,a3,bg,f0,f1,f2,f3,y⟩:=l.at hu;obtain⟨pg,cg,rfl⟩:=x.gaps.slice;obtain⟨pk,ck,rfl⟩:=x.kids.slice;obtain⟨a8,bc,rfl⟩:=y.gaps.slice;obtain⟨bd,a7,rfl⟩:=y.kids.slice;have HI:=za (ih t (zq H) u _ _ _ _ wr.drew (T.Lies.below ((zt _ _).drew) t x) (T.Lies.below ((zt _ _).drew) u y) (by omega) (S t (zq H)));have HE:=za (CF H hu q);have HN:=za (ID H hu);clear Y l H hu ih x y q au aa;have ar:w.heap.size+2<=wr.heap.size:=by have:=HB.out.size;rw[o.out]at this;exact this
   have R:w.heap.size<=wr.heap.size:=by omega
   by_cases e:t=u
   .have HT:=za (decide_eq_true e);have an:=za (HE.out e);clear HE HN e;go_wp2;go_still_tail 10,(by kernel_rfl)
    go_wp2_with (first|(go_at_call 10;refine HI.out.mono ?_;rintro e w' ⟨rfl,L⟩;rw[HT.out]));go_roundw
    case rel=>exact⟨j+1,by omega,an.out,by go_num,HB.out.trans (((zt _ _).drew).trans (L.mono ar))⟩
    case measure=>simp[intOf];omega
   .have HT:=za (decide_eq_false e);have ai:=za (HN.out e);clear HE HN e;go_wp2;go_still_tail 10,(by kernel_rfl)
    go_wp2_with (first|(go_at_call 10;refine HI.out.mono ?_;rintro e w' ⟨rfl,L⟩;rw[HT.out]));go_ret;exact⟨yA (by simp[ai.out]),h.out.trans ((HB.out.mono (by omega)).trans (((zt _ _).drew).trans (L.mono R)))⟩
  .obtain rfl:j=ks.length:=by omega
   rw[zY,v.out,zY]at q;go_wp2;go_ret;exact⟨yA (by simp[q]),h.out.trans (HB.out.mono (by omega))⟩
def yo(w:ze)(v:zg)(l:List Int):Prop:=((∃p c,v=.slice p 0 c)/\l=[])\/∃b off cap,v=.slice (some ⟨b,off,none⟩) l.length cap/\l.length<=cap/\b<w.heap.size/\∀i(x:Int),l[i]?=some x->w.cell? ⟨b,off+i,none⟩=some (.int .i64 x)
theorem yo.below{w wr:ze}{v:zg}{l:List Int}(h:yo w v l)(hb:Below w.heap.size w wr):yo wr v l:=by
 rcases h with h|⟨b,c,f,g,a,d,j⟩
 .exact .inl h
 .exact .inr ⟨b,c,f,g,a,ez d hb.size,λi p hp=>(hb.cell (p:=⟨b,c+i,none⟩) d).trans (j i p hp)⟩
theorem yo.slice{w:ze}{v:zg}{l:List Int}(h:yo w v l):∃p c,v=.slice p l.length c:=by
 rcases h with⟨⟨p,c,rfl⟩,rfl⟩|⟨b,d,a,rfl,_⟩
 .exact⟨p,c,rfl⟩
 .exact⟨_,_,rfl⟩
theorem yo.at{w:ze}{p:Option oh}{n c:Nat}{l:List Int}(h:yo w (.slice p n c) l){i:Nat}{x:Int}(hi:l[i]?=some x):∃b off,p=some ⟨b,off,none⟩/\b<w.heap.size/\w.cell? ⟨b,off+i,none⟩=some (.int .i64 x):=by
 rcases h with⟨_,rfl⟩|⟨b,off,f,e,_,a,d⟩
 .simp at hi
 .cases e;exact⟨b,off,rfl,a,d i x hi⟩
theorem NV{l:List Int}{j:Nat}{x y:Int}(h:l[j]?=some y):x∈l.drop j↔x=y\/x∈l.drop (j+1):=by obtain⟨a,rfl⟩:=zm.1 h;rw[List.drop_eq_getElem_cons a,zO]
theorem Np(v:zg)(l:List Int)(x:Int)(w:ze)(hv:yo w v l)(hn:l.length<=1000000):zM Tryz.prog 104 #[v,.int .i64 x] w λe w'=>(∃r:Int,e=.returned (.int .i64 r)/\decide (r>=0)=decide (x∈l))/\w'=w:=by
 obtain⟨p,c,rfl⟩:=hv.slice;go_enter Tryz.func104,Tryz.ntmps104;go_wp2;go_loop [8] (λi=>∃j:Nat,j<=l.length/\(x∈l↔x∈l.drop j)/\i=.int .i64 j) (λi=>l.length-(intOf i).toNat)
 case atStart=>exact⟨0,by omega,by simp,rfl⟩
 case round=>
  rename_i hrel;obtain⟨j,o,f,rfl⟩:=hrel;by_cases d:j<l.length
  .obtain⟨y,a⟩:∃y,l[j]?=some y:=⟨l[j],zc d⟩
   obtain⟨b,g,rfl,_,q⟩:=hv.at a;have h:=za f;have m:=za (NV (x:=x) a);have n:=za (zq a);clear f a;by_cases e:x=y
   .subst e;have k:(x==x)=true:=by simp
    go_wp2;go_ret;exact⟨⟨_,rfl,by simp[n.out]⟩,rfl⟩
   .have k:(x==y)=false:=by simpa using e
    go_wp2;go_round
    case rel=>exact⟨j+1,by omega,by rw[h.out,m.out];simp[e],by go_num⟩
    case measure=>simp[intOf];omega
  .obtain rfl:j=l.length:=by omega
   go_wp2;go_ret;exact⟨⟨_,rfl,by simp[f]⟩,rfl⟩
theorem B3(v:zg)(l:List Int)(x:Int)(w:ze)(hv:yo w v l)(hn:l.length<=1000000):zM Tryz.prog 98 #[v,.int .i64 x] w λe w'=>e=.returned (.bool (decide (x∈l)))/\w'=w:=by
 have b:=za (Np v l x w hv hn);clear hv;go_enter Tryz.func98,Tryz.ntmps98;go_wp2_with (first|(go_at_call 104;refine b.out.mono ?_;rintro e w' ⟨⟨r,rfl,a⟩,rfl⟩));go_ret;first
  |exact⟨rfl,rfl⟩
  |exact⟨yA a,rfl⟩
def BX(b l r:Int):Int×Bool:=if l=b\/l=r then(r,true)else if r=b then(l,true)else(b,false)
theorem LP(b l r:Int)(w:ze):zM Tryz.prog 72 #[.int .i64 b,.int .i64 l,.int .i64 r] w λe w'=>e=.returned (.tuple #[.int .i64 (BX b l r).1,.bool (BX b l r).2])/\w'=w:=by
 by_cases c:l=b
 .subst c;have a:BX l l r=(r,true):=by simp[BX]
  rw[a];have d:(l==l)=true:=by simp
  go_enter Tryz.func72,Tryz.ntmps72;go_wp2;exact eG (iD rfl _ _ _) rfl ⟨rfl,rfl⟩
 have j:(l==b)=false:=by simpa using c
 by_cases f:l=r
 .subst f;have a:BX b l l=(l,true):=by simp[BX]
  rw[a];have d:(l==l)=true:=by simp
  go_enter Tryz.func72,Tryz.ntmps72;go_wp2;exact eG (iD rfl _ _ _) rfl ⟨rfl,rfl⟩
 have i:(l==r)=false:=by simpa using f
 by_cases g:r=b
 .subst g;have a:BX r l r=(l,true):=by simp[BX,c]
  rw[a];have h:(r==r)=true:=by simp
  go_enter Tryz.func72,Tryz.ntmps72;go_wp2;exact eG (iD rfl _ _ _) rfl ⟨rfl,rfl⟩
 have h:(r==b)=false:=by simpa using g
 have a:BX b l r=(b,false):=by simp[BX,c,f,g]
 rw[a];go_enter Tryz.func72,Tryz.ntmps72;go_wp2;exact eG (iD rfl _ _ _) rfl ⟨rfl,rfl⟩
theorem JW(va vb:zg)(a b:List ByteArray)(w:ze)(ha:yI w va a)(hb:yI w vb b)(hn:a.length<=9223372036854775807):zM Tryz.prog 171 #[va,vb] w λe w'=>e=.returned (.bool (decide (a=b)))/\Below w.heap.size w w':=by
 obtain⟨B,C,rfl⟩:=ha.slice;obtain⟨H,t,rfl⟩:=hb.slice;by_cases h:a.length=b.length
 .rw[<-h]at hb⊢;have p:=za h;clear h;go_enter Tryz.func171,Tryz.ntmps171;go_wp2;go_loopw [13] (λi w'=>∃j:Nat,j<=a.length/\a.take j=b.take j/\i=.int .i64 j/\Below w.heap.size w w') (λi _=>a.length-(intOf i).toNat)
  case atStart=>exact⟨0,by omega,by simp,rfl,zt _ _⟩
  case round=>
   rename_i wr hrel;obtain⟨j,A,d,rfl,c⟩:=hrel;replace ha:=ha.below c;replace hb:=hb.below c;have m:=za c;clear c;by_cases f:j<a.length
   .obtain⟨x,g⟩:∃x,a[j]?=some x:=⟨a[j],zc f⟩
    obtain⟨y,k⟩:∃y,b[j]?=some y:=⟨b[j]'(by rw[<-p.out];exact f),zc _⟩
    obtain⟨F,D,rfl,_,v⟩:=ha.at g;obtain⟨s,G,rfl,_,E⟩:=hb.at k;have o:=za (CF g k d);have q:=za (ID g k);clear g k d;by_cases e:x=y
    .subst e;have n:=za (o.out rfl);clear o q;have r:(!x.toList==x.toList)=false:=by simp
     go_wp2;go_quiet (fail);go_wp2;go_roundw
     case rel=>exact⟨j+1,by omega,n.out,by go_num,yk m.out⟩
     case measure=>simp[intOf];omega
    .have r:(!x.toList==y.toList)=true:=by rw[CU];simp[e]
     go_wp2;go_quiet (fail);go_wp2;go_ret;exact⟨yA (by simp[q.out e]),yk m.out⟩
   .obtain rfl:j=a.length:=by omega
    rw[zY,p.out,zY]at d;go_wp2;go_ret;exact⟨yA (by simp[d]),m.out⟩
 .have l:a≠b:=λe=>h (by rw[e]);have z:¬((a.length:Int)=(b.length:Int)):=by omega
  go_enter Tryz.func171,Tryz.ntmps171;go_wp2;go_ret;exact⟨yA (by simp[l]),zt _ _⟩
theorem Dx(va vb:zg)(a b:List Int)(w:ze)(ha:yo w va a)(hb:yo w vb b)(hn:a.length<=9223372036854775807):zM Tryz.prog 190 #[va,vb] w λe w'=>e=.returned (.bool (decide (a=b)))/\Below w.heap.size w w':=by
 obtain⟨B,C,rfl⟩:=ha.slice;obtain⟨H,t,rfl⟩:=hb.slice;by_cases h:a.length=b.length
 .rw[<-h]at hb⊢;have p:=za h;clear h;go_enter Tryz.func190,Tryz.ntmps190;go_wp2;go_loopw [13] (λi w'=>∃j:Nat,j<=a.length/\a.take j=b.take j/\i=.int .i64 j/\Below w.heap.size w w') (λi _=>a.length-(intOf i).toNat)
  case atStart=>exact⟨0,by omega,by simp,rfl,zt _ _⟩
  case round=>
   rename_i wr hrel;obtain⟨j,A,d,rfl,c⟩:=hrel;replace ha:=ha.below c;replace hb:=hb.below c;have m:=za c;clear c;by_cases f:j<a.length
   .obtain⟨x,g⟩:∃x,a[j]?=some x:=⟨a[j],zc f⟩
    obtain⟨y,k⟩:∃y,b[j]?=some y:=⟨b[j]'(by rw[<-p.out];exact f),zc _⟩
    obtain⟨F,D,rfl,_,v⟩:=ha.at g;obtain⟨s,G,rfl,_,E⟩:=hb.at k;have o:=za (CF g k d);have q:=za (ID g k);clear g k d;by_cases e:x=y
    .subst e;have n:=za (o.out rfl);clear o q;have r:(x !=x)=false:=by simp
     go_wp2;go_quiet (fail);go_wp2;go_roundw
     case rel=>exact⟨j+1,by omega,n.out,by go_num,yk m.out⟩
     case measure=>simp[intOf];omega
    .have r:(x !=y)=true:=by simpa using e
     go_wp2;go_quiet (fail);go_wp2;go_ret;exact⟨yA (by simp[q.out e]),yk m.out⟩
   .obtain rfl:j=a.length:=by omega
    rw[zY,p.out,zY]at d;go_wp2;go_ret;exact⟨yA (by simp[d]),m.out⟩
 .have l:a≠b:=λe=>h (by rw[e]);have z:¬((a.length:Int)=(b.length:Int)):=by omega
  go_enter Tryz.func190,Tryz.ntmps190;go_wp2;go_ret;exact⟨yA (by simp[l]),zt _ _⟩
theorem DF(va vb:zg)(a b:List ByteArray)(w:ze)(ha:yI w va a)(hb:yI w vb b)(hn:a.length<=9223372036854775807):zM Tryz.prog 147 #[va,vb] w λe w'=>e=.returned (.bool (decide (a=b)))/\Below w.heap.size w w':=by have d:=za (JW va vb a b w ha hb hn);clear ha hb;go_enter Tryz.func147,Tryz.ntmps147;go_wp2_with (first|(go_at_call 171;refine d.out.mono ?_;rintro e w' ⟨rfl,c⟩));go_ret;exact⟨rfl,c⟩
structure An where
 parent:Int
 k:Int
 s:ByteArray
 g:List ByteArray
 kids:List Int
def yO(next:Nat):List T->List Int
 |[]=>[]
 |t::ts=>(next:Int)::yO (next+t.size) ts
mutual
def T.rows (i:Nat) (parent:Int):T->List An
 |.mk k s g ks=>⟨parent,k,s,g,yO (i+1) ks⟩::T.rowsL (i+1) i ks
def T.rowsL (next:Nat) (parent:Int):List T->List An
 |[]=>[]
 |t::ts=>t.rows next parent++T.rowsL (next+t.size) parent ts
end
mutual
theorem T.length_rows:∀(t:T)(i:Nat)(parent:Int),(t.rows i parent).length=t.size
 |.mk k s g ks,i,parent=>by rw[T.rows,T.size,lN,T.length_rowsL];omega
theorem T.length_rowsL:∀(ts:List T)(i:Nat)(parent:Int),(T.rowsL i parent ts).length=T.sizes ts
 |[],i,parent=>by simp[T.rowsL,T.sizes]
 |t::ts,i,parent=>by rw[T.rowsL,T.sizes,zT,T.length_rows,T.length_rowsL]
end
theorem T.rowsL_append:∀(a b:List T)(i:Nat)(parent:Int),T.rowsL i parent (a++b)=T.rowsL i parent a++T.rowsL (i+T.sizes a) parent b
 |[],b,i,parent=>by simp[T.rowsL,T.sizes]
 |t::a,b,i,parent=>by rw[zat,T.rowsL,T.rowsL,T.rowsL_append a b,T.sizes,lW,iH]
theorem C1:∀(a b:List T)(i:Nat),yO i (a++b)=yO i a++yO (i+T.sizes a) b
 |[],b,i=>by simp[yO,T.sizes]
 |t::a,b,i=>by rw[zat,yO,yO,C1 a b,T.sizes,zat,iH]
theorem yK:∀(a:List T)(i:Nat),(yO i a).length=a.length
 |[],i=>rfl
 |t::a,i=>by rw[yO,lN,yK a,lN]
theorem T.rowsL_take{ks:List T}{j:Nat}{t:T}(h:ks[j]?=some t)(i:Nat)(parent:Int):T.rowsL i parent (ks.take (j+1))=T.rowsL i parent (ks.take j)++t.rows (i+T.sizes (ks.take j)) parent:=by rw[z6,h,T.rowsL_append];simp[T.rowsL]
theorem Gv{ks:List T}{j:Nat}{t:T}(h:ks[j]?=some t)(i:Nat):yO i (ks.take (j+1))=yO i (ks.take j)++[((i+T.sizes (ks.take j):Nat):Int)]:=by rw[z6,h,C1];simp[yO]
def CI(w:ze)(base:Nat)(v:zg)(l:List Int):Prop:=(v=.slice none 0 0/\l=[])\/∃b,base<=b/\v=.slice (some ⟨b,0,none⟩) l.length l.length/\w.heap[b]?=some (.cells (l.map (zX .i64)).toArray 3 (0,0))
theorem CI.ints{w:ze}{base:Nat}{v:zg}{l:List Int}(h:CI w base v l):yo w v l:=by
 rcases h with⟨rfl,rfl⟩|⟨b,c,rfl,a⟩
 .exact .inl ⟨⟨_,_,rfl⟩,rfl⟩
 .refine .inr ⟨b,0,l.length,rfl,zn _,(eh.1 a).1,λi s hi=>?_⟩;simp only[zS,a];simp[hi]
theorem CI.block{w w':ze}{base:Nat}{v:zg}{l:List Int}(h:CI w base v l)(hk:∀b,v.ownBlock=some b->w'.heap[b]?=w.heap[b]?):CI w' base v l:=by
 rcases h with h|⟨b,c,rfl,a⟩
 .exact .inl h
 .exact .inr ⟨b,c,rfl,(hk b rfl).trans a⟩
def IN(w:ze)(base:Nat)(r:An)(vs:List zg):Prop:=∃gv kv,vs=[.int .i64 r.parent,.int .i64 r.k,.string r.s,gv,kv]/\AH w base gv r.g/\CI w base kv r.kids
theorem IN.block{w w':ze}{base:Nat}{r:An}{vs:List zg}(h:IN w base r vs)(hk:∀x∈vs,∀b,x.ownBlock=some b->w'.heap[b]?=w.heap[b]?):IN w' base r vs:=by obtain⟨c,a,rfl,d,f⟩:=h;exact⟨c,a,rfl,d.block (hk c (by simp)),f.block (hk a (by simp))⟩
open Go.RowKit Go.Maps Go.MapKept
structure V0 where
 k:Int
 s:ByteArray
 gp:Option oh
 gn:Nat
 gc:Nat
 parent:Int
 kp:Option oh
 kn:Nat
 kc:Nat
def V0.val(x:V0):zg:=.agg #[.int .i64 x.k,.string x.s,.slice x.gp x.gn x.gc,.int .i64 x.parent,.slice x.kp x.kn x.kc]
def WT:V0:=⟨0,.empty,none,0,0,0,none,0,0⟩
theorem Dr(w:ze):(zeroValue 94).run Tryz.prog w=.ok WT.val w:=by kernel_rfl
def Bv(w:ze)(b n:Nat)(S:Int->Prop):Prop:=Ae w b n λi=>if S i then some (.bool true)else none
theorem Bv.congr{w:ze}{b n:Nat}{S T:Int->Prop}(h:Bv w b n S)(e:∀i,S i↔T i):Bv w b n T:=Ae.congr h λi=>by simp[e i]
theorem Bv.add{w:ze}{b n:Nat}{S:Int->Prop}{k:Int}(h:Ae w b n (upd (λi=>if S i then some (.bool true)else none) k (.bool true))):Bv w b n λi=>i=k\/S i:=by
 refine Ae.congr h λi=>?_;unfold upd;by_cases e:i=k
 .simp[e]
 .simp[e]
theorem UJ(w:ze):(zeroValue 4).run Tryz.prog w=.ok (.bool false) w:=by kernel_rfl
theorem Bv.look{w:ze}{b n:Nat}{S:Int->Prop}(h:Bv w b n S)(i:Int)(hi:yw i):(ec 65 (.map (some b)) (.int .i64 i) false).run Tryz.prog w=.ok (.bool (decide (S i))) w:=by
 have:=Ae.look h (t:=65) (e:=4) Tryz.underlying65 (UJ w) i hi;rw[this];by_cases e:S i
 .simp[e]
 .simp[e]
theorem CL(v:zg)(l:List Int)(w:ze)(hv:yo w v l)(hn:l.length<=1000000)(hf:∀x∈l,yw x):zM Tryz.prog 138 #[v] w λe w'=>e=.returned (.map (some w.heap.size))/\Bv w' w.heap.size l.length (λi=>i∈l)/\Below w.heap.size w w':=by
 obtain⟨p,c,rfl⟩:=hv.slice;have hmk:(za2 65 none).run Tryz.prog w=.ok (.map (some w.heap.size)) (w.alloc (.map #[] 0)):=run_makeMap _ w;go_enter Tryz.func138,Tryz.ntmps138;go_wp2;go_loopw [9] (λi w'=>∃j:Nat,j<=l.length/\Bv w' w.heap.size j (λx=>x∈l.take j)/\i=.int .i64 j/\Below w.heap.size w w') (λi _=>l.length-(intOf i).toNat)
 case atStart=>exact⟨0,by omega,(Bv.congr (S:=λ_=>False) (by have:=B6 w;exact this.congr λi=>by simp) (λi=>by simp)),rfl,ya _⟩
 case round=>
  rename_i wr hrel;obtain⟨j,t,d,rfl,a⟩:=hrel;have f:=hv.below a;have o:=za a;have q:=za d;clear a d;by_cases k:j<l.length
  .obtain⟨x,g⟩:∃x,l[j]?=some x:=⟨l[j],zc k⟩
   obtain⟨b,r,rfl,_,z⟩:=f.at g;have n:=hf x (zq g);have s:=za (show∀i:Int,(i=x\/i∈l.take j)↔i∈l.take (j+1)fromλi=>by rw[z6,g];simp[or_comm]);clear g f;go_wp2_with (at_mapUpdate;refine yS rfl _ _ _ 65 4 rfl Tryz.underlying65 w.heap.size j _ rfl q.out (by simp[maxLen];omega) x rfl n ?_;intro y h m);go_roundw
   case rel=>exact⟨j+1,by omega,(Bv.add h).congr s.out,by go_num,o.out.trans (yE m (zn _))⟩
   case measure=>simp[intOf];omega
  .obtain rfl:j=l.length:=by omega
   go_wp2;go_ret;exact⟨rfl,q.out.congr λi=>by rw[zY],o.out⟩
theorem Br:(Tryz.prog.info? 3).map (λi=>(i.zero,i.size,i.bytes))=some (some (.int .i64 0),1,8):=by kernel_rfl
theorem AR(w:ze)(x:zg)(t:TypeId):∀j u,[x][j]?=some u->(w.alloc (.cells #[x] t)).cell? ((⟨w.heap.size,0,none⟩:oh).add j)=some u:=by
 intro j u h;match j,h with
 |0,h=>cases h;have:=(eN w (.cells #[x] t)).1;show(w.alloc (.cells #[x] t)).cell? ⟨w.heap.size,0,none⟩=some x;simp only[zS,this];rfl
def yj(w:ze)(base:Nat)(v:zg)(l:List Int):Prop:=w.ownsRow base 3 1 v l.length (l.map (zX .i64))
noncomputable def B9(S:Int->Prop)(l:List Int):List Int:=l.filter λx=>decide (S x)
theorem RN{S:Int->Prop}{l:List Int}{j:Nat}{x:Int}(h:l[j]?=some x):B9 S (l.take (j+1))=B9 S (l.take j)++(if S x then[x]else[]):=by
 unfold B9;rw[z6,h];simp only[zaQ,List.filter_append];congr 1;by_cases e:S x
 .simp[zd2,e]
 .simp[zd2,e]
theorem Oa(v:zg)(l:List Int)(b n:Nat)(S:Int->Prop)(w:ze)(hv:yo w v l)(hS:Bv w b n S)(hn:l.length<=1000000)(hf:∀x∈l,yw x):zM Tryz.prog 187 #[v,.map (some b)] w λe w'=>∃u,e=.returned u/\yj w' w.heap.size u (B9 S l)/\Below w.heap.size w w':=by
 obtain⟨p,c,rfl⟩:=hv.slice;have A:b<w.heap.size:=Ae.lt hS;obtain⟨N,P,G,D,F⟩:=iY Br;go_enter Tryz.func187,Tryz.ntmps187;go_wp2;go_loopw [5,10] (λu i w'=>∃j:Nat,j<=l.length/\yj w' w.heap.size u (B9 S (l.take j))/\Below w.heap.size w w'/\i=.int .i64 j) (λ_ i _=>l.length-(intOf i).toNat)
 case atStart=>exact⟨0,by omega,(show w.ownsRow w.heap.size 3 1 (.slice none 0 0) 0 []from ed _ _ _ _),zt _ _,rfl⟩
 case round=>
  rename_i wr hrel;obtain⟨j,R,k,f,rfl⟩:=hrel;have o:=hv.below f;have s:Bv wr b n S:=Ae.below hS f A;have z:=za k;have g:=za f;clear k f;by_cases E:j<l.length
  .obtain⟨x,t⟩:∃x,l[j]?=some x:=⟨l[j],zc E⟩
   obtain⟨T,M,rfl,J,Q⟩:=o.at t;have r:=s.look x (hf x (zq t));have y:=za (RN (S:=S) t);have O:(B9 S (l.take j)).length<=1000000:=by have I:=List.length_filter_le (λx=>decide (S x)) (l.take j);have V:(l.take j).length<=l.length:=zcl ..;unfold B9;omega
   clear t o s;generalize H:B9 S (l.take j)=L at*;by_cases e:S x
   .have B:eW (B9 S (l.take (j+1))=L++[x]):=za (by rw[y.out,if_pos e]);have d:decide (S x)=true:=by simpa using e
    rw[d]at r;clear y e d H;go_wp2_with (at_builtin;refine ew _ rfl _ _ 55 rfl w.heap.size 3 N (.int .i64 0) 1 8 Tryz.underlying55 P G D F rfl (by decide) _ L.length (L.map (zX .i64)) rfl (zy z.out _) ⟨wr.heap.size,0,none⟩ 1 1 [.int .i64 x] rfl rfl (AR _ _ _) (by simp[ej]) (by simp[maxLen];omega) (by omega) (zI g.out.size (ya _).size) ?_;intro W U m a C);go_roundw
    case rel=>
     refine⟨j+1,by omega,?_,?_,by go_num⟩
     .rw[B.out];unfold yj;simpa using m
     .refine⟨a.os.trans g.out.os,a.tape.trans g.out.tape,a.output.trans g.out.output,?_,λq hq=>?_⟩
      .exact zI g.out.size (zI (ya _).size a.size)
      .have I:=g.out.size;refine(a.block q (by simp;omega) (λe=>?_)).trans (((ya (w:=wr) _).block q (by omega)).trans (g.out.block q hq));have:=(zE z.out q e.symm).1;omega
    case measure=>simp[intOf];omega
   .have B:eW (B9 S (l.take (j+1))=L):=za (by rw[y.out,if_neg e,iW]);have d:decide (S x)=false:=by simpa using e
    rw[d]at r;clear y e d H;go_wp2;go_roundw
    case rel=>exact⟨j+1,by omega,by rw[B.out];exact z.out,g.out,by go_num⟩
    case measure=>simp[intOf];omega
  .obtain rfl:j=l.length:=by omega
   go_wp2;go_ret;have h:=z.out;rw[zY]at h;exact⟨_,rfl,h,g.out⟩
noncomputable def Ad(acc:List Int)(x:Int):List Int:=if x∈acc then acc else acc++[x]
noncomputable def Ai(l:List Int):List Int:=l.foldl Ad []
theorem QU{l:List Int}{j:Nat}{x:Int}(h:l[j]?=some x):Ai (l.take (j+1))=Ad (Ai (l.take j)) x:=by unfold Ai;rw[z6,h,zaQ,List.foldl_append];rfl
theorem Lf(l:List Int):∀(acc:List Int)(x:Int),x∈l.foldl Ad acc↔x∈acc\/x∈l:=by
 induction l with
 |nil=>simp
 |cons y l ih=>
  intro acc x;rw[zbL,ih];unfold Ad;by_cases h:y∈acc
  .rw[if_pos h];simp only[zO];constructor
   .rintro(h1|h1)
    .exact .inl h1
    .exact .inr (.inr h1)
   .rintro(h1|rfl|h1)
    .exact .inl h1
    .exact .inl h
    .exact .inr h1
  .rw[if_neg h];simp only[zO,List.mem_append,e8,or_false];rw[or_assoc]
theorem CN(l:List Int)(x:Int):x∈Ai l↔x∈l:=by simp[Ai,Lf]
theorem Ih(l:List Int):∀acc:List Int,(l.foldl Ad acc).length<=acc.length+l.length:=by
 induction l with
 |nil=>simp
 |cons y l ih=>
  intro acc;rw[zbL];have:=ih (Ad acc y);have a:(Ad acc y).length<=acc.length+1:=by
   unfold Ad;split
   .omega
   .simp
  simp only[lN];omega
theorem Aw(l:List Int):(Ai l).length<=l.length:=by simpa[Ai]using Ih l []
theorem UZ{w:ze}{base base':Nat}{v:zg}{l:List Int}(h:yj w base v l)(hb:base'<=base):yj w base' v l:=by
 obtain⟨d,a⟩:=h;refine⟨d,?_⟩;rcases a with a|⟨g,c,b,e,f,r⟩
 .exact .inl a
 .exact .inr ⟨g,c,b,e,zI hb f,r⟩
theorem E2(v:zg)(l:List Int)(w:ze)(hv:yo w v l)(hn:l.length<=1000000)(hf:∀x∈l,yw x):zM Tryz.prog 141 #[v] w λe w'=>∃u,e=.returned u/\yj w' w.heap.size u (Ai l)/\Below w.heap.size w w':=by
 obtain⟨p,c,rfl⟩:=hv.slice;obtain⟨V,X,J,G,I⟩:=iY Br;have hmk:(za2 65 none).run Tryz.prog w=.ok (.map (some w.heap.size)) (w.alloc (.map #[] 0)):=run_makeMap _ w;go_enter Tryz.func141,Tryz.ntmps141;go_wp2;go_loopw [4,10] (λu i w'=>∃j:Nat,j<=l.length/\yj w' (w.heap.size+1) u (Ai (l.take j))/\Bv w' w.heap.size j (λx=>x∈l.take j)/\Below w.heap.size w w'/\w.heap.size+1<=w'.heap.size/\i=.int .i64 j) (λ_ i _=>l.length-(intOf i).toNat)
 case atStart=>exact⟨0,by omega,(show(w.alloc (.map #[] 0)).ownsRow (w.heap.size+1) 3 1 (.slice none 0 0) 0 []from ed _ _ _ _),(Bv.congr (S:=λ_=>False) (by have:=B6 w;exact this.congr λi=>by simp) (λi=>by simp)),ya _,by simp,rfl⟩
 case round=>
  rename_i wr hrel;obtain⟨j,hj,m,k,d,O,rfl⟩:=hrel;have r:=hv.below d;have y:=za m;have A:=za k;have M:=za d;clear m k d hmk;by_cases H:j<l.length
  .obtain⟨x,t⟩:∃x,l[j]?=some x:=⟨l[j],zc H⟩
   obtain⟨b',U,rfl,R,Z⟩:=r.at t;have n:=hf x (zq t);have B:=za (QU t);have N:=za (show∀i:Int,(i=x\/i∈l.take j)↔i∈l.take (j+1)fromλi=>by rw[z6,t];simp[or_comm]);have g:=za (CN (l.take j) x);have W:(Ai (l.take j)).length<=1000000:=by have Q:=Aw (l.take j);have h2:(l.take j).length<=l.length:=zcl ..;omega
   clear t r;generalize P:Ai (l.take j)=L at*;by_cases e:x∈l.take j
   .have F:(ec 65 (.map (some w.heap.size)) (.int .i64 x) false).run Tryz.prog wr=.ok (.bool true) wr:=by rw[A.out.look x n];simp[e]
    have C:eW (Ai (l.take (j+1))=L):=za (by rw[B.out,Ad,if_pos (g.out.2 e)]);have Y:eW (∀i:Int,i∈l.take j↔i∈l.take (j+1)):=za (λi=>by
     rw[<-N.out i];constructor
     .exact .inr
     .rintro(rfl|h)
      .exact e
      .exact h)
    clear B N g e P;go_wp2;go_roundw
    case rel=>exact⟨j+1,by omega,by rw[C.out];exact y.out,Bv.congr (Ae.mono A.out (by omega)) Y.out,M.out,O,by go_num⟩
    case measure=>simp[intOf];omega
   .have F:(ec 65 (.map (some w.heap.size)) (.int .i64 x) false).run Tryz.prog wr=.ok (.bool false) wr:=by rw[A.out.look x n];simp[e]
    have s:eW (u4.ownBlock=none\/u4.ownBlock≠some w.heap.size):=za (by
     by_cases h:u4.ownBlock=some w.heap.size
     .have:=(zE y.out w.heap.size h).1;omega
     .exact .inr h)
    have C:eW (Ai (l.take (j+1))=L++[x]):=za (by rw[B.out,Ad,if_neg (λh=>e (g.out.1 h))]);clear B g e P;go_wp2_with (first
     |(at_mapUpdate;refine yS rfl _ _ _ 65 4 rfl Tryz.underlying65 w.heap.size j _ rfl A.out (by simp[maxLen];omega) x rfl n ?_;intro z E f)
     |(at_builtin;refine ew _ rfl _ _ 55 rfl (w.heap.size+1) 3 V (.int .i64 0) 1 8 Tryz.underlying55 X J G I rfl (by decide) _ L.length (L.map (zX .i64)) rfl (zy (zF y.out (ik f) s.out) _) ⟨z.heap.size,0,none⟩ 1 1 [.int .i64 x] rfl rfl (AR _ _ _) (by simp[ej]) (by simp[maxLen];omega) (by omega) (by simp;have:=yU f;omega) ?_;intro v' w2 o a D))
    have T:=yU f;have b:=za (M.out.trans (yE f (zn _)));go_roundw
    case rel=>
     refine⟨j+1,by omega,?_,?_,?_,?_,by go_num⟩
     .rw[C.out];unfold yj;simpa using o
     .refine Ae.block ((Bv.add E).congr N.out) ?_;refine(a.block w.heap.size (by simp;omega) (λe=>?_)).trans ((ya (w:=z) _).block w.heap.size (by omega));replace e:some w.heap.size=u4.ownBlock:=e;rcases s.out with h|h
      .rw[h]at e;cases e
      .exact h e.symm
     .refine⟨a.os.trans b.out.os,a.tape.trans b.out.tape,a.output.trans b.out.output,?_,λq hq=>?_⟩
      .exact zI b.out.size (zI (ya _).size a.size)
      .have Q:=b.out.size;refine(a.block q (by simp;omega) (λe=>?_)).trans (((ya (w:=z) _).block q (by omega)).trans (b.out.block q hq));have:=(zE y.out q e.symm).1;omega
     .have:=zI (ya (w:=z) (.cells #[.int .i64 x] 3)).size a.size;omega
    case measure=>simp[intOf];omega
  .obtain rfl:j=l.length:=by omega
   go_wp2;go_ret;have h:=y.out;rw[zY]at h;exact⟨_,rfl,UZ h (by omega),M.out⟩
noncomputable def BY(b l r:ByteArray):ByteArray×Bool:=if l=b\/l=r then(r,true)else if r=b then(l,true)else(b,false)
theorem Lp(x:ByteArray):(x.toList==x.toList)=true:=by simp
theorem Tu{x y:ByteArray}(h:x≠y):(x.toList==y.toList)=false:=by rw[CU];simp[h]
theorem Lk(b l r:ByteArray)(w:ze):zM Tryz.prog 71 #[.string b,.string l,.string r] w λe w'=>e=.returned (.tuple #[.string (BY b l r).1,.bool (BY b l r).2])/\w'=w:=by
 by_cases c:l=b
 .subst c;have a:BY l l r=(r,true):=by simp[BY]
  rw[a];have d:=Lp l;go_enter Tryz.func71,Tryz.ntmps71;go_wp2;exact eG (iD rfl _ _ _) rfl ⟨rfl,rfl⟩
 have j:=Tu c;by_cases f:l=r
 .subst f;have a:BY b l l=(l,true):=by simp[BY]
  rw[a];have d:=Lp l;go_enter Tryz.func71,Tryz.ntmps71;go_wp2;exact eG (iD rfl _ _ _) rfl ⟨rfl,rfl⟩
 have i:=Tu f;by_cases g:r=b
 .subst g;have a:BY r l r=(l,true):=by simp[BY,c]
  rw[a];have h:=Lp r;go_enter Tryz.func71,Tryz.ntmps71;go_wp2;exact eG (iD rfl _ _ _) rfl ⟨rfl,rfl⟩
 have h:=Tu g;have a:BY b l r=(b,false):=by simp[BY,c,f,g]
 rw[a];go_enter Tryz.func71,Tryz.ntmps71;go_wp2;exact eG (iD rfl _ _ _) rfl ⟨rfl,rfl⟩
theorem ye(w:ze)(o:Obj):(w.alloc o).heap.size=w.heap.size+1:=by simp
theorem DN{w:ze}{base base' e1 s1 n1 e2 s2 n2:Nat}{v1 v2:zg}{xs1 xs2:List zg}(h1:w.ownsRow base e1 s1 v1 n1 xs1)(h2:w.ownsRow base' e2 s2 v2 n2 xs2)(hne:e1≠e2):v1.ownBlock=none\/v1.ownBlock≠v2.ownBlock:=by
 obtain⟨_,h1⟩:=h1;obtain⟨_,h2⟩:=h2;rcases h1 with⟨rfl,_⟩|⟨g,h,f,rfl,_,d,_⟩
 .exact .inl rfl
 .refine .inr λe=>?_;rcases h2 with⟨rfl,_⟩|⟨i,c,b,rfl,_,a,_⟩
  .cases e
  .cases e;rw[d]at a;simp only[zb,Obj.cells.injEq]at a;exact hne a.2.1
theorem yd{w0 w w':ze}{B:Nat}{row:Option Nat}(h:Below B w0 w)(hg:w.grownBy w' row)(hr:∀k,row=some k->B<=k)(hB:B<=w.heap.size):Below B w0 w':=h.trans ⟨hg.os,hg.tape,hg.output,hg.size,λk hk=>hg.block k (by omega) λe=>by have:=hr k e.symm;omega⟩
theorem Bc{w w':ze}(h:Below w.heap.size w w'):w.grownBy w' none:=⟨h.os,h.tape,h.output,h.size,λk hk _=>h.block k hk⟩
theorem yM{w w':ze}{row:Option Nat}(h:Below w.heap.size w w'):w.grownBy w' row:=⟨h.os,h.tape,h.output,h.size,λk hk _=>h.block k hk⟩
theorem yf{w:ze}{base e s n:Nat}{v:zg}{xs:List zg}(h:w.ownsRow base e s v n xs):∀k,v.ownBlock=some k->base<=k:=λk hk=>(zE h k hk).1
theorem yq{w:ze}{base e s n:Nat}{v:zg}{xs:List zg}(h:w.ownsRow base e s v n xs):∃a c,v=.slice a n c:=by
 obtain⟨_,h⟩:=h;rcases h with⟨rfl,rfl⟩|⟨g,b,d,rfl,_⟩
 .exact⟨_,_,rfl⟩
 .exact⟨_,_,rfl⟩
theorem Au{w:ze}{base base':Nat}{e:TypeId}{size:Nat}{v:zg}{n:Nat}{xs:List zg}(h:w.ownsRow base e size v n xs)(hb:base'<=base):w.ownsRow base' e size v n xs:=by
 obtain⟨d,a⟩:=h;refine⟨d,?_⟩;rcases a with a|⟨g,c,b,i,f,j⟩
 .exact .inl a
 .exact .inr ⟨g,c,b,i,zI hb f,j⟩
theorem yc{w w1 w2:ze}{row:Option Nat}(h1:w.grownBy w1 row)(h2:w1.grownBy w2 row):w.grownBy w2 row:=⟨h2.os.trans h1.os,h2.tape.trans h1.tape,h2.output.trans h1.output,zI h1.size h2.size,λk hk hne=>(h2.block k (ez hk h1.size) hne).trans (h1.block k hk hne)⟩
theorem Ag{w w1 w2:ze}{row row':Option Nat}(h1:w.grownBy w1 row)(h2:w1.grownBy w2 row')(hr:row'=row\/∀k,row'=some k->w.heap.size<=k):w.grownBy w2 row:=⟨h2.os.trans h1.os,h2.tape.trans h1.tape,h2.output.trans h1.output,zI h1.size h2.size,λk hk hne=>(h2.block k (ez hk h1.size) (by
  rcases hr with rfl|hr
  .exact hne
  .intro e;have:=hr k e.symm;omega)).trans (h1.block k hk hne)⟩
def Ms:List ByteArray->Nat
 |[]=>0
 |x::l=>x.size+1+Ms l
mutual
def T.bulk:T->Nat
 |.mk _ s g ks=>1+s.size+Ms g+T.bulks ks
def T.bulks:List T->Nat
 |[]=>0
 |t::ts=>t.bulk+T.bulks ts
end
theorem IT(l:List ByteArray):l.length<=Ms l:=by
 induction l with
 |nil=>simp[Ms]
 |cons x l ih=>simp[Ms];omega
theorem Qr{l:List ByteArray}{x:ByteArray}(h:x∈l):x.size<=Ms l:=by
 induction l with
 |nil=>cases h
 |cons y l ih=>
  rcases zO.1 h with rfl|h
  .simp[Ms];omega
  .have:=ih h;simp[Ms];omega
theorem T.bulk_mem{ks:List T}{t:T}(h:t∈ks):t.bulk<=T.bulks ks:=by
 induction ks with
 |nil=>cases h
 |cons u l ih=>
  rcases zO.1 h with rfl|h
  .simp[T.bulks]
  .have:=ih h;simp[T.bulks];omega
theorem T.length_bulks(ks:List T):ks.length<=T.bulks ks:=by
 induction ks with
 |nil=>simp[T.bulks]
 |cons u l ih=>
  have:1<=u.bulk:=by cases u;simp only[T.bulk];omega
  simp[T.bulks];omega
theorem T.fine_bulk:∀t:T,t.bulk<=1048576->t.Fine:=by
 refine T.ind λk s g ks ih h=>?_;rw[T.bulk]at h;have a:=IT g;have b:=T.length_bulks ks;refine T.fine_iff.2 ⟨by omega,by omega,λx hx=>?_,by omega,λt ht=>ih t ht ?_⟩
 .have:=Qr hx;omega
 .have:=T.bulk_mem ht;omega
def yP(w:ze)(base:Nat)(A:Nat->Prop)(v:zg)(rs:List An):Prop:=∃xs:List (List zg),xs.length=rs.length/\w.ownsRow base 85 5 v rs.length xs.flatten/\∀(i:Nat)(r:An)(vs:List zg),rs[i]?=some r->xs[i]?=some vs->IN w base r vs/\∀x∈vs,∀b,x.ownBlock=some b->b<w.heap.size/\¬A b
theorem IN.apart{w:ze}{base base' n:Nat}{v:zg}{ys:List zg}{r:An}{vs:List zg}(h:IN w base r vs)(hown:w.ownsRow base' 85 5 v n ys):∀x∈vs,∀b,x.ownBlock=some b->v.ownBlock≠some b:=by
 obtain⟨o,p,rfl,j,k⟩:=h;intro x g b a e;rcases hown.2 with⟨rfl,_⟩|⟨m,i,f,rfl,_,d,_⟩
 .cases e
 simp only[zO,e8,or_false]at g;rcases g with rfl|rfl|rfl|rfl|rfl
 .cases a
 .cases a
 .cases a
 .rcases j with⟨rfl,_⟩|⟨l,_,rfl,c⟩
  .cases a
  .cases a;cases e;rw[d]at c;cases c
 .rcases k with⟨rfl,_⟩|⟨l,_,rfl,c⟩
  .cases a
  .cases a;cases e;rw[d]at c;cases c
theorem AH.lt{w:ze}{base:Nat}{v:zg}{l:List ByteArray}(h:AH w base v l):∀b,v.ownBlock=some b->b<w.heap.size:=by
 intro b a;rcases h with⟨rfl,_⟩|⟨d,_,rfl,c⟩
 .cases a
 .cases a;exact(eh.1 c).1
theorem CI.lt{w:ze}{base:Nat}{v:zg}{l:List Int}(h:CI w base v l):∀b,v.ownBlock=some b->b<w.heap.size:=by
 intro b a;rcases h with⟨rfl,_⟩|⟨d,_,rfl,c⟩
 .cases a
 .cases a;exact(eh.1 c).1
theorem yP.nil(w:ze)(base:Nat)(A:Nat->Prop):yP w base A (.slice none 0 0) []:=⟨[],rfl,ed _ _ _ _,λi r vs h=>by simp at h⟩
theorem yP.weaken{w:ze}{base:Nat}{A B:Nat->Prop}{v:zg}{rs:List An}(h:yP w base A v rs)(hAB:∀b,b<w.heap.size->B b->A b):yP w base B v rs:=by obtain⟨j,c,f,g⟩:=h;refine⟨j,c,f,λi r vs hr hvs=>?_⟩;obtain⟨d,a⟩:=g i r vs hr hvs;exact⟨d,λx hx b hb=>⟨(a x hx b hb).1,λhB=>(a x hx b hb).2 (hAB b (a x hx b hb).1 hB)⟩⟩
theorem yP.grown{w w':ze}{base:Nat}{A:Nat->Prop}{v:zg}{rs:List An}{row:Option Nat}(h:yP w base A v rs)(hg:w.grownBy w' row)(hv:v.ownBlock=none\/v.ownBlock≠row)(hr:∀g,row=some g->g<w.heap.size->A g):yP w' base A v rs:=by obtain⟨k,c,f,j⟩:=h;refine⟨k,c,f.kept hg hv,λi r vs hr' hvs=>?_⟩;obtain⟨d,a⟩:=j i r vs hr' hvs;refine⟨d.block λx hx b hb=>hg.block b (a x hx b hb).1 (λe=>(a x hx b hb).2 (hr b e.symm (a x hx b hb).1)),λx hx b hb=>⟨ez (a x hx b hb).1 hg.size,(a x hx b hb).2⟩⟩
theorem T0{w w':ze}{base:Nat}{A:Nat->Prop}{v u:zg}{rs:List An}{r:An}{xs:List (List zg)}{vs:List zg}(h1:xs.length=rs.length)(h2:w.ownsRow base 85 5 v rs.length xs.flatten)(h3:∀(i:Nat)(r:An)(vs:List zg),rs[i]?=some r->xs[i]?=some vs->IN w base r vs/\∀x∈vs,∀b,x.ownBlock=some b->b<w.heap.size/\¬A b)(hown:w'.ownsRow base 85 5 u (rs.length+1) (xs.flatten++vs))(hg:w.grownBy w' v.ownBlock)(hr:IN w' base r vs)(hb:∀x∈vs,∀b,x.ownBlock=some b->b<w'.heap.size/\¬A b):yP w' base A u (rs++[r]):=by
 refine⟨xs++[vs],by simp[h1],by simpa using hown,λi r' vs' hr' hvs'=>?_⟩;by_cases d:i<rs.length
 .rw[eI d]at hr';rw[eI (by omega)]at hvs';obtain⟨c,a⟩:=h3 i r' vs' hr' hvs';refine⟨c.block λx hx b hb=>hg.block b (a x hx b hb).1 (λe=>c.apart h2 x hx b hb e.symm),λx hx b hb=>⟨ez (a x hx b hb).1 hg.size,(a x hx b hb).2⟩⟩
 .rw[en (by omega)]at hr' hvs';obtain⟨rfl⟩:i=rs.length:=by
   rcases Nat.lt_or_ge (i-rs.length) 1 with h|h
   .omega
   .rw[List.getElem?_eq_none (by simpa using h)]at hr';cases hr'
  rw[h1]at hvs';simp only[ls,List.getElem?_cons_zero,zb]at hr' hvs';subst hr' hvs';exact⟨hr,hb⟩
theorem WV:∀{xs:List (List zg)}(_:∀vs∈xs,vs.length=5){i j:Nat}{vs:List zg},xs[i]?=some vs->j<5->xs.flatten[i*5+j]?=vs[j]?
 |[],_,_,_,_,h,_=>by simp at h
 |y::l,hl,0,j,vs,h,hj=>by cases h;rw[lu,zbs,eV,eI (by rw[hl _ (eO ..)];exact hj)]
 |y::l,hl,i+1,j,vs,h,hj=>by have hy:=hl y (eO ..);rw[lu,en (by omega),hy,show(i+1)*5+j-5=i*5+j by omega];exact WV (λvs hvs=>hl vs (eJ _ hvs)) (by simpa using h) hj
theorem NH:∀{xs:List (List zg)}(_:∀vs∈xs,vs.length=5){i j:Nat}{vs:List zg}(u:zg),xs[i]?=some vs->j<5->xs.flatten.set (i*5+j) u=(xs.set i (vs.set j u)).flatten
 |[],_,_,_,_,_,h,_=>by simp at h
 |y::l,hl,0,j,vs,u,h,hj=>by cases h;rw[lu,zbs,eV,zi,lu,List.set_append_left _ _ (by rw[hl _ (eO ..)];exact hj)]
 |y::l,hl,i+1,j,vs,u,h,hj=>by have hy:=hl y (eO ..);rw[lu,zaz _ _ (by omega),hy,show(i+1)*5+j-5=i*5+j by omega,List.set_cons_succ,lu];rw[NH (λvs hvs=>hl vs (eJ _ hvs)) u (by simpa using h) hj]
theorem Qf{w:ze}{base:Nat}{A:Nat->Prop}{rs:List An}{xs:List (List zg)}(h1:xs.length=rs.length)(h3:∀(i:Nat)(r:An)(vs:List zg),rs[i]?=some r->xs[i]?=some vs->IN w base r vs/\∀x∈vs,∀b,x.ownBlock=some b->b<w.heap.size/\¬A b):∀vs∈xs,vs.length=5:=by intro vs a;obtain⟨i,c,e⟩:=List.getElem_of_mem a;obtain⟨⟨f,g,d,_⟩,_⟩:=h3 i rs[i] vs (zc (by omega)) (by rw[zc c,e]);rw[d];rfl
def TE(w:ze)(b o:Nat)(r:An):Prop:=∃gv kv,w.cell? ⟨b,o,none⟩=some (.int .i64 r.parent)/\w.cell? ⟨b,o+1,none⟩=some (.int .i64 r.k)/\w.cell? ⟨b,o+2,none⟩=some (.string r.s)/\w.cell? ⟨b,o+3,none⟩=some gv/\w.cell? ⟨b,o+4,none⟩=some kv/\yI w gv r.g/\yo w kv r.kids
def C8(w:ze)(v:zg)(rs:List An):Prop:=((∃p c,v=.slice p 0 c)/\rs=[])\/∃b off cap,v=.slice (some ⟨b,off,none⟩) rs.length cap/\b<w.heap.size/\∀i(r:An),rs[i]?=some r->TE w b (off+i*5) r
theorem TE.below{w wr:ze}{b o:Nat}{r:An}(h:TE w b o r)(hb:Below w.heap.size w wr)(hlt:b<w.heap.size):TE wr b o r:=by obtain⟨c,g,i,f,k,l,j,a,d⟩:=h;exact⟨c,g,(hb.cell (p:=⟨b,_,none⟩) hlt).trans i,(hb.cell (p:=⟨b,_,none⟩) hlt).trans f,(hb.cell (p:=⟨b,_,none⟩) hlt).trans k,(hb.cell (p:=⟨b,_,none⟩) hlt).trans l,(hb.cell (p:=⟨b,_,none⟩) hlt).trans j,a.below hb,d.below hb⟩
theorem C8.below{w wr:ze}{v:zg}{rs:List An}(h:C8 w v rs)(hb:Below w.heap.size w wr):C8 wr v rs:=by
 rcases h with h|⟨b,c,d,f,a,g⟩
 .exact .inl h
 .exact .inr ⟨b,c,d,f,ez a hb.size,λi r hi=>(g i r hi).below hb a⟩
theorem C8.slice{w:ze}{v:zg}{rs:List An}(h:C8 w v rs):∃p c,v=.slice p rs.length c:=by
 rcases h with⟨⟨p,c,rfl⟩,rfl⟩|⟨b,d,a,rfl,_⟩
 .exact⟨p,c,rfl⟩
 .exact⟨_,_,rfl⟩
theorem C8.at{w:ze}{p:Option oh}{n c:Nat}{rs:List An}(h:C8 w (.slice p n c) rs){i:Nat}{r:An}(hi:rs[i]?=some r):∃b off,p=some ⟨b,off,none⟩/\b<w.heap.size/\TE w b (off+i*5) r:=by
 rcases h with⟨_,rfl⟩|⟨b,off,f,e,a,d⟩
 .simp at hi
 .cases e;exact⟨b,off,rfl,a,d i r hi⟩
theorem yP.val{w:ze}{base:Nat}{A:Nat->Prop}{v:zg}{rs:List An}(h:yP w base A v rs):C8 w v rs:=by
 obtain⟨o,p,k,n⟩:=h;have y:=Qf p n;rcases Nat.eq_zero_or_pos rs.length with h0|h0
 .obtain rfl:=lm h0;obtain⟨a,c,rfl⟩:=yq k;exact .inl ⟨⟨a,c,rfl⟩,rfl⟩
 .obtain⟨g,l,rfl,_,m⟩:=k.form h0;refine .inr ⟨g,0,l,rfl,m,λi r hi=>?_⟩;have t:i<rs.length:=(zm.1 hi).1;obtain⟨f,d⟩:∃f,o[i]?=some f:=⟨o[i],zc (by omega)⟩
  obtain⟨⟨s,x,e,q,z⟩,_⟩:=n i r f hi d;have b:∀j,j<5->w.cell? ⟨g,i*5+j,none⟩=f[j]?:=λj hj=>(k.cellAt _ (by omega)).trans (WV y d hj);rw[e]at b;refine⟨s,x,?_,?_,?_,?_,?_,q.lines,z.ints⟩
  .rw[eV];exact b 0 (by omega)
  .rw[eV];exact b 1 (by omega)
  .rw[eV];exact b 2 (by omega)
  .rw[eV];exact b 3 (by omega)
  .rw[eV];exact b 4 (by omega)
theorem NN{w:ze}{base:Nat}{A:Nat->Prop}{g cap:Nat}{rs:List An}{i:Nat}{r:An}{kv:zg}{l:List Int}(h:yP w base A (.slice (some ⟨g,0,none⟩) rs.length cap) rs)(hi:rs[i]?=some r)(hk:CI w base kv l)(hA:∀b,kv.ownBlock=some b->¬A b):yP (w.setCell ⟨g,i*5+4,none⟩ kv) base A (.slice (some ⟨g,0,none⟩) rs.length cap) (rs.set i {r with kids:=l})/\w.grownBy (w.setCell ⟨g,i*5+4,none⟩ kv) (some g):=by
 obtain⟨t,C,F,v⟩:=h;have I:=Qf C v;have B:i<rs.length:=(zm.1 hi).1;obtain⟨d,n⟩:∃d,t[i]?=some d:=⟨t[i],zc (by omega)⟩
 obtain⟨p,f⟩:=F.stored (i*5+4) kv;refine⟨⟨t.set i (d.set 4 kv),by simp[C],?_,λj r' vs' hr' hvs'=>?_⟩,f⟩
 .rw[List.length_set,<-NH I kv n (by omega)];exact p
 .have m:∀(r:An)(d:List zg),IN w base r d->∀x∈d,∀b,x.ownBlock=some b->some b≠some g:=λr d hr x c b a e=>hr.apart F x c b a e.symm;by_cases E:j=i
  .subst E;rw[zb7 B]at hr';rw[zb7 (by omega)]at hvs';cases hr';cases hvs';obtain⟨q,o⟩:=v j r d hi n;obtain⟨z,G,rfl,y,H⟩:=q;have D:IN w base {r with kids:=l} [.int .i64 r.parent,.int .i64 r.k,.string r.s,z,kv]:=⟨z,kv,rfl,y,hk⟩
   have c:∀x∈[.int .i64 r.parent,.int .i64 r.k,.string r.s,z,kv],∀b,x.ownBlock=some b->b<w.heap.size/\¬A b:=by
    intro x c b a;simp only[zO,e8,or_false]at c;rcases c with rfl|rfl|rfl|rfl|rfl
    .cases a
    .cases a
    .cases a
    .exact o x (by simp) b a
    .exact⟨hk.lt b a,hA b a⟩
   exact⟨D.block λx hx' b a=>f.block b (c x hx' b a).1 (m _ _ D x hx' b a),λx hx' b a=>⟨by simpa using(c x hx' b a).1,(c x hx' b a).2⟩⟩
  .rw[List.getElem?_set_ne (Ne.symm E)]at hr' hvs';obtain⟨q,o⟩:=v j r' vs' hr' hvs';exact⟨q.block λx c b a=>f.block b (o x c b a).1 (m _ _ q x c b a),λx c b a=>⟨by simpa using(o x c b a).1,(o x c b a).2⟩⟩
theorem VY:(Tryz.prog.info? 85).map (λi=>(i.zero,i.size,i.bytes))=some (some (.agg #[.int .i64 0,.int .i64 0,.string .empty,.slice none 0 0,.slice none 0 0]),5,80):=by kernel_rfl
theorem AH.form{w:ze}{base:Nat}{v:zg}{l:List ByteArray}(h:AH w base v l):∃p,v=.slice p l.length l.length:=by
 rcases h with⟨rfl,rfl⟩|⟨b,_,rfl,_⟩
 .exact⟨_,rfl⟩
 .exact⟨_,rfl⟩
theorem AH.mono{w:ze}{base base':Nat}{v:zg}{l:List ByteArray}(h:AH w base v l)(hb:base'<=base):AH w base' v l:=by
 rcases h with h|⟨b,a,c⟩
 .exact .inl h
 .exact .inr ⟨b,zI hb a,c⟩
theorem AH.ge{w:ze}{base:Nat}{v:zg}{l:List ByteArray}(h:AH w base v l):∀b,v.ownBlock=some b->base<=b:=by
 intro b a;rcases h with⟨rfl,_⟩|⟨f,c,rfl,d⟩
 .cases a
 .cases a;exact c
theorem JB(w:ze)(n:Nat)(hn:n<=1000000):(zbt 55 (.int .i64 (n:Int)) (.int .i64 (n:Int))).run Tryz.prog w=.ok (.slice (some ⟨w.heap.size,0,none⟩) n n) (w.alloc (.cells (madeCells #[.int .i64 0] n) 3)):=by obtain⟨f,d,c,a,b⟩:=iY Br;have h:=run_makeSlice (P:=Tryz.prog) w 55 3 f (.int .i64 0) Tryz.underlying55 d c .i64 .i64 (n:Int) (n:Int) (by omega) (by omega) (by rw[a];omega) (by rw[b];omega) (by omega);rw[a]at h;simpa[zao]using h
def Al(w:ze)(base b n cap:Nat)(l:List Int):Prop:=w.ownsRow base 3 1 (.slice (some ⟨b,0,none⟩) n cap) n (l.map (zX .i64))
theorem Al.made(w:ze)(n:Nat)(hn:n<=1000000){base:Nat}(hb:base<=w.heap.size):Al (w.alloc (.cells (madeCells #[.int .i64 0] n) 3)) base w.heap.size n n (ia n 0):=by have h:=World.ownsRow_lit (base:=base) (e:=3) (size:=1) w (madeCells #[.int .i64 0] n) n hb (by simp[maxLen];omega) (by simp[zen]);rw[toList_madeCells_one]at h;unfold Al;rw[List.map_replicate];exact h
theorem Al.at{w:ze}{base b n cap:Nat}{l:List Int}(h:Al w base b n cap l){j:Nat}{x:Int}(hx:l[j]?=some x):w.cell? ⟨b,j,none⟩=some (.int .i64 x):=by have a:(l.map (zX .i64)).length=n*1:=h.1;have c:=(zm.1 hx).1;rw[l8]at a;refine(ep h j (by omega)).trans ?_;rw[List.getElem?_map,hx];rfl
theorem Al.length{w:ze}{base b n cap:Nat}{l:List Int}(h:Al w base b n cap l):l.length=n:=by have a:(l.map (zX .i64)).length=n*1:=h.1;rw[l8]at a;omega
theorem Al.set{w:ze}{base b n cap:Nat}{l:List Int}(h:Al w base b n cap l)(j:Nat)(x:Int):Al (w.setCell ⟨b,j,none⟩ (.int .i64 x)) base b n cap (l.set j x)/\w.grownBy (w.setCell ⟨b,j,none⟩ (.int .i64 x)) (some b):=by unfold Al;rw[List.map_set];exact ii h j _
theorem Al.own{w:ze}{base b n:Nat}{l:List Int}(h:Al w base b n n l):CI w base (.slice (some ⟨b,0,none⟩) n n) l:=by
 have a:=h.length;subst a;rcases h.2 with⟨e,_⟩|⟨g,j,i,e,k,d,_,_,f,c⟩
 .cases e
 .cases e;refine .inr ⟨b,k,rfl,?_⟩;rw[d];rw[List.take_of_length_le (by rw[Array.length_toList,f];exact zn _)]at c;rw[<-c]
theorem U4{l:List Int}{n j:Nat}{x:Int}(hl:l.length=j)(hj:j<n):(l++ia (n-j) 0).set j x=(l++[x])++ia (n-(j+1)) 0:=by rw[zaz _ _ (by omega),hl,ls,show n-j=(n-(j+1))+1 by omega,List.replicate_succ,zi,lW];rfl
theorem yP.kidsCell{w:ze}{base:Nat}{A:Nat->Prop}{g cap:Nat}{rs:List An}{i:Nat}(h:yP w base A (.slice (some ⟨g,0,none⟩) rs.length cap) rs)(hi:i<rs.length):(∃old,w.cell? ⟨g,i*5+4,none⟩=some old)/\w.frozen? ⟨g,i*5+4,none⟩=false:=by obtain⟨f,b,a,d⟩:=h;refine⟨?_,iN a _⟩;have c:=a.1;rw[ep a _ (by omega)];exact⟨_,zc (by omega)⟩
theorem Wf{α:Type}(a:List α)(x y:α)(b:List α):(a++[x]++b).set a.length y=a++[y]++b:=by rw[lW,zaz _ _ (by omega),ls];simp
def GpG(B:Nat)(W1:ze)(row:Option Nat)(t:T)(gv kv:zg)(w':ze):Prop:=w'.cell? ⟨B,0,none⟩=some (.int .i64 t.k)/\w'.cell? ⟨B,1,none⟩=some (.string t.s)/\w'.cell? ⟨B,2,none⟩=some gv/\w'.cell? ⟨B,3,none⟩=some kv/\W1.heap.size=B+1/\W1.grownBy w' row
theorem GpG.grown{B:Nat}{W1:ze}{row:Option Nat}{t:T}{gv kv:zg}{w' w'':ze}(h:GpG B W1 row t gv kv w')(hg:w'.grownBy w'' row)(hne:some B≠row):GpG B W1 row t gv kv w'':=by obtain⟨d,f,b,g,c,a⟩:=h;exact⟨hg.cell d hne,hg.cell f hne,hg.cell b hne,hg.cell g hne,c,yc a hg⟩
theorem Sc : ∀ (t : T) (gv kv v : zg) (rs : List An) (parent : Int) (A : Nat → Prop) (w0 w : ze), t.Lies w0 gv kv → Below w0.heap.size w0 w → yP w w0.heap.size A v rs → (∀ b, A b → b < w.heap.size) → rs.length + t.size ≤ 1000 → t.bulk ≤ 1048576 →
    zM Tryz.prog 63 #[v, yJ t.k t.s gv kv, .int .i64 parent] w fun e w' => ∃ u, e = .returned u ∧ yP w' w0.heap.size A u (rs ++ t.rows rs.length parent) ∧ w.grownBy w' v.ownBlock ∧ (u.ownBlock = v.ownBlock ∨ ∀ g, u.ownBlock = some g → w.heap.size ≤ g) := by
  refine T.ind fun k s g ks ih gv kv v rs parent A w0 w hl hbel0 hrows hA h1000 hbulk => ?_
  obtain ⟨hg, hk⟩ := T.lies_iff.1 hl
  obtain ⟨o, n, rfl⟩ := hk.slice
  obtain ⟨m, l, rfl⟩ := hg.slice
  simp only [T.k, T.s]
  rw [T.size] at h1000
  rw [T.bulk] at hbulk
  have dw := IT g
  have hn := T.length_sizes ks
  obtain ⟨xs, bg, M, bc⟩ := hrows
  obtain ⟨pv, cv, rfl⟩ := yq M
  obtain ⟨ri, b7, ct, cx, cn⟩ := iY VY
  have c : w0.heap.size ≤ w.heap.size := hbel0.size
  have bm := (eN w (.cells #[.int .i64 k, .string s, .slice m g.length l, .slice o ks.length n] 25)).1
  have aa : some w.heap.size ≠ (eU pv rs.length cv).ownBlock := fun e => by
    have := (M.lt _ e.symm).2
    omega
  have bl : GpG w.heap.size (w.alloc (.cells #[.int .i64 k, .string s, .slice m g.length l, .slice o ks.length n] 25)) (eU pv rs.length cv).ownBlock (.mk k s g ks) (.slice m g.length l) (.slice o ks.length n) (w.alloc (.cells #[.int .i64 k, .string s, .slice m g.length l, .slice o ks.length n] 25)) := by
    refine ⟨?_, ?_, ?_, ?_, by simp, ⟨rfl, rfl, rfl, zn _, fun _ _ _ => rfl⟩⟩
    all_goals
      simp only [zS, bm]
      rfl
  generalize X : (eU pv rs.length cv).ownBlock = row at *
  have HT : eW (∀ wc, GpG w.heap.size (w.alloc (.cells #[.int .i64 k, .string s, .slice m g.length l, .slice o ks.length n] 25)) row (.mk k s g ks) (.slice m g.length l) (.slice o ks.length n) wc → zM Tryz.prog 93 #[.slice m g.length l] wc fun e w' => ∃ p, e = .returned (.slice p g.length g.length) ∧ AH w' wc.heap.size (.slice p g.length g.length) g ∧ Below wc.heap.size wc w' ∧ GpG w.heap.size (w.alloc (.cells #[.int .i64 k, .string s, .slice m g.length l, .slice o ks.length n] 25)) row (.mk k s g ks) (.slice m g.length l) (.slice o ks.length n) w') := za (fun wc h => by
    have cy : Below w0.heap.size w0 wc := yd (hbel0.trans ((ya _).mono c)) h.2.2.2.2.2 (fun k e => yf M k (X.trans e)) (by simp; omega)
    exact (Pi _ g wc (hg.below cy) (by omega)).mono fun _ _ ⟨u, e1, e2, e3⟩ => by
      obtain ⟨p, rfl⟩ := e2.form
      exact ⟨p, e1, e2, e3, h.grown (yM e3) aa⟩)
  have HN := za aa
  have D := za X
  clear bm aa X
  have cb : GpG w.heap.size (w.alloc (.cells #[.int .i64 k, .string s, .slice m g.length l, .slice o ks.length n] 25)) row (.mk k s g ks) (.slice m g.length l) (.slice o ks.length n) (w.alloc (.cells #[.int .i64 k, .string s, .slice m g.length l, .slice o ks.length n] 25)).drew := bl.grown (yM ((zt _ _).drew)) HN.out
  obtain ⟨a0, a1, a2, a3, _, _⟩ := bl
  have HG := za hg
  have S := za M
  have bw := za bc
  have b9 := za (ye w (.cells #[.int .i64 k, .string s, .slice m g.length l, .slice o ks.length n] 25))
  have bt : eW ((eU pv rs.length cv).ownBlock = none ∨ (eU pv rs.length cv).ownBlock ≠ none) := za (by
    cases (eU pv rs.length cv).ownBlock <;> simp)
  have d : eW (w.heap.size ≤ (w.alloc (.cells #[.int .i64 k, .string s, .slice m g.length l, .slice o ks.length n] 25)).drew.heap.size) := za (by show w.heap.size ≤ (w.alloc _).heap.size; simp)
  clear M bc hl hg
  go_enter Tryz.func63, Tryz.ntmps63
  go_wp2
  go_region_held3 (fun w' => w'.cell? ⟨w.heap.size, 0, none⟩ = some (.int .i64 k) ∧ w'.cell? ⟨w.heap.size, 1, none⟩ = some (.string s) ∧ w'.cell? ⟨w.heap.size, 2, none⟩ = some (.slice m g.length l) ∧ w'.cell? ⟨w.heap.size, 3, none⟩ = some (.slice o ks.length n) ∧ (w.alloc (.cells #[.int .i64 k, .string s, .slice m g.length l, .slice o ks.length n] 25)).heap.size = w.heap.size + 1 ∧ (w.alloc (.cells #[.int .i64 k, .string s, .slice m g.length l, .slice o ks.length n] 25)).grownBy w' row)
    (first
      | assumption
      | (change GpG w.heap.size (w.alloc (.cells #[.int .i64 k, .string s, .slice m g.length l, .slice o ks.length n] 25)) row (.mk k s g ks) (.slice m g.length l) (.slice o ks.length n) _
         first
          | assumption
          | exact GpG.grown (by unfold GpG; assumption) (eQ _ _ _) HN.out
          | exact GpG.grown (by assumption) (eQ _ _ _) HN.out
          | exact GpG.grown (GpG.grown hS (eQ _ _ _) HN.out) q HN.out
          | exact GpG.grown (GpG.grown (by assumption) (eQ _ _ _) HN.out) (by assumption) HN.out))
    (first
      | (go_at_call 93; refine (HT.out _ (by unfold GpG; assumption)).mono ?_; rintro e w' ⟨pu, rfl, F, H, hS⟩)
      | (refine step_append_lies _ (by rfl) _ _ _ (by rfl) w0.heap.size 85 ri _ 5 80 Tryz.underlying81 b7 ct cx cn rfl (by omega) (.slice pv rs.length cv) rs.length xs.flatten (by rfl) ((zF ((S.out.alloc _).drew) (yM (row := none) H) bt.out).alloc _)
              ⟨w'.heap.size, 0, none⟩ 1 1 [.int .i64 parent, .int .i64 k, .string s, .slice pu g.length g.length, .slice none 0 0] (by rfl) (by rfl) (World.news_of_block (cs := #[.int .i64 parent, .int .i64 k, .string s, .slice pu g.length g.length, .slice none 0 0]) (t := 85) (fr := (0, 0)) (zx w' _)) (by simp [ej])
              (by omega) (by simp [maxLen]; omega) (by omega) (zI c (zI d.out (zI H.size (by simp)))) (w'.heap.size + 1) (by simp) ?_; intro gg au f V q ay c9; rw [D.out] at q ay))
  rename_i hheld
  have bs : GpG w.heap.size (w.alloc (.cells #[.int .i64 k, .string s, .slice m g.length l, .slice o ks.length n] 25)) row (.mk k s g ks) (.slice m g.length l) (.slice o ks.length n) f := hheld
  have N : w.grownBy f row := yc (eQ _ _ _) bs.2.2.2.2.2
  have bo : yP f w0.heap.size A (.slice (some ⟨gg, 0, none⟩) (rs.length + 1) au) (rs ++ [⟨parent, k, s, g, []⟩]) := by
    have hz : w.heap.size ≤ w'.heap.size := zI d.out H.size
    have ae : w.grownBy (w'.alloc (.cells #[.int .i64 parent, .int .i64 k, .string s, .slice pu g.length g.length, .slice none 0 0] 85)) row := yc (yc (yc (eQ _ _ _) (yM ((zt _ _).drew))) (yM H)) (eQ _ _ _)
    have a9 := F.ge
    have C := F.lt
    have hL : AH f w0.heap.size (.slice pu g.length g.length) g := (F.mono (zI c d.out)).block fun b y => (q.block b (by have := C b y; simp; omega) (fun e => by
      have h1 := a9 b y
      have h2 := (S.out.lt b (D.out.trans e.symm)).2
      have := d.out
      omega)).trans ((ya (w := w') _).block b (C b y))
    refine T0 bg S.out bw.out V (by rw [D.out]; exact N) ⟨_, _, rfl, hL, .inl ⟨rfl, rfl⟩⟩ ?_
    intro x hx b y
    simp only [zO, e8, or_false] at hx
    rcases hx with rfl | rfl | rfl | rfl | rfl
    · cases y
    · cases y
    · cases y
    · refine ⟨hL.lt b y, fun hAb => ?_⟩
      have h1 := a9 b y
      have h2 := hA b hAb
      have := d.out
      omega
    · cases y
  have am : row = some gg ∨ w.heap.size ≤ gg := by
    rcases ay with h | h
    · exact .inl h
    · right
      have := d.out
      have := H.size
      omega
  obtain ⟨_, _, _, c3, _, _⟩ := hheld
  have bh := za bo
  have G := za N
  have ao := za am
  have bu := za (fun k (e : row = some k) => yf S.out k (D.out.trans e))
  clear bs N bo am ay q V hS F H S bw HT b9 d bt bg a0 a1 a2 a3 cb
  by_cases h0 : ks.length = 0
  · have d0 : ((ks.length : Int) == 0) = true := by simp [h0]
    go_wp2
    go_ret
    obtain rfl : ks = [] := lm h0
    refine ⟨_, rfl, bh.out, G.out, ?_⟩
    rcases ao.out with h | h
    · exact .inl h.symm
    · exact .inr fun g' e => by cases e; exact h
  · have d0 : ((ks.length : Int) == 0) = false := by rw [beq_eq_false_iff_ne]; omega
    have hmk := JB f ks.length (by omega)
    obtain ⟨w8, Y⟩ : ∃ w8, w8 = f.alloc (.cells (madeCells #[.int .i64 0] ks.length) 3) := ⟨_, rfl⟩
    have bv : Al w8 w0.heap.size f.heap.size ks.length ks.length (ia ks.length 0) := by
      rw [Y]
      exact Al.made f _ (by omega) (zI c G.out.size)
    have af : f.grownBy w8 none := by
      rw [Y]
      exact eQ _ _ _
    have dv : w8.heap.size = f.heap.size + 1 := by
      rw [Y]
      simp
    have dm := af.cell c3 (by simp)
    rw [← Y] at hmk
    have bn : yP w8 w0.heap.size (fun b => A b ∨ b = f.heap.size) (.slice (some ⟨gg, 0, none⟩) (rs.length + 1) au) (rs ++ [⟨parent, k, s, g, []⟩] ++ T.rowsL (rs.length + 1) rs.length (ks.take 0)) := by
      rw [List.take_zero, T.rowsL, iW]
      exact (bh.out.weaken (B := fun b => A b ∨ b = f.heap.size) (fun b y h => h.resolve_right (by omega))).grown af (.inr (by simp [eP])) (fun g e => by cases e)
    have ce := za bn
    have ci := za bv
    have cd := za (show w.grownBy w8 row from Ag G.out af (.inr fun k e => by cases e))
    have av := za (show w.heap.size ≤ f.heap.size from G.out.size)
    clear bn bv af Y
    go_wp2
    go_loopw [0, 37] (fun u i w' => ∃ j : Nat, j ≤ ks.length ∧ (∃ gu cu, u = .slice (some ⟨gu, 0, none⟩) (rs.length + 1 + T.sizes (ks.take j)) cu ∧ (row = some gu ∨ w.heap.size ≤ gu)) ∧
      yP w' w0.heap.size (fun b => A b ∨ b = f.heap.size) u (rs ++ [⟨parent, k, s, g, []⟩] ++ T.rowsL (rs.length + 1) rs.length (ks.take j)) ∧
      Al w' w0.heap.size f.heap.size ks.length ks.length (yO (rs.length + 1) (ks.take j) ++ ia (ks.length - j) 0) ∧ w.grownBy w' row ∧ w8.heap.size ≤ w'.heap.size ∧ i = .int .i64 j) (fun _ i _ => ks.length - (intOf i).toNat)
    case atStart => exact ⟨0, by omega, ⟨gg, au, by simp [T.sizes], ao.out⟩, ce.out, by simpa [yO] using ci.out, cd.out, zn _, rfl⟩
    case round =>
      rename_i wr hrel
      obtain ⟨j, hj, ⟨gu, cu, rfl, aj⟩, a6, ax, ad, dy, rfl⟩ := hrel
      have ac : ∃ ys : List zg, wr.ownsRow w0.heap.size 85 5 (.slice (some ⟨gu, 0, none⟩) (rs.length + 1 + T.sizes (ks.take j)) cu) (rs.length + 1 + T.sizes (ks.take j)) ys := by
        obtain ⟨ys, _, h, _⟩ := a6
        refine ⟨ys.flatten, ?_⟩
        rw [show (rs ++ [(⟨parent, k, s, g, []⟩ : An)] ++ T.rowsL (rs.length + 1) rs.length (ks.take j)).length = rs.length + 1 + T.sizes (ks.take j) by simp [T.length_rowsL]; omega] at h
        exact h
      obtain ⟨ys, bd⟩ := ac
      have aa : gu ≠ f.heap.size := fun e => by
        rcases DN ax bd (by decide) with h | h
        · cases h
        · exact h (by simp [eP, e])
      have HR := za a6
      have HC := za ax
      have aw := za ad
      have P : Below w0.heap.size w0 wr := yd hbel0 ad bu.out c
      have c8 : w.heap.size ≤ wr.heap.size := ad.size
      clear a6 ad ax bd ys
      by_cases bp : j < ks.length
      · obtain ⟨t, ht⟩ : ∃ t, ks[j]? = some t := ⟨ks[j], zc bp⟩
        have b0 := T.sizes_take ht
        have dd : T.sizes (ks.take (j + 1)) ≤ T.sizes ks := by
          have := T.sizes_append (ks.take (j + 1)) (ks.drop (j + 1))
          rw [oz] at this
          omega
        have dt := T.bulk_mem (zq ht)
        obtain ⟨b, di, rfl, y, dz, dq, f0, f1, f2, f3, C⟩ := hk.at ht
        replace f0 := (P.cell (p := ⟨b, _, none⟩) y).trans f0
        replace f1 := (P.cell (p := ⟨b, _, none⟩) y).trans f1
        replace f2 := (P.cell (p := ⟨b, _, none⟩) y).trans f2
        replace f3 := (P.cell (p := ⟨b, _, none⟩) y).trans f3
        obtain ⟨Q, R, rfl⟩ := C.gaps.slice
        obtain ⟨U, O, rfl⟩ := C.kids.slice
        obtain ⟨wb, I⟩ : ∃ wb, wb = wr.alloc (.cells #[.int .i64 t.k, .string t.s, .slice Q t.g.length R, .slice U t.ks.length O] 25) := ⟨_, rfl⟩
        have z : wr.grownBy wb none := by rw [I]; exact eQ _ _ _
        have ba : wb.heap[wr.heap.size]? = some (.cells #[.int .i64 t.k, .string t.s, .slice Q t.g.length R, .slice U t.ks.length O] 25 (0, 0)) := by rw [I]; exact zx _ _
        have cl : wb.heap.size = wr.heap.size + 1 := by rw [I]; simp
        have ah : Al wb w0.heap.size f.heap.size ks.length ks.length (yO (rs.length + 1) (ks.take j) ++ ia (ks.length - j) 0) := zF HC.out z (.inr (by simp [eP]))
        have ca := ah.at (j := j) (x := 0) (by rw [en (by rw [yK, iR]; omega), yK, iR, Nat.min_eq_left hj, ls, List.getElem?_replicate, if_pos (by omega)])
        have b8 := iN ah j
        obtain ⟨ag, ak⟩ := ah.set j ((rs.length + 1 + T.sizes (ks.take j) : Nat) : Int)
        rw [U4 (by rw [yK, iR]; omega) bp] at ag
        obtain ⟨ws, J⟩ : ∃ ws, ws = wb.setCell ⟨f.heap.size, j, none⟩ (.int .i64 ((rs.length + 1 + T.sizes (ks.take j) : Nat) : Int)) := ⟨_, rfl⟩
        rw [← J] at ag ak
        rw [I] at J
        have E : wr.grownBy ws (some f.heap.size) := yc (⟨z.os, z.tape, z.output, z.size, fun k hk _ => z.block k hk (by simp)⟩) ak
        have bj : ws.heap.size = wr.heap.size + 1 := by rw [J]; simp
        have bx : ws.heap[wr.heap.size]? = some (.cells #[.int .i64 t.k, .string t.s, .slice Q t.g.length R, .slice U t.ks.length O] 25 (0, 0)) := (ak.block wr.heap.size (by omega) (by simp; omega)).trans ba
        have W : ∀ i v, #[.int .i64 t.k, .string t.s, .slice Q t.g.length R, .slice U t.ks.length O][i]? = some v → ws.cell? ⟨wr.heap.size, i, none⟩ = some v := by
          intro i v h
          simp only [zS, bx]
          simpa using h
        have q0 := W 0 _ rfl
        have q1 := W 1 _ rfl
        have q2 := W 2 _ rfl
        have q3 := W 3 _ rfl
        have b1 : Below w0.heap.size w0 ws := yd (yd hbel0 aw.out bu.out c) E (fun k e => by cases e; have := av.out; omega) (by omega)
        have bq : yP ws w0.heap.size (fun b => A b ∨ b = f.heap.size) (.slice (some ⟨gu, 0, none⟩) (rs.length + 1 + T.sizes (ks.take j)) cu) (rs ++ [⟨parent, k, s, g, []⟩] ++ T.rowsL (rs.length + 1) rs.length (ks.take j)) :=
          HR.out.grown E (.inr (by simp [eP, aa])) (fun g e _ => by cases e; exact .inr rfl)
        have HI := ih t (zq ht) _ _ _ _ rs.length (fun b => A b ∨ b = f.heap.size) w0 ws C b1 bq (fun b h => by
            rcases h with h | h
            · have := hA b h; omega
            · omega) (by rw [zT, T.length_rowsL]; simp; omega) (by omega)
        rw [show (rs ++ [(⟨parent, k, s, g, []⟩ : An)] ++ T.rowsL (rs.length + 1) rs.length (ks.take j)).length = rs.length + 1 + T.sizes (ks.take j) by simp [T.length_rowsL]; omega] at HI
        have HI := za HI
        have cj := za (T.rowsL_take ht (rs.length + 1) rs.length)
        have co := za (Gv ht (rs.length + 1))
        have cw := za ag
        have cp := za E
        have bi := za bj
        have cf := za b0
        rw [I] at ca b8
        clear bx ba W bq b1 E ak ag ah z C ht ih bj cl I wb b0 P
        have cz : eW (ws = (wr.alloc (.cells #[.int .i64 t.k, .string t.s, .slice Q t.g.length R, .slice U t.ks.length O] 25)).setCell ⟨f.heap.size, j, none⟩ (.int .i64 ((rs.length : Int) + 1 + (T.sizes (ks.take j) : Int)))) := za (by
          rw [J, show ((rs.length + 1 + T.sizes (ks.take j) : Nat) : Int) = (rs.length : Int) + 1 + (T.sizes (ks.take j) : Int) by omega])
        clear J
        go_wp2_with (first | (go_at_call 63; rw [← cz.out]; refine HI.out.mono ?_; rintro e w' ⟨u', rfl, bf, ae, cr⟩))
        obtain ⟨ys, dr, bk, _⟩ := id bf
        rw [show (rs ++ [(⟨parent, k, s, g, []⟩ : An)] ++ T.rowsL (rs.length + 1) rs.length (ks.take j) ++ T.rows (rs.length + 1 + T.sizes (ks.take j)) rs.length t).length = rs.length + 1 + T.sizes (ks.take (j + 1)) by simp [T.length_rowsL, T.length_rows, cf.out]; omega] at bk
        obtain ⟨ai, cc, rfl, _, _⟩ := bk.form (by omega)
        have br : row = some ai ∨ w.heap.size ≤ ai := by
          rcases cr with h | h
          · simp only [eP, zb] at h
            rw [h]
            exact aj
          · right
            have := h ai rfl
            have := bi.out
            omega
        go_roundw
        case rel =>
          refine ⟨j + 1, by omega, ⟨ai, cc, rfl, br⟩, ?_, ?_, ?_, ?_, by go_num⟩
          · rw [cj.out, ← lW]
            exact bf
          · rw [co.out]
            exact zF cw.out ae (.inr (by simp [eP]; omega))
          · refine Ag (Ag aw.out cp.out (.inr fun k e => by cases e; exact av.out)) ae ?_
            simp only [eP]
            rcases aj with h | h
            · exact .inl h.symm
            · exact .inr fun k e => by cases e; exact h
          · have := ae.size
            have := bi.out
            omega
        case measure => simp [intOf]; omega
      · obtain rfl : j = ks.length := by omega
        have Z : (rs ++ [(⟨parent, k, s, g, []⟩ : An)] ++ T.rowsL (rs.length + 1) rs.length ks).length = rs.length + 1 + T.sizes ks := by simp [T.length_rowsL]; omega
        have L := HR.out
        have aq := HC.out
        rw [zY] at L aq
        rw [zY]
        rw [← Z] at L
        obtain ⟨⟨d1, ch⟩, c0⟩ := L.kidsCell (i := rs.length) (by rw [Z]; omega)
        have bb := Al.own (by simpa [yK] using aq)
        obtain ⟨a4, be⟩ := NN (A := A) (L.weaken (fun b _ h => .inl h)) (i := rs.length) (r := ⟨parent, k, s, g, []⟩) (by simp) bb (fun b y h => by
          have dp : f.heap.size = b := by simpa [eP] using y
          have h1 := hA _ h
          have h2 := av.out
          omega)
        rw [Wf, Z] at a4
        have cq := za a4
        have cm := za be
        have HK : eW ((yO (rs.length + 1) ks ++ ia (ks.length - ks.length) (0 : Int)) = yO (rs.length + 1) ks) := za (by simp)
        clear a4 be L aq bb
        go_wp2
        go_ret
        refine ⟨_, rfl, ?_, ?_, ?_⟩
        · have h := cq.out
          rw [T.rows]
          simpa using h
        · refine Ag aw.out cm.out ?_
          rcases aj with h | h
          · exact .inl h.symm
          · exact .inr fun k e => by cases e; exact h
        · rcases aj with h | h
          · exact .inl h.symm
          · exact .inr fun k e => by cases e; exact h
theorem Hc(t:T)(gv kv:zg)(w:ze)(hl:t.Lies w gv kv)(hs:t.size<=1000)(hb:t.bulk<=1048576):zM Tryz.prog 34 #[yJ t.k t.s gv kv] w λe w'=>∃u,e=.returned u/\yP w' w.heap.size (λ_=>False) u (t.rows 0 (-1))/\Below w.heap.size w w':=by obtain⟨l,j,rfl⟩:=hl.kids.slice;obtain⟨f,n,rfl⟩:=hl.gaps.slice;have a:=ya (w:=w) (.cells #[.int .i64 t.k,.string t.s,.slice f t.g.length n,.slice l t.ks.length j] 25);have m:=za (Sc t _ _ (.slice none 0 0) [] (-1) (λ_=>False) w _ hl a (yP.nil _ _ _) (λb h=>h.elim) (by simpa using hs) hb);have c:=za a;clear a;go_enter Tryz.func34,Tryz.ntmps34;go_wp2_with (first|(go_at_call 63;refine m.out.mono ?_;rintro e w' ⟨u,rfl,i,d,o⟩));go_ret;exact⟨_,rfl,i,yd c.out d (λk e=>by cases e) (zI c.out.size (zn _))⟩
end Go.Proofs
