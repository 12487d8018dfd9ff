/-
  Part of the proof: merge3.deletion: the walk.
-/
import Derived.Test.YtpdlpdkehminlaaGreatDoorWG
import Derived.Test.YtpdlpdkehminlaaGreatDoorLayA
import Derived.Sort.OwnSortedInts
import Derived.Laws.AppendOwnNone
set_option linter.all false
set_option maxRecDepth 100000
set_option maxHeartbeats 20000000
open Array renaming all_eq_true'->zan,getD_eq_getD_getElem?->zw,getElem?_eq_getElem->zU,getElem?_eq_some_iff->eh,getElem?_replicate->iE,getElem?_setIfInBounds->iF,replicate->eD
open Bool renaming and_eq_true->zo,eq_false_or_eq_true->zN
open Go renaming Act->lH,Calls->zM,Oper->eS,Value->zg,World->ze,bodyPost_ret->eG,cell_of_row->zV,heap_alloc_new->zx,info_parts->iY,wpList_append_own->ew,wpList_append_own_none->zc6
open Go.Builtin renaming copy_->zah
open Go.Code renaming region->zd8
open Go.Exit renaming «then»->ef
open Go.Instr renaming lookup->ec
open Go.Lib renaming hid->za
open Go.Region renaming Mode->zcj,binds->zR,noSelect->zc5,ready->eu,wanted->lS
open Go.RowKit renaming Hid->eW
open Go.RowKit.Below renaming refl->zt
open Go.Value renaming int->zX,oneCell'->ej,slice->eU
open Go.World renaming block_lt_of_cell?->la,cell?->zS,new_ne->zdJ,ownsRow_nil->ed
open Go.World.ownsRow renaming alloc->zy,cellAt->ep,kept->zF,lt->zE
open List renaming all_eq_true->iu,append_nil->iW,eq_nil_iff_forall_not_mem->iV,filter_append->oO,getElem?_eq_getElem->zc,getElem?_eq_some_iff->zm,getElem?_map->ig,getElem?_take_of_lt->lh,length_append->zT,length_filter_le->eL,length_map->l8,length_mergeSort->zaA,length_take->iR,map_append->ip,mem_of_getElem?->zq,mem_range->lD,range->ev,replicate->ia,take_add_one->z6,take_length->zY
open Nat renaming add_assoc->iH,add_comm->zbk,le_refl->zn,le_trans->zI,mul_one->zdq,zero_add->eV
open Option renaming getD_some->eE,map_some->zQ
namespace Go.Proofs
open Go.RowKit Go.Maps Go.MapKept
open Classical
theorem yj.one(w:ze){base:Nat}(x:Int)(hb:base<=w.heap.size):yj (w.alloc (.cells #[.int .i64 x] 3)) base (.slice (some ⟨w.heap.size,0,none⟩) 1 1) [x]:=⟨rfl,.inr ⟨w.heap.size,1,#[.int .i64 x],rfl,hb,zx _ _,by simp,by simp[maxLen],rfl,rfl⟩⟩
theorem J6(b s n m N:Nat)(B S:Ver)(root:Int)(w:ze)(hB:yV w b n B)(hS:yV w s m S)(hT:Eg B N)(hN:N<=1000)(hr:yw root):zM Tryz.prog 65 #[.map (some b),.map (some s),.int .i64 root] w λe w'=>∃u L,e=.returned u/\yj w' w.heap.size u L/\(∀x∈L,FB B S x=true)/\L.length<=N/\Below w.heap.size w w':=by
 obtain⟨is,bj,bo,a6,bd⟩:=iY Br;obtain⟨D,r⟩:∃D,D=(w.alloc (.cells #[.map (some b)] 62)).alloc (.cells #[.map (some s)] 62):=⟨_,rfl⟩
 have P:Below w.heap.size w D:=by rw[r];exact(ya _).trans ((ya _).mono (by simp))
 have ap:D.heap.size=w.heap.size+2:=by rw[r];simp
 have an:D.heap[w.heap.size]?=some (.cells #[.map (some b)] 62 (0,0)):=by rw[r];exact((ya (w:=w.alloc _) _).block w.heap.size (by simp)).trans (zx _ _)
 have am:D.heap[w.heap.size+1]?=some (.cells #[.map (some s)] 62 (0,0)):=by have h:=zx (w.alloc (.cells #[.map (some b)] 62)) (.cells #[.map (some s)] 62);rw[ye]at h;rw[r];exact h
 have I:Tv D w.heap.size b n B:=⟨by simp only[zS,an];rfl,by omega,hB.below P⟩
 have hq:Tv D (w.heap.size+1) s m S:=⟨by simp only[zS,am];rfl,by omega,hS.below P⟩
 have HP:=za I;have HQ:=za hq;have C:=za P;have bw:=za ap;have HG:eW (∀(i:Int)(W:ze),yw i->Below D.heap.size D W->zM Tryz.prog 94 #[.int .i64 i,.pointer (some ⟨w.heap.size,0,none⟩),.pointer (some ⟨w.heap.size+1,0,none⟩)] W λe w'=>e=.returned (.bool (FB B S i))/\Below W.heap.size W w'):=za λi W hi hb=>R7 _ _ b s n m B S i W (HP.out.below hb) (HQ.out.below hb) hi;clear I hq P ap an am hB hS;rcases zN (FB B S root)with e1|e1
 case inr=>go_enter Tryz.func65,Tryz.ntmps65;go_wp2_with fail;rw[<-r];refine(HG.out root D hr (zt _ _)).mono ?_;rintro e w2 ⟨rfl,G⟩;rw[e1];go_wp2;go_ret;exact⟨_,[],rfl,ed _ _ _ _,by simp,by simp,C.out.trans (G.mono C.out.size)⟩
 obtain⟨y,hy,b9⟩:=Gl e1;obtain⟨h0,b0,ca,bx,_⟩:=hT root y hy;have a7:yw y.parent:=Bg (by omega) (by omega);have b1:=Xd;have cd:=Vv;go_enter Tryz.func65,Tryz.ntmps65;go_wp2_with fail;rw[<-r];refine(HG.out root D hr (zt _ _)).mono ?_;rintro e w2 ⟨rfl,G⟩;rw[e1];have Y:=HP.out.below G;obtain⟨gp,gc,kp,kc,av,af,_,_⟩:=Y.2.2.look hr hy;dsimp only[Dh]at av af;have c0:=Y.1;have H:=za G;clear Y G r;go_wp2_with fail;refine(HG.out y.parent w2 a7 H.out).mono ?_;rintro e o ⟨rfl,Z⟩;rcases zN (FB B S y.parent)with e2|e2
 .rw[e2];go_wp2;go_ret;exact⟨_,[],rfl,ed _ _ _ _,by simp,by simp,C.out.trans ((H.out.trans (Z.mono H.out.size)).mono C.out.size)⟩
 rw[e2];have j:=H.out.trans (Z.mono H.out.size);have aa:=za (C.out.trans (j.mono C.out.size));have bc:eW (D.heap.size<=o.heap.size):=za j.size;have R:=za j;have bf:eW (∀p y,B p=some y->yw p->∃gp gc kp kc,(∀W:ze,Below o.heap.size o W->(ec 62 (.map (some b)) (.int .i64 p) false).run Tryz.prog W=.ok (.agg #[.int .i64 y.k,.string y.s,.slice gp y.g.length gc,.int .i64 y.parent,.slice kp y.kids.length kc]) W)/\yo o (.slice kp y.kids.length kc) y.kids):=za λp y hy I=>by obtain⟨y',gp,gc,kp,kc,h1,_,h3,h4⟩:=(HP.out.below j).2.2.look_all I;rw[hy]at h4;obtain rfl:y'=y:=h4;exact⟨gp,gc,kp,kc,λW hW=>(h1 W (hW.block _ (HP.out.below j).2.2.lt)).1,h3⟩
 clear Z c0 av af j;go_wp2;go_loopw [8,9] (λuv iv W=>∃(i:Nat)(L:List Int),iv=.int .i64 i/\yj W o.heap.size uv L/\i<=L.length/\Ed B S root i 0 [] L/\Below o.heap.size o W) (λ_ iv _=>N-(intOf iv).toNat)
 case atStart=>exact⟨0,[root],rfl,yj.one _ _ (zn _),by simp,Ed.start e1,ya _⟩
 case round=>
  obtain⟨i,L,rfl,d,hi,c,a⟩:=hrel;obtain⟨pu,cu,rfl⟩:=yq d;have ab:=c.len hT;have ba:=((HP.out.below R.out).below a).1;have bq:=a.size;by_cases bg:i<L.length
  .obtain⟨p,I⟩:∃p,L[i]?=some p:=⟨L[i],zc bg⟩
   obtain⟨Q,J,_⟩:=Gl (c.gone p (zq I));obtain⟨q0,qN,_,_,qk,qd,T⟩:=hT p Q J;have aj:yw p:=Bg (by omega) (by omega);obtain⟨ch,cf,cc,ce,ag,au⟩:=bf.out p Q J aj;have ao:∀m,(ec 62 (.map (some b)) (.int .i64 p) false).run Tryz.prog (wr.drewN m)=_:=λm=>ag _ (yk a);obtain⟨bu,ou,rfl,bm,bl⟩:=d.ints.at I;have f:=za d;have aq:=za c;have v:=za a;have a9:=za au;have bn:=za I;have be:=za T;have a2:=za J;clear d c a au ag I T J;go_wp2;go_quiet (fail);obtain⟨wq,O⟩:∃wq,wq=wr.drewN nq:=⟨_,rfl⟩
   have bi:eW (Below o.heap.size o wq):=za (by rw[O];exact yk v.out);have V:eW (yj wq o.heap.size (.slice (some ⟨bu,ou,none⟩) L.length cu) L):=za (by rw[O];exact f.out);rw[<-O];clear O ao f v bl bm ba;go_wp2;go_loopw [8,41] (λuv qv W=>∃(q:Nat)(E:List Int),qv=.int .i64 q/\q<=Q.kids.length/\yj W o.heap.size uv E/\Ed B S root i p (Q.kids.take q) E/\E[i]?=some p/\Below o.heap.size o W) (λ_ qv _=>Q.kids.length-(intOf qv).toNat)
   case atStart=>exact⟨0,L,rfl,by omega,V.out,aq.out.begin,bn.out,bi.out⟩
   case round=>
    obtain⟨q,E,rfl,hq,d,c,A,a⟩:=hrel;obtain⟨ah,ak,rfl⟩:=yq d;have az:=c.len hT;have ac:=a.size;by_cases bh:q<Q.kids.length
    .obtain⟨k,hk⟩:∃k,Q.kids[q]?=some k:=⟨Q.kids[q],zc bh⟩
     obtain⟨bk,ok,rfl,b3,ck⟩:=(a9.out.below a).at hk;obtain⟨k1,k2,_⟩:=be.out k (zq hk);have a5:yw k:=Bg (by omega) (by omega);have f:=za d;have l:=za c;have v:=za a;have z:=za A;have HK:=za hk;have a4:=za (HG.out k wr a5 (R.out.trans (a.mono bc.out)));clear d c a A hk;go_wp2_with fail;refine a4.out.mono ?_;rintro e w5 ⟨rfl,X⟩;have t:eW (yj w5 o.heap.size (.slice ah E.length ak) E):=za (zF f.out (yM (row:=none) X) (by cases(eU ah E.length ak).ownBlock<;>simp));have ad:eW (Below o.heap.size o w5):=za (v.out.trans (X.mono ac));have F:=ad.out.size;clear X;rcases zN (FB B S k)with e3|e3
     .rw[e3];go_wp2_with (at_builtin;refine ew _ rfl _ _ 55 rfl o.heap.size 3 is (.int .i64 0) 1 8 Tryz.underlying55 bj bo a6 bd rfl (by decide) _ E.length (E.map (zX .i64)) rfl (zy t.out _) ⟨w5.heap.size,0,none⟩ 1 1 [.int .i64 k] rfl rfl (AR _ _ _) (by simp[ej]) (by simp[maxLen];omega) (by omega) (zI F (ya _).size) ?_;intro v' w6 U M bb);go_roundw
      case rel=>
       refine⟨q+1,E++[k],by go_num,by omega,?_,l.out.add hT z.out a2.out HK.out e3,?_,?_⟩
       .unfold yj;rw[zT,ip];exact U
       .rw[List.getElem?_append_left (zm.1 z.out).1];exact z.out
       .exact yd (ad.out.trans ((ya _).mono F)) M (λk hk=>yf t.out k hk) (zI F (ya _).size)
      case measure=>simp[intOf];omega
     .rw[e3];go_wp2;go_roundw
      case rel=>exact⟨q+1,E,by go_num,by omega,t.out,l.out.skip,z.out,ad.out⟩
      case measure=>simp[intOf];omega
    .obtain rfl:q=Q.kids.length:=by omega
     rw[zY]at c;have l:=za c;have f:=za d;have b6:i<E.length:=(zm.1 A).1;clear c d;go_wp2;go_roundw
     case rel=>exact⟨i+1,E,by go_num,f.out,by omega,l.out.next A 0,a⟩
     case measure=>simp[intOf];omega
  .obtain rfl:i=L.length:=by omega
   go_wp2;go_ret;exact⟨_,L,rfl,Au d (by have:=aa.out.size;omega),c.gone,ab,aa.out.trans (a.mono aa.out.size)⟩
theorem MA(p:Nat)(v:zg)(now:List Int)(k:Int)(w:ze)(hp:w.cell? ⟨p,0,none⟩=some v)(hv:yo w v now)(hn:now.length<=1000000):zM Tryz.prog 107 #[.int .i64 k,.pointer (some ⟨p,0,none⟩)] w λe w'=>e=.returned (.bool (!decide (k∈now)))/\w'=w:=by obtain⟨a,b,rfl⟩:=hv.slice;have c:=za (B3 (.slice a now.length b) now k w hv hn);generalize decide (k∈now)=q at*;clear hv;go_enter Tryz.func107,Tryz.ntmps107;go_wp2_with fail;refine c.out.mono ?_;rintro e d ⟨rfl,rfl⟩;go_wp2;go_ret;exact⟨rfl,rfl⟩
theorem Ow(b n pi p:Nat)(V:Ver)(id:Int)(v:zg)(now:List Int)(w:ze)(hV:yV w b n V)(hi:w.cell? ⟨pi,0,none⟩=some (.int .i64 id))(hf:yw id)(hp:w.cell? ⟨p,0,none⟩=some v)(hv:yo w v now)(hn:now.length<=1000000)(hk:∀y,V id=some y->y.kids.length<=1000000):zM Tryz.prog 106 #[.map (some b),.pointer (some ⟨pi,0,none⟩),.pointer (some ⟨p,0,none⟩)] w λe w'=>∃u,e=.returned u/\yj w' w.heap.size u ((((V id).map Dl.kids).getD []).filter λk=>decide (k∈now))/\Below w.heap.size w w':=by
 obtain⟨y,M,J,I,H,m,_,o,i⟩:=hV.look_all hf;have A:=(m w rfl).1;dsimp only[Dh]at A;have a:((V id).map Dl.kids).getD []=y.kids:=by rw[i];cases V id<;>rfl
 have q:y.kids.length<=1000000:=by
  cases hq:V id with
  |none=>rw[i,hq];simp
  |some z=>rw[i,hq];exact hk z hq
 rw[a];have D:=Vv;have B:=la w _ hp;have E:=za (M7 (.slice I y.kids.length H) y.kids w o (by omega));have t:=za hp;have r:=za hv;clear hV m o i a hv hk;go_enter Tryz.func106,Tryz.ntmps106;go_wp2_with fail;refine E.out.mono ?_;rintro e G ⟨u2,rfl,c,d⟩;obtain⟨C,F,rfl⟩:=yq c;have s:=za (LD 107 #[.pointer (some ⟨p,0,none⟩)] (λk=> !decide (k∈now)) (.slice C y.kids.length F) y.kids w.heap.size G c (by omega) (λ_ _=>rfl) (λx hx W hW=>by have g:Below w.heap.size w W:=yd d hW (λk hk=>yf c k hk) d.size;exact MA p v now x W ((g.cell (p:=⟨p,0,none⟩) B).trans t.out) (r.out.below g) hn));have f:=za d;have l:=za c;clear d c;go_wp2_with fail;refine s.out.mono ?_;rintro e L ⟨u3,rfl,h,j⟩;go_wp2;go_ret;refine⟨u3,rfl,?_,yd f.out j (λk hk=>yf l.out k hk) f.out.size⟩;have e:(λx=> !(λk=> !decide (k∈now)) x)=λk=>decide (k∈now):=by funext x;simp
 rw[e]at h;exact h
theorem PB(O:Nat)(v u:zg)(l L:List Int)(w:ze)(hv:yo w v l)(hO:w.heap[O]?=some (.cells #[u] 55 (0,0)))(hu:yj w w.heap.size u L)(hlow:∀W,w.grownBy W (some O)->yo W v l)(hn:l.length<=300)(hL:L.length<=300):zM Tryz.prog 108 #[v,.pointer (some ⟨O,0,none⟩)] w λe w'=>e=.returned (.tuple #[])/\∃u',w'.heap[O]?=some (.cells #[u'] 55 (0,0))/\yj w' w.heap.size u' (l.foldl Ad L)/\w.grownBy w' (some O):=by
 obtain⟨Z,I,N,J,M⟩:=iY Br;obtain⟨pv,cv,rfl⟩:=hv.slice;have q:=za hlow;have Y:=yz hO;clear hv hlow;go_enter Tryz.func108,Tryz.ntmps108;go_wp2;go_loopw [7] (λiv X=>∃(j:Nat)(u':zg),j<=l.length/\iv=.int .i64 j/\X.heap[O]?=some (.cells #[u'] 55 (0,0))/\yj X w.heap.size u' ((l.take j).foldl Ad L)/\((l.take j).foldl Ad L).length<=L.length+j/\w.grownBy X (some O)) (λiv _=>l.length-(intOf iv).toNat)
 case atStart=>exact⟨0,u,by omega,rfl,hO,hu,by simp,⟨rfl,rfl,rfl,zn _,λ_ _ _=>rfl⟩⟩
 case round=>
  obtain⟨j,u',hj,rfl,y,f,T,g⟩:=hrel;obtain⟨P,Q,rfl⟩:=yq f;have o:=q.out wr g;have S:=za y;have a:=za f;have r:=za g;have z:=g.size;have G:=yz y;have c0:wr.cell? ⟨O,0,none⟩=_:=zV wr O 0 _ _ _ y;by_cases E:j<l.length
  .obtain⟨x,F⟩:∃x,l[j]?=some x:=⟨l[j],zc E⟩
   obtain⟨bx,ox,rfl,aa,cx⟩:=o.at F;have d:eW ((l.take (j+1)).foldl Ad L=Ad ((l.take j).foldl Ad L) x):=za (by rw[z6,F];simp);generalize(l.take j).foldl Ad L=A at*;have C:=za (B3 (.slice P A.length Q) A x wr a.out.ints (by omega));clear y f o g F;by_cases B:x∈A
   .rw[decide_eq_true B]at C;have m:eW ((l.take (j+1)).foldl Ad L=A):=za (by rw[d.out,Ad,if_pos B]);go_wp2_with fail;refine C.out.mono ?_;rintro e U ⟨rfl,rfl⟩;go_wp2;go_roundw
    case rel=>exact⟨j+1,_,by omega,by go_num,S.out,by rw[m.out];exact a.out,by rw[m.out];omega,r.out⟩
    case measure=>simp[intOf];omega
   .rw[decide_eq_false B]at C;have m:eW ((l.take (j+1)).foldl Ad L=A++[x]):=za (by rw[d.out,Ad,if_neg B]);have D:∀k,(eU P A.length Q).ownBlock=some k->k≠O:=λk hk=>by have:=yf a.out k hk;omega
    go_wp2_with fail;refine C.out.mono ?_;rintro e U ⟨rfl,V⟩;rw[V];clear V U;go_wp2_with (at_builtin;refine ew _ rfl _ _ 55 rfl w.heap.size 3 Z (.int .i64 0) 1 8 Tryz.underlying55 I N J M rfl (by decide) _ A.length (A.map (zX .i64)) rfl (zy a.out _) ⟨wr.heap.size,0,none⟩ 1 1 [.int .i64 x] rfl rfl (AR _ _ _) (by simp[ej]) (by simp[maxLen];omega) (by omega) (zI z (ya _).size) ?_;intro v' n b c H;obtain⟨p,t,rfl⟩:=yq b;have i:n.heap[O]?=some (.cells #[.slice P A.length Q] 55 (0,0)):=(c.block O (by simp;omega) (λe=>D O e.symm rfl)).trans (((ya (w:=wr) _).block O G).trans S.out);have x6:n.cell? ⟨O,0,none⟩=_:=zV n O 0 _ _ _ i;have f6:=frozen_of_row n O 0 _ _ i;have R:=za i;clear i);go_roundw
    case rel=>
     have s:=yn n O 0 (.slice p (A.length+1) t);refine⟨j+1,_,by omega,by go_num,heap_setCell_same n _ 0 _ _ _ R.out,?_,?_,?_⟩
     .rw[m.out];unfold yj;rw[zT,ip];exact zF b s (by
       cases h:(eU p (A.length+1) t).ownBlock with
       |none=>exact .inl rfl
       |some k=>exact .inr λe=>by have:=yf b k h;cases e;omega)
     .rw[m.out,zT];simp;omega
     .exact yc (Ag (yc r.out (World.grownBy_alloc _ _ _)) c (.inr λk hk=>yf a.out k hk)) s
    case measure=>simp[intOf];omega
  .obtain rfl:j=l.length:=by omega
   have m:eW ((l.take l.length).foldl Ad L=l.foldl Ad L):=za (by rw[zY]);clear y;go_wp2;go_end0;refine⟨rfl,_,S.out,?_,g⟩;have:=a.out;rw[m.out]at this;rw[m.out];exact this
theorem RC(O base:Nat)(v u:zg)(l L:List Int)(w:ze)(hv:yo w v l)(hO:w.heap[O]?=some (.cells #[u] 55 (0,0)))(hu:yj w base u L)(hall:∀x∈l,x∈L)(hn:l.length<=300)(hL:L.length<=300):zM Tryz.prog 108 #[v,.pointer (some ⟨O,0,none⟩)] w λe w'=>e=.returned (.tuple #[])/\w'=w:=by
 obtain⟨p,q,rfl⟩:=hv.slice;obtain⟨h,m,rfl⟩:=yq hu;have r:w.cell? ⟨O,0,none⟩=_:=zV w O 0 _ _ _ hO;have f:=za hu;have g:=za hv;clear hO hu hv;go_enter Tryz.func108,Tryz.ntmps108;go_wp2;go_loop [7] (λiv=>∃j:Nat,j<=l.length/\iv=.int .i64 j) (λiv=>l.length-(intOf iv).toNat)
 case atStart=>exact⟨0,by omega,rfl⟩
 case round=>
  rename_i hrel;obtain⟨j,n,rfl⟩:=hrel;by_cases b:j<l.length
  .obtain⟨x,a⟩:∃x,l[j]?=some x:=⟨l[j],zc b⟩
   obtain⟨o,t,rfl,k,s⟩:=g.out.at a;have d:=za (B3 (.slice h L.length m) L x w f.out.ints (by omega));rw[decide_eq_true (hall x (zq a))]at d;clear a;go_wp2_with fail;refine d.out.mono ?_;rintro e i ⟨rfl,c⟩;rw[c];clear c i;go_wp2;go_round
   case rel=>exact⟨j+1,by omega,by go_num⟩
   case measure=>simp[intOf];omega
  .obtain rfl:j=l.length:=by omega
   go_wp2;go_end0;exact⟨rfl,rfl⟩
theorem IH(X:Nat)(c0 c1 c2 c3:zg)(kp:Option Addr)(kn kc:Nat)(l:List Int)(k:Int)(w:ze)(hX:w.heap[X]?=some (.cells #[c0,c1,c2,c3,.slice kp kn kc] 94 (0,0)))(hl:yo w (.slice kp kn kc) l)(hn:l.length<=1000000):zM Tryz.prog 97 #[.int .i64 k,.pointer (some ⟨X,0,none⟩)] w λe w'=>e=.returned (.bool (!decide (k∈l)))/\w'=w:=by obtain⟨c,h,g,b,f⟩:=yX hX;have a:=za (B3 (.slice kp kn kc) l k w hl hn);generalize decide (k∈l)=q at*;clear hX hl;go_enter Tryz.func97,Tryz.ntmps97;go_wp2_with fail;refine a.out.mono ?_;rintro e d ⟨rfl,rfl⟩;go_wp2;go_ret;exact⟨rfl,rfl⟩
theorem J2(p q b o n m:Nat)(B O:Ver)(i:Int)(w:ze)(hp:Tv w p b n B)(hq:Tv w q o m O)(hi:yw i)(h:O i=none\/∃y,B i=some y/\O i=some y/\y.kids.length<=1000000):zM Tryz.prog 96 #[.int .i64 i,.pointer (some ⟨q,0,none⟩),.pointer (some ⟨p,0,none⟩)] w λe w'=>e=.returned (.bool false)/\Below w.heap.size w w':=by
 have c1:=hq.1;have lq:=hq.2.1;have lp:=hp.2.1;rcases h with h|⟨y,V,E,I⟩
 .obtain⟨_,C⟩:=hq.2.2.look_none hi h;clear hp hq;go_enter Tryz.func96,Tryz.ntmps96;go_wp2;go_ret;exact⟨rfl,ya _⟩
 .obtain⟨S,R,Q,P,_,C,Y,X⟩:=hq.2.2.look hi E;dsimp only[Dh]at C;obtain⟨j,a⟩:∃j,j=w.alloc (.cells #[.int .i64 y.k,.string y.s,.slice S y.g.length R,.int .i64 y.parent,.slice Q y.kids.length P] 94):=⟨_,rfl⟩
  have d:Below w.heap.size w j:=by rw[a];exact ya _
  have l:=hp.below d;have c2:=l.1;obtain⟨H,G,v,z,F,_,M,D⟩:=l.2.2.look hi V;dsimp only[Dh]at F;obtain⟨A,t⟩:∃A,A=j.alloc (.cells #[.int .i64 y.k,.string y.s,.slice H y.g.length G,.int .i64 y.parent,.slice v y.kids.length z] 94):=⟨_,rfl⟩
  have c:Below j.heap.size j A:=by rw[t];exact ya _
  have J:j.heap.size=w.heap.size+1:=by rw[a];simp
  have r:A.heap[w.heap.size+1]?=some (.cells #[.int .i64 y.k,.string y.s,.slice H y.g.length G,.int .i64 y.parent,.slice v y.kids.length z] 94 (0,0)):=by rw[<-J,t];exact zx _ _
  have L:A.heap[w.heap.size]?=some (.cells #[.int .i64 y.k,.string y.s,.slice S y.g.length R,.int .i64 y.parent,.slice Q y.kids.length P] 94 (0,0)):=by refine(c.block _ (by rw[a];simp)).trans ?_;rw[a];exact zx _ _
  have T:=za (Jr 97 #[.pointer (some ⟨w.heap.size+1,0,none⟩)] (λk=> !decide (k∈y.kids)) (.slice Q y.kids.length P) y.kids A ((X.below d).below c) I (λ_ _=>rfl) (λx _ W hW=>by refine(IH (w.heap.size+1) _ _ _ _ v y.kids.length z y.kids x W ((hW.block _ (yz r)).trans r) ((D.below c).below hW) I).mono ?_;rintro e w' ⟨rfl,rfl⟩;exact⟨rfl,zt _ _⟩));have f:(y.kids.any λk=> !decide (k∈y.kids))=false:=by rw[List.any_eq_false];intro x Z;simp[Z]
  rw[f]at T;have U:eW (Below w.heap.size w A):=za (d.trans (c.mono d.size));have e1:(y.s.toList==y.s.toList)=true:=by simp
  rw[a]at c2 F;clear hp hq l d c L r Y M X D f V E;go_enter Tryz.func96,Tryz.ntmps96;go_wp2_with fail;rw[<-a,<-t];refine T.out.mono ?_;rintro e w4 ⟨rfl,N⟩;go_wp2;go_ret;exact⟨rfl,U.out.trans (N.mono U.out.size)⟩
theorem IU(b o n m:Nat)(B O:Ver)(v:zg)(ids:List Int)(w:ze)(hB:yV w b n B)(hO:yV w o m O)(hv:yo w v ids)(hn:ids.length<=1000000)(hf:∀x∈ids,yw x)(h:∀x∈ids,O x=none\/∃y,B x=some y/\O x=some y/\y.kids.length<=1000000):zM Tryz.prog 66 #[.map (some b),.map (some o),v] w λe w'=>e=.returned (.bool false)/\Below w.heap.size w w':=by
 obtain⟨t,s,rfl⟩:=hv.slice;obtain⟨d,c⟩:∃d,d=(w.alloc (.cells #[.map (some b)] 62)).alloc (.cells #[.map (some o)] 62):=⟨_,rfl⟩
 have a:Below w.heap.size w d:=by rw[c];exact(ya _).trans ((ya _).mono (by simp))
 have r:d.heap.size=w.heap.size+2:=by rw[c];simp
 have i:d.heap[w.heap.size]?=some (.cells #[.map (some b)] 62 (0,0)):=by rw[c];exact((ya (w:=w.alloc _) _).block w.heap.size (by simp)).trans (zx _ _)
 have g:d.heap[w.heap.size+1]?=some (.cells #[.map (some o)] 62 (0,0)):=by have h:=zx (w.alloc (.cells #[.map (some b)] 62)) (.cells #[.map (some o)] 62);rw[ye]at h;rw[c];exact h
 have k:Tv d w.heap.size b n B:=⟨by simp only[zS,i];rfl,by omega,hB.below a⟩
 have l:Tv d (w.heap.size+1) o m O:=⟨by simp only[zS,g];rfl,by omega,hO.below a⟩
 have p:=za (Jr 96 #[.pointer (some ⟨w.heap.size+1,0,none⟩),.pointer (some ⟨w.heap.size,0,none⟩)] (λ_=>false) (.slice t ids.length s) ids d (hv.below a) hn (λ_ _=>rfl) (λx hx W hW=>J2 _ _ b o n m B O x W (k.below hW) (l.below hW) (hf x hx) (h x hx)));have f:(ids.any λ_=>false)=false:=by simp
 rw[f]at p;have q:=za a;clear k l a i g hB hO hv hf h f;go_enter Tryz.func66,Tryz.ntmps66;go_wp2_with fail;rw[<-c];refine p.out.mono ?_;rintro e z ⟨rfl,j⟩;go_wp2;go_ret;exact⟨rfl,q.out.trans (j.mono q.out.size)⟩
end Go.Proofs
namespace Go.Cut
open Go
section
variable{P:Program}
theorem Mk{o:eS}{a:lH}{w:ze}{Kn K1 K2:lH->ze->Prop}{Q:Exit->lH->ze->Prop}(h:o.wp P a w Kn (ef K1 Q)):o.wp P a w Kn (ef K2 Q):=by
 unfold Oper.wp at*;generalize(execOp a.eval o).run P w=r at*;cases r with
 |ok n w'=>cases n<;>exact h
 |halt x w'=>cases x<;>exact h
theorem Ti{ops:Array eS}{i:Nat}{a:lH}{w:ze}{Kn K1 K2:lH->ze->Prop}{Q:Exit->lH->ze->Prop}(h:wpOp P ops (ef K1 Q) i Kn a w):wpOp P ops (ef K2 Q) i Kn a w:=by
 unfold wpOp at*;split
 .rename_i e;rw[e]at h;exact h
 .rename_i o e;rw[e]at h;simp only at h;split
  .rename_i hw;rw[if_pos hw]at h;rcases h with h|⟨b,c⟩
   .exact .inl (Mk h)
   .exact .inr ⟨b,c⟩
  .rename_i hw;rw[if_neg hw]at h;exact h
theorem Ap{md:zcj}{ops:Array eS}{listed:Array Bool}{i:Nat}:i∈eu md ops listed↔i<ops.size/\listed.getD i true=false/\∃o,ops[i]?=some o/\∀e,e∈o.after->zR md e=true->listed.getD e.on false=true:=by
 unfold eu;rw[List.mem_filter,lD];simp only[zo,Bool.not_eq_true'];constructor
 .rintro⟨b,c,a⟩;refine⟨b,c,ops[i],by simp[b],λe d hb=>?_⟩;rw[zU b]at a;simp only[zQ,eE]at a;rw[zan]at a;have:=a e d;rw[hb]at this;simpa using this
 .rintro⟨b,c,o,f,a⟩;refine⟨b,c,?_⟩;rw[f];simp only[zQ,eE];rw[zan];intro e d;cases hb:zR md e with
  |false=>rfl
  |true=>rw[a e d hb];rfl
structure Rw(ops:Array eS)(p:Nat):Prop where
 le:p<=ops.size
 wait:∀i o,p<=i->ops[i]?=some o->∀q,q<p->∃e,e∈o.after/\e.on=q/\zR .any e=true
 low:∀i o,i<p->ops[i]?=some o->∀e,e∈o.after->zR .any e=true->e.on<i
 guard:∀i o j b,i<p->ops[i]?=some o->o.guard=some (j,b)->j<p
structure UF(ops:Array eS)(p:Nat)(l l':Array Bool):Prop where
 sz:l.size=ops.size
 sz':l'.size=p
 low:∀i,i<p->l[i]?=l'[i]?
 high:∀i,p<=i->i<ops.size->l[i]?=some false
theorem Ea{ops:Array eS}{p:Nat}(hs:Rw ops p){K:lH->ze->Prop}{Q:Exit->lH->ze->Prop}:∀(f f':Nat)(l l':Array Bool)(a:lH)(w:ze),UF ops p l l'->f+(ops.size-p)<=f'->wpAny P .any (ops.extract 0 p) (ef (λa w=>∀f' l,(∀i,i<p->l[i]?=some true)->(∀i,p<=i->i<ops.size->l[i]?=some false)->l.size=ops.size->ops.size-p<=f'->wpAny P .any ops (ef K Q) f' l a w) Q) f l' a w->wpAny P .any ops (ef K Q) f' l a w:=by
 have X:(ops.extract 0 p).size=p:=by have:=hs.le;simp;omega
 have k:∀i,i<p->(ops.extract 0 p)[i]?=ops[i]?:=by intro i m;rw[Array.getElem?_extract];have:=hs.le;simp;omega
 have v:∀(l l':Array Bool),UF ops p l l'->eu .any (ops.extract 0 p) l'=[]->∀i,i<p->l[i]?=some true:=by
  intro l l' c B i;induction i using Nat.strongRecOn with
  |_ i ih=>
   intro m;have F:i<l.size:=by have:=c.sz;have:=hs.le;omega
   have J:i<l'.size:=by have:=c.sz';omega
   cases r:l'[i]?with
   |none=>rw[zU J]at r;cases r
   |some t=>
    cases t with
    |true=>rw[c.low i m,r]
    |false=>
     exfalso;have g:i<ops.size:=by have:=hs.le;omega
     have n:ops[i]?=some (ops[i]'g):=zU g;have S:i∈eu .any (ops.extract 0 p) l':=Ap.2 ⟨by omega,by simp[zw,r],_,(k i m).trans n,λe he hbd=>by have s:=hs.low i _ m n e he hbd;have:=ih e.on s (by omega);rw[c.low e.on (by omega)]at this;simp[zw,this]⟩;rw[B]at S;cases S
 have C:∀(l l':Array Bool),UF ops p l l'->(∃q,q<p/\l[q]?≠some true)->∀i,i∈eu .any ops l->i<p/\i∈eu .any (ops.extract 0 p) l':=by
  rintro l l' c ⟨q,r,x⟩ i m;obtain⟨s,z,o,n,D⟩:=Ap.1 m;have d:i<p:=by
   rcases Nat.lt_or_ge i p with h|h
   .exact h
   .exfalso;obtain⟨e,N,M,T⟩:=hs.wait i o h n q r;have:=D e N T;rw[M]at this;have F:q<l.size:=by have:=c.sz;have:=hs.le;omega
    rw[zw,zU F]at this;rw[zU F]at x;simp only[eE]at this;rw[this]at x;exact x rfl
  refine⟨d,Ap.2 ⟨by omega,?_,o,(k i d).trans n,λe he hbd=>?_⟩⟩
  .rw[zw,<-c.low i d,<-zw];exact z
  .have W:=hs.low i o d n e he hbd;have:=D e he hbd;rw[zw,c.low e.on (by omega),<-zw]at this;exact this
 have V:∀(l l':Array Bool),UF ops p l l'->∀i,i∈eu .any (ops.extract 0 p) l'->i∈eu .any ops l:=by
  intro l l' c i m;obtain⟨s,z,o,n,D⟩:=Ap.1 m;have d:i<p:=by omega
  rw[k i d]at n;refine Ap.2 ⟨by have:=hs.le;omega,?_,o,n,λe he hbd=>?_⟩
  .rw[zw,c.low i d,<-zw];exact z
  .have W:=hs.low i o d n e he hbd;have:=D e he hbd;rw[zw,c.low e.on (by omega),<-zw];exact this
 have H:∀(i:Nat),i<p->∀(E I R:lH->ze->Prop)(a:lH)(w:ze),(∀a w,E a w->I a w)->wpOp P (ops.extract 0 p) (ef R Q) i E a w->wpOp P ops (ef K Q) i I a w:=by
  intro i m E I R a w U h;have g:i<ops.size:=by have:=hs.le;omega
  have n:ops[i]?=some (ops[i]'g):=zU g;have Y:lS (ops[i]'g) (yielded (ops.extract 0 p) a.tmps)=lS (ops[i]'g) (yielded ops a.tmps):=by
   unfold lS;cases hg:(ops[i]'g).guard with
   |none=>rfl
   |some jb=>obtain⟨j,b⟩:=jb;have G:=hs.guard i _ j b m n hg;simp only[yielded,k j G]
  unfold wpOp at*;rw[k i m,n]at h;rw[n];simp only at h⊢;rw[Y]at h;split
  .rename_i r;rw[if_pos r]at h;rcases h with h|⟨s,z⟩
   .exact .inl (Mk (Oper.wp_mono U h))
   .exact .inr ⟨s,z⟩
  .rename_i r;rw[if_neg r]at h;exact U _ _ h
 intro f;induction f with
 |zero=>intro f' l l' a w c Z h;obtain⟨s,z⟩:=h;exact z f' l (v l l' c s) c.high c.sz (by omega)
 |succ f ih=>
  intro f' l l' a w c Z h;obtain⟨s,z⟩:=h;by_cases y:∃q,q<p/\l[q]?≠some true
  .cases f' with
   |zero=>omega
   |succ f'=>
    refine⟨λB=>?_,λi m=>?_⟩
    .exfalso;obtain⟨q,r,x⟩:=y;refine x (v l l' c ?_ q r);rw[iV];intro i m;have:=V l l' c i m;rw[B]at this;cases this
    .obtain⟨d,L⟩:=C l l' c y i m;refine H i d _ _ _ a w (λa' w' h'=>ih f' _ _ a' w' ?_ (by omega) h') (z i L);refine⟨by simpa using c.sz,by simpa using c.sz',λj G=>?_,λj s z=>?_⟩
     .simp only[iF];have N:=c.sz;have M:=c.sz';have T:=hs.le;by_cases A:i=j
      .rw[if_pos A,if_pos A,if_pos (by omega),if_pos (by omega)]
      .rw[if_neg A,if_neg A,c.low j G]
     .simp only[iF];rw[if_neg (by omega)];exact c.high j s z
  .have B:eu .any (ops.extract 0 p) l'=[]:=by
    rw[iV];intro i m;obtain⟨g1,O,_⟩:=Ap.1 m;have d:i<p:=by omega
    apply y;refine⟨i,d,?_⟩;rw[c.low i d];intro e;rw[zw,e]at O;cases O
   exact s B f' l (v l l' c B) c.high c.sz (by omega)
theorem Gj(Q:Exit->lH->ze->Prop):ef (Q .normal) Q=Q:=by funext e a w;cases e<;>rfl
structure WP(ops:Array eS)(n:Nat):Prop where
 all:∀i o,n<=i->ops[i]?=some o->∀q,q<i->∃e,e∈o.after/\e.on=q/\zR .any e=true
 low:∀i o,ops[i]?=some o->∀e,e∈o.after->zR .any e=true->e.on<i
theorem KN{ops:Array eS}{n:Nat}(hc:WP ops n){Q:Exit->lH->ze->Prop}:∀(rest:List eS)(k f:Nat)(l:Array Bool)(a:lH)(w:ze),n<=k->(∀j,rest[j]?=ops[k+j]?)->k+rest.length=ops.size->(∀i,i<k->l[i]?=some true)->(∀i,k<=i->i<ops.size->l[i]?=some false)->l.size=ops.size->rest.length<=f->wpList P ops Q rest a w->wpAny P .any ops Q f l a w
 |[],k,f,l,a,w,hk,hr,hsz,h1,h2,h3,hf,h=>by
  have hn:eu .any ops l=[]:=by rw[iV];intro i c;obtain⟨z,p,_⟩:=Ap.1 c;have:=h1 i (by simp at hsz;omega);rw[zw,this]at p;cases p
  cases f with
  |zero=>exact⟨hn,h⟩
  |succ f=>exact⟨λ_=>h,λi c=>by rw[hn]at c;cases c⟩
 |o::rest,k,f,l,a,w,hk,hr,hsz,h1,h2,h3,hf,h=>by
  have g:ops[k]?=some o:=by simpa using(hr 0).symm
  have m:k<ops.size:=by simp at hsz;omega
  have s:∀i,i∈eu .any ops l->i=k:=by
   intro i c;obtain⟨z,p,y,r,v⟩:=Ap.1 c;rcases Nat.lt_trichotomy i k with hlt|rfl|hlt
   .have:=h1 i hlt;rw[zw,this]at p;cases p
   .rfl
   .obtain⟨e,x,t,A⟩:=hc.all i y (by omega) r k hlt;have:=v e x A;rw[t,zw,h2 k (by omega) m]at this;cases this
  have b:k∈eu .any ops l:=Ap.2 ⟨m,by rw[zw,h2 k (by omega) m];rfl,o,g,λe he hb=>by rw[zw,h1 e.on (hc.low k o g e he hb)];rfl⟩;cases f with
  |zero=>simp at hf
  |succ f=>
   refine⟨λhn=>(by rw[hn]at b;cases b),λi c=>?_⟩;obtain rfl:=s i c;have d:wpOp P ops Q i (wpList P ops Q rest) a w:=by unfold wpOp;rw[g];exact h
   refine wpOp_mono (λa' w' h'=>?_) d;refine KN hc rest (i+1) f _ a' w' (by omega) (λj=>by have:=hr (j+1);simpa[iH,zbk 1 j]using this) (by simp at hsz;omega) (λq hq=>?_) (λq hq1 hq2=>?_) (by simpa using h3) (by simp at hf;omega) h'
   .rw[iF];by_cases e:i=q
    .rw[if_pos e,if_pos (by omega)]
    .rw[if_neg e];exact h1 q (by omega)
   .rw[iF,if_neg (by omega)];exact h2 q (by omega) hq2
theorem wpAnyH_then{md:zcj}{ops:Array eS}{S:ze->Prop}{K1 K2:lH->ze->Prop}{Q:Exit->lH->ze->Prop}(hk:∀a w,K1 a w->K2 a w):∀(f:Nat)(l:Array Bool)(a:lH)(w:ze),wpAnyH P md ops (ef K1 Q) S f l a w->wpAnyH P md ops (ef K2 Q) S f l a w
 |0,_,_,_,h=>⟨h.1,hk _ _ h.2⟩
 |f+1,_,_,_,h=>⟨λe=>hk _ _ (h.1 e),λi hi=>Ti (wpOp_mono (λa' w' h'=>⟨h'.1,wpAnyH_then hk f _ a' w' h'.2⟩) (h.2 i hi))⟩
def WC(l:List eS)(n:Nat):Bool:=
 decide (n<=l.length)&&(ev l.length).all λi=>match l[i]?with
  |none=>true
  |some o=>(o.after.toList.all λe=> !zR .any e||decide (e.on<i))&&(if n<=i then(ev i).all λq=>o.after.toList.any λe=>(e.on==q)&&zR .any e else match o.guard with|none=>true|some jb=>decide (jb.1<n))
theorem SR{l:List eS}{n:Nat}(h:WC l n=true):n<=l.length:=by unfold WC at h;rw[zo,decide_eq_true_eq]at h;exact h.1
theorem Jv{l:List eS}{n:Nat}(h:WC l n=true){i:Nat}{o:eS}(ho:l[i]?=some o):(∀e∈o.after,zR .any e=true->e.on<i)/\(n<=i->∀q,q<i->∃e,e∈o.after/\e.on=q/\zR .any e=true)/\(i<n->∀j b,o.guard=some (j,b)->j<n):=by
 unfold WC at h;rw[zo]at h;have g:i<l.length:=(zm.1 ho).1;have a:=iu.1 h.2 i (lD.2 g);rw[ho]at a;simp only[zo]at a;refine⟨λe he hb=>?_,λhn q hq=>?_,λhn j b hg=>?_⟩
 .have:=iu.1 a.1 e (by simpa using he);rw[hb]at this;simpa using this
 .have c:=a.2;rw[if_pos hn]at c;have f:=iu.1 c q (lD.2 hq);obtain⟨e,k,d⟩:=List.any_eq_true.1 f;rw[zo,beq_iff_eq]at d;exact⟨e,by simpa using k,d.1,d.2⟩
 .have c:=a.2;rw[if_neg (by omega),hg]at c;simpa using c
theorem Lt{id:Nat}{Q:Exit->lH->ze->Prop}{a:lH}{w:ze}{l:List eS}(n:Nat)(S:ze->Prop)(hm:P.follows .mixedOrders=true)(hB:WC l n=true)(hS:S w.drew)
  (h:S w.drew->wpAnyH P .any (l.take n).toArray (ef (λa' w'=>wpList P l.toArray Q (l.drop n) a' w') Q) S n (eD n false) a w.drew):(zd8 id l.toArray true).wp P Q a w:=by
 have d:=SR hB;have c:Rw l.toArray n:={
  le:=by simpa using d
  wait:=λi o hi ho q hq=>(Jv hB (by simpa using ho)).2.1 hi q (by omega)
  low:=λi o hi ho e he hb=>(Jv hB (by simpa using ho)).1 e he hb
  guard:=λi o j b hi ho hg=>(Jv hB (by simpa using ho)).2.2 hi j b hg}
 have f:WP l.toArray n:=⟨λi o hi ho q hq=>(Jv hB (by simpa using ho)).2.1 hi q hq,λi o ho e he hb=>(Jv hB (by simpa using ho)).1 e he hb⟩
 refine wp_region_any hm ?_;rw[<-Gj Q];have g:l.toArray.extract 0 n=(l.take n).toArray:=by simp
 refine Ea c n _ (eD l.toArray.size false) (eD n false) a _ ⟨by simp,by simp,λi hi=>?_,λi h1 h2=>?_⟩ (by simp;omega) ?_
 .rw[iE,iE,if_pos (by simp;omega),if_pos hi]
 .rw[iE,if_pos h2]
 .rw[g];refine wpAny_of_held (S:=S) _ _ _ _ ?_;have e:(ef (λa w=>∀f'(l':Array Bool),(∀i,i<n->l'[i]?=some true)->(∀i,n<=i->i<l.toArray.size->l'[i]?=some false)->l'.size=l.toArray.size->l.toArray.size-n<=f'->wpAny P .any l.toArray (ef (Q .normal) Q) f' l' a w) Q)=ef (λa w=>∀f'(l':Array Bool),(∀i,i<n->l'[i]?=some true)->(∀i,n<=i->i<l.toArray.size->l'[i]?=some false)->l'.size=l.toArray.size->l.toArray.size-n<=f'->wpAny P .any l.toArray Q f' l' a w) Q:=by rw[Gj]
  rw[e];refine wpAnyH_then (λa' w' hL f' l' h1 h2 h3 h4=>?_) _ _ _ _ (h hS);exact KN f (l.drop n) n f' l' a' w' (zn _) (λj=>by simp) (by simp;omega) h1 h2 h3 (by simpa using h4) hL
def La(P:Program)(ops:Array eS)(S:ze->Prop)(K:lH->Prop):List eS->lH->Prop
 |[],a=>K a
 |o::l,a=>∃v,YieldsIf P ops S o v a/\La P ops S K l (a.put o.dst v)
def A4(k n:Nat)(l:Array Bool):Array Bool:=match n with
 |0=>l
 |n+1=>A4 (k+1) n (l.setIfInBounds k true)
def M8(ops:Array eS)(k n:Nat)(l:Array Bool):Bool:=match n with
 |0=>true
 |n+1=>Region.free .any ops l k&&(eu .any ops l).contains k&&M8 ops (k+1) n (l.setIfInBounds k true)
theorem Ey{ops:Array eS}{S:ze->Prop}{Q:Exit->lH->ze->Prop}(hs:zc5 ops=true)(hQ:∀(d:Option Tmp)(v:zg) c a w,Q (.panic c) (a.put d v) w->Q (.panic c) a w):∀(rd:List eS)(k f:Nat)(l:Array Bool)(a:lH)(w:ze),(∀j,j<rd.length->rd[j]?=ops[k+j]?)->M8 ops k rd.length l=true->S w->La P ops S (λa'=>wpAnyH P .any ops Q S f (A4 k rd.length l) a' w) rd a->wpAnyH P .any ops Q S (f+rd.length) l a w
 |[],k,f,l,a,w,_,_,_,h=>h
 |o::rd,k,f,l,a,w,hr,hB,hS,h=>by
  obtain⟨v,hy,h⟩:=h;have h0:ops[k]?=some o:=by simpa using(hr 0 (by simp)).symm
  simp only[List.length_cons,M8,zo]at hB;refine wpAnyH_take h0 hs hB.1.1 hB.1.2 (λc a w=>hQ _ _ c a w) hy hS ?_;exact Ey hs hQ rd (k+1) f _ _ w (λj hj=>by have:=hr (j+1) (by simp;omega);simpa[iH,zbk 1 j]using this) hB.2 hS h
theorem wp_region_cut_reads{id:Nat}{Q:Exit->lH->ze->Prop}{a:lH}{w:ze}{l:List eS}(n m:Nat)(S:ze->Prop)(hm:P.follows .mixedOrders=true)(hB:(WC l n&&decide (m<=n)&&zc5 (l.take n).toArray&&M8 (l.take n).toArray 0 m (eD n false))=true)(hQ:∀(d:Tmp)(v:zg) c a w,Q (.panic c) (a.put (some d) v) w->Q (.panic c) a w)(hS:S w.drew)(h:S w.drew->La P (l.take n).toArray S (λa'=>wpAnyH P .any (l.take n).toArray (ef (λa' w'=>wpList P l.toArray Q (l.drop n) a' w') Q) S (n-m) (A4 0 m (eD n false)) a' w.drew) (l.take m) a):(zd8 id l.toArray true).wp P Q a w:=by
 simp only[zo,decide_eq_true_eq]at hB;obtain⟨⟨⟨f,k⟩,o⟩,i⟩:=hB;have g:=SR f;refine Lt n S hm f hS λhS'=>?_;have b:(l.take m).length=m:=by simp;omega
 have:=Ey (P:=P) (ops:=(l.take n).toArray) (S:=S) (Q:=ef (λa' w'=>wpList P l.toArray Q (l.drop n) a' w') Q) o (λd v c a w hq=>by
  cases d with
  |none=>exact hq
  |some d=>exact hQ d v c a w hq) (l.take m) 0 (n-m) (eD n false) a w.drew (λj hj=>by
  rw[b]at hj;simp;rw[lh (by omega),lh (by omega)]) (by rw[b];exact i) hS' (by rw[b];exact h hS')
 rw[b,Nat.sub_add_cancel k]at this;exact this
theorem wp_via{c:Code}{a:lH}{w:ze}{Q:Exit->lH->ze->Prop}(R:lH->ze->Prop)(h1:c.wp P (λe a' w'=>e=.normal/\R a' w') a w)(h2:∀a' w',R a' w'->Q .normal a' w'):c.wp P Q a w:=Code.wp_mono (λe a w h=>by obtain⟨rfl,h⟩:=h;exact h2 _ _ h) h1
end
end Go.Cut
namespace Go.Proofs
open Go.RowKit Go.Maps Go.MapKept
open Classical
def yIO(B D O:Ver):Prop:=∀x,FB B D x=true->O x=none\/∃y,B x=some y/\O x=some y/\y.kids.length<=1000000
theorem R8(b d o pm M pi nb nd no N:Nat)(B D O:Ver)(now rest:zg)(side id:Int)(q7 q8:zg)(w:ze)(hB:yV w b nb B)(hD:yV w d nd D)(hO:yV w o no O)(hT:Eg B N)(hN:N<=1000)(hS:yIO B D O)(hm:w.cell? ⟨pm,0,none⟩=some (.pointer (some ⟨M,0,none⟩)))(hM:w.cell? ⟨M,0,none⟩=some (.map (some b)))(hi:w.cell? ⟨pi,0,none⟩=some (.int .i64 id))(hf:yw id):zM Tryz.prog 64 #[.map (some d),.map (some o),now,rest,.int .i64 side,.pointer (some ⟨pm,0,none⟩),.pointer (some ⟨pi,0,none⟩),q7,q8] w λe w'=>e=.returned (.tuple #[])/\Below w.heap.size w w':=by
 have s:eW (zM Tryz.prog 65 #[.map (some b),.map (some d),.int .i64 id] w.drew λe w'=>∃u L,e=.returned u/\yj w' w.heap.size u L/\(∀x∈L,FB B D x=true)/\L.length<=N/\Below w.heap.size w w'):=za (by have k:Below w.heap.size w w.drew:=(zt _ _).drew;refine(J6 b d nb nd N B D id w.drew (hB.below k) (hD.below k) hT hN hf).mono ?_;rintro e w' ⟨u,L,q,J,t,H,P⟩;exact⟨u,L,q,J,t,H,k.trans P⟩);have C:=za hB;have G:=za hO;have m:∀a,w.drew.cell? a=w.cell? a:=λ_=>rfl;clear hB hD hO;go_enter Tryz.func64,Tryz.ntmps64;go_wp2;go_still_tail 6,(by kernel_rfl)
 go_wp2_with fail;refine s.out.mono ?_;rintro e I ⟨u,L,rfl,g,c,n,f⟩;obtain⟨v,E,rfl⟩:=yq g;by_cases r:L.length=0
 .have z:((L.length:Int)==0)=true:=by simp[r]
  go_wp2;exact eG (results_none rfl _ _ _) rfl ⟨rfl,f⟩
 .have z:((L.length:Int)==0)=false:=by rw[beq_eq_false_iff_ne];omega
  have j:=la w _ hm;have h:=la w _ hM;have Q:=(f.cell (p:=⟨pm,0,none⟩) j).trans hm;have R:=(f.cell (p:=⟨M,0,none⟩) h).trans hM;have A:=za (IU b o nb no B O (.slice v L.length E) L I (C.out.below f) (G.out.below f) g.ints (by omega) (λx hx=>by obtain⟨y,F,_⟩:=Gl (c x hx);have:=hT x y F;exact Bg (by omega) (by omega)) (λx hx=>hS x (c x hx)));have i:=za f;clear g c f hm hM hi;go_wp2_with fail;refine A.out.mono ?_;rintro e S ⟨rfl,l⟩;go_wp2;exact eG (results_none rfl _ _ _) rfl ⟨rfl,i.out.trans (l.mono i.out.size)⟩
@[reducible]def BV (b l r s0 s1:Nat) (cnt:Int) (pk kv tv pv:zg):Array zg:=#[.map (some b),.map (some l),.map (some r),.map (some s0),.map (some s1),.int .i64 cnt,pk,.slice none 0 0,kv,tv,pv]
theorem yY{w:ze}{M:Nat}{x0 x1 x2 x3 x4 x5 x6 x7 x8 x9 x10:zg}{t:TypeId}{fz:Nat×Nat}(h:w.heap[M]?=some (.cells #[x0,x1,x2,x3,x4,x5,x6,x7,x8,x9,x10] t fz)):w.cell? ⟨M,0,none⟩=some x0/\w.cell? ⟨M,1,none⟩=some x1/\w.cell? ⟨M,2,none⟩=some x2/\w.cell? ⟨M,3,none⟩=some x3/\w.cell? ⟨M,4,none⟩=some x4/\w.cell? ⟨M,5,none⟩=some x5/\w.cell? ⟨M,6,none⟩=some x6/\w.cell? ⟨M,7,none⟩=some x7/\w.cell? ⟨M,8,none⟩=some x8/\w.cell? ⟨M,9,none⟩=some x9/\w.cell? ⟨M,10,none⟩=some x10:=by refine⟨?_,?_,?_,?_,?_,?_,?_,?_,?_,?_,?_⟩<;>(simp only[zS,h];rfl)
theorem JJ (M b l r s0 s1 nb nl nr n0 n1 N cnt : Nat) (B L R : Ver) (pk kv tv pv : zg) (w : ze) (hM : w.heap[M]? = some (.cells (BV b l r s0 s1 cnt pk kv tv pv) 69 (0, 0))) (hB : yV w b nb B) (hL : yV w l nl L) (hR : yV w r nr R) (h0 : yV w s0 n0 L) (h1 : yV w s1 n1 R)
    (hT : Eg B N) (hN : N ≤ 1000) (hc : cnt ≤ 1000000) (hS1 : yIO B R L) (hS2 : yIO B L R) :
    zM Tryz.prog 40 #[.pointer (some ⟨M, 0, none⟩)] w fun e w' => e = .returned (.tuple #[]) ∧ Below w.heap.size w w' := by
  obtain ⟨g, m⟩ : ∃ g, g = w.alloc (.cells #[.pointer (some ⟨M, 0, none⟩)] 60) := ⟨_, rfl⟩
  have ar := yz hM
  have C : Below w.heap.size w g := by rw [m]; exact ya _
  have P : g.heap[w.heap.size]? = some (.cells #[.pointer (some ⟨M, 0, none⟩)] 60 (0, 0)) := by rw [m]; exact zx _ _
  have J : g.heap.size = w.heap.size + 1 := by rw [m]; simp
  have T := (C.block M ar).trans hM
  obtain ⟨y0, y1, y2, y3, y4, y5, y6, y7, y8, y9, al⟩ := yY T
  have x0 : g.cell? ⟨w.heap.size, 0, none⟩ = some (.pointer (some ⟨M, 0, none⟩)) := by simp only [zS, P]; rfl
  have av := zdJ g _ x0
  have am := zdJ g _ y3
  go_enter Tryz.func40, Tryz.ntmps40
  go_wp2
  rw [← m]
  clear m hM P T
  go_region_held3 (fun w' => w'.cell? ⟨w.heap.size, 0, none⟩ = some (.pointer (some ⟨M, 0, none⟩)) ∧ w'.cell? ⟨M, 3, none⟩ = some (.map (some s0)) ∧ w'.cell? ⟨M, 4, none⟩ = some (.map (some s1))) (go_keep) (fail)
  all_goals
    first
    | (obtain ⟨v, t, n, TS⟩ := GD g (.cells #[.map (some s0)] 62) (.cells #[.map (some s1)] 62)
       obtain ⟨W, hW⟩ : ∃ W, W = ((g.alloc (.cells #[.map (some s0)] 62)).alloc (.cells #[.map (some s1)] 62)).drew := ⟨_, rfl⟩
       rw [← hW] at v t n TS ⊢
       rw [J] at v t
       obtain ⟨p2, y⟩ : ∃ p, p = w.heap.size + 1 := ⟨_, rfl⟩
       obtain ⟨p3, s⟩ : ∃ p, p = w.heap.size + 1 + 1 := ⟨_, rfl⟩
       rw [← s] at t ⊢
       rw [← y] at v ⊢)
    | (obtain ⟨t, v, n, TS⟩ := GD g (.cells #[.map (some s1)] 62) (.cells #[.map (some s0)] 62)
       obtain ⟨W, hW⟩ : ∃ W, W = ((g.alloc (.cells #[.map (some s1)] 62)).alloc (.cells #[.map (some s0)] 62)).drew := ⟨_, rfl⟩
       rw [← hW] at v t n TS ⊢
       rw [J] at v t
       obtain ⟨p3, s⟩ : ∃ p, p = w.heap.size + 1 := ⟨_, rfl⟩
       obtain ⟨p2, y⟩ : ∃ p, p = w.heap.size + 1 + 1 := ⟨_, rfl⟩
       rw [← y] at v ⊢
       rw [← s] at t ⊢)
    dsimp only [ef]
    have c : eW (Below w.heap.size w W) := za (C.trans (n.mono C.size))
    have c2 : W.cell? ⟨p2, 0, none⟩ = some (.map (some s0)) := by simp only [zS, v]; rfl
    have c3 : W.cell? ⟨p3, 0, none⟩ = some (.map (some s1)) := by simp only [zS, t]; rfl
    have l2 := la W _ c2
    have l3 := la W _ c3
    have lM : M < g.heap.size := by omega
    have l1 : w.heap.size < g.heap.size := by omega
    have x : eW (W.cell? ⟨w.heap.size, 0, none⟩ = some (.pointer (some ⟨M, 0, none⟩))) := za ((n.cell (p := ⟨w.heap.size, 0, none⟩) l1).trans x0)
    have ak : eW (W.cell? ⟨M, 0, none⟩ = some (.map (some b))) := za ((n.cell (p := ⟨M, 0, none⟩) lM).trans y0)
    have ac : eW (W.cell? ⟨M, 1, none⟩ = some (.map (some l))) := za ((n.cell (p := ⟨M, 1, none⟩) lM).trans y1)
    have I : eW (W.cell? ⟨M, 2, none⟩ = some (.map (some r))) := za ((n.cell (p := ⟨M, 2, none⟩) lM).trans y2)
    have aw := (n.cell (p := ⟨M, 5, none⟩) lM).trans y5
    have ai := x.out
    have h : M < W.heap.size := by omega
    have E : w.heap.size < W.heap.size := by omega
    have G : eW (∀ (d o nd no : Nat) (D O : Ver) (now rest : zg) (side id : Int) (pi : Nat) (q7 q8 : zg) (X : ze), yV w d nd D → yV w o no O → yIO B D O → yw id → Below W.heap.size W X → X.cell? ⟨pi, 0, none⟩ = some (.int .i64 id) → zM Tryz.prog 64 #[.map (some d), .map (some o), now, rest, .int .i64 side, .pointer (some ⟨w.heap.size, 0, none⟩), .pointer (some ⟨pi, 0, none⟩), q7, q8] X fun e w' => e = .returned (.tuple #[]) ∧ Below X.heap.size X w') := za fun d o nd no D O now rest side id pi q7 q8 X hD hO hS hf q hi =>
      R8 b d o _ M pi nb nd no N B D O now rest side id q7 q8 X (hB.below (c.out.trans (q.mono c.out.size))) (hD.below (c.out.trans (q.mono c.out.size))) (hO.below (c.out.trans (q.mono c.out.size))) hT hN hS ((q.cell (p := ⟨w.heap.size, 0, none⟩) E).trans x.out) ((q.cell (p := ⟨M, 0, none⟩) h).trans ak.out) hi hf
    have aa := za c2
    have V := za c3
    clear hW n v t y0 y1 y2 y3 y4 y5 y6 y7 y8 y9 al x0 c2 c3 av am y s
    go_wp2
    clear aw ai
    go_loopw [20] (fun iv X => ∃ i : Nat, i ≤ cnt ∧ iv = .int .i64 i ∧ Below W.heap.size W X) (fun iv _ => cnt - (intOf iv).toNat)
    case atStart => exact ⟨0, by omega, rfl, zt _ _⟩
    case round =>
      obtain ⟨i, hi, rfl, F⟩ := hrel
      have ab := za F
      have ad := F.size
      clear F
      by_cases be : i < cnt
      · obtain ⟨X, q⟩ : ∃ X, X = wr.alloc (.cells #[.int .i64 (i : Int)] 3) := ⟨_, rfl⟩
        have Z : Below wr.heap.size wr X := by rw [q]; exact ya _
        have A : X.cell? ⟨wr.heap.size, 0, none⟩ = some (.int .i64 (i : Int)) := by
          have : X.heap[wr.heap.size]? = some (.cells #[.int .i64 (i : Int)] 3 (0, 0)) := by rw [q]; exact zx _ _
          simp only [zS, this]
          rfl
        have f : Below W.heap.size W X := ab.out.trans (Z.mono ad)
        have U : yw (i : Int) := Bg (by omega) (by omega)
        have aj := za (G.out s1 s0 n1 n0 R L (.map (some r)) (.map (some l)) 2 i wr.heap.size)
        have ah := za (G.out s0 s1 n0 n1 L R (.map (some l)) (.map (some r)) 1 i wr.heap.size)
        have H := za A
        have z := za f
        have a1 := (f.cell (p := ⟨w.heap.size, 0, none⟩) E).trans x.out
        have a2 := (f.cell l2).trans aa.out
        have a3 := (f.cell l3).trans V.out
        have a4 := (f.cell (p := ⟨M, 1, none⟩) h).trans ac.out
        have a5 := (f.cell (p := ⟨M, 2, none⟩) h).trans I.out
        have S := la X _ A
        clear f Z A
        go_wp2
        rw [← q]
        clear q
        go_still_tail 11, (by kernel_rfl)
        go_wp2_with fail
        refine (aj.out _ _ X.drew h1 h0 hS1 U z.out.drew H.out).mono ?_
        rintro e w5 ⟨rfl, Y⟩
        have j : Below X.heap.size X w5 := ((zt _ _).drew).trans Y
        have a : Below W.heap.size W w5 := z.out.trans (j.mono z.out.size)
        have k := za a
        have Q := za ((j.cell (p := ⟨wr.heap.size, 0, none⟩) S).trans H.out)
        replace a1 := (a.cell (p := ⟨w.heap.size, 0, none⟩) E).trans x.out
        replace a2 := (a.cell l2).trans aa.out
        replace a3 := (a.cell l3).trans V.out
        replace a4 := (a.cell (p := ⟨M, 1, none⟩) h).trans ac.out
        replace a5 := (a.cell (p := ⟨M, 2, none⟩) h).trans I.out
        clear Y j a S
        go_wp2
        go_still_tail 11, (by kernel_rfl)
        go_wp2_with fail
        refine (ah.out _ _ w5.drew h0 h1 hS2 U k.out.drew Q.out).mono ?_
        rintro e w6 ⟨rfl, aq⟩
        go_wp2
        go_roundw
        case rel => exact ⟨i + 1, by omega, by go_num, k.out.trans ((((zt _ _).drew).trans aq).mono k.out.size)⟩
        case measure => simp [intOf]; omega
      · obtain rfl : i = cnt := by omega
        go_wp2
        go_end0
        exact ⟨rfl, c.out.trans (ab.out.mono c.out.size)⟩
open Go.RowKit Go.Sort Go.Maps Go.MapKept
theorem Bv.look_true{w:ze}{b n:Nat}{S:Int->Prop}(h:Bv w b n S){i:Int}(hi:yw i)(hS:S i):(ec 65 (.map (some b)) (.int .i64 i) false).run Tryz.prog w=.ok (.bool true) w:=by rw[h.look i hi];simp[hS]
theorem Bv.look_false{w:ze}{b n:Nat}{S:Int->Prop}(h:Bv w b n S){i:Int}(hi:yw i)(hS:¬S i):(ec 65 (.map (some b)) (.int .i64 i) false).run Tryz.prog w=.ok (.bool false) w:=by rw[h.look i hi];simp[hS]
noncomputable abbrev Fg(l:List Int):List Int:=l.mergeSort λx y=>decide (x<=y)
theorem Fx(base:Nat)(v:zg)(l:List Int)(w:ze)(h:yj w base v l)(hlen:l.length<=100000):zM Tryz.prog 145 #[v] w λe w'=>e=.returned (.tuple #[])/\yj w' base v (Fg l)/\w.grownBy w' v.ownBlock:=by
 have c:(Fg l).length=l.length:=zaA ..;rcases h.2 with⟨rfl,r⟩|⟨g,f,o,rfl,a,i,j,m,q,k⟩
 .have b:l=[]:=List.length_eq_zero_iff.1 r;subst b;refine(Tryz.sort_Ints_none none 0 w).mono ?_;rintro e w' ⟨rfl,rfl⟩;exact⟨rfl,by simp[Fg];exact ed _ _ _ _,yM (zt _ _)⟩
 .have d:=holds_of_blockI (ss:=l) i (by simpa using k);refine(Tryz.sort_Ints g 0 f l w d ((eh.1 i).1) (by omega)).mono ?_;rintro e w' ⟨rfl,n,os,rfl⟩;have p:=ownsRow_sortedI (w:=w) (n:=n) (os:=os) (ss:=l) (ts:=Fg l) c a i j m q;refine⟨rfl,?_,grownBy_sortedI _⟩;unfold yj;rw[c];exact p
theorem MM(w:ze)(K o dLen dCap:Nat)(cur:List Int)(d:Option Addr)(a:Option Addr)(c:Nat)(l:List Int)(hK:w.heap[K]?=some (.cells (cur.map (zX .i64)).toArray 3 (0,0)))(hd:d=some ⟨K,o,none⟩\/l.length=0)(hfit:o+l.length<=cur.length)(hl:yo w (.slice a l.length c) l)(hdl:l.length<=dLen):∃w',(∀ty,(zah #[55,55] ty #[.slice d dLen dCap,.slice a l.length c]).run Tryz.prog w=.ok (goInt l.length) w')/\w'.heap[K]?=some (.cells ((cur.take o++l++cur.drop (o+l.length)).map (zX .i64)).toArray 3 (0,0))/\w.grownBy w' (some K)/\w'.heap.size=w.heap.size:=by
 have p:(Tryz.prog.info? 3).map (·.size)=some 1:=by obtain⟨z,q,_,j,_⟩:=iY Br;rw[q];simp[j]
 have f:Nat.min l.length dLen=l.length:=Nat.min_eq_left hdl;by_cases n:l.length=0
 .have g:l=[]:=List.eq_nil_of_length_eq_zero n;subst g;refine⟨w,λty=>run_copy_none w _ _ ty 3 d a dLen dCap 0 c Tryz.underlying55 p (by simp[Nat.min]),?_,⟨rfl,rfl,rfl,zn _,λ_ _ _=>rfl⟩,rfl⟩;simpa using hK
 .obtain rfl:d=some ⟨K,o,none⟩:=hd.resolve_right n;rcases hl with⟨_,rfl⟩|⟨b,m,r,e,_,t,y⟩
  .exact absurd rfl n
  .cases e;refine⟨_,λty=>?_,setRow_heap w K _ ((cur.take o++l++cur.drop (o+l.length)).map (zX .i64)).toArray _ _ hK,⟨rfl,rfl,rfl,by simp[World.setRow],λk hk hne=>setRow_other w K k _ (λe=>hne (by rw[e]))⟩,by simp⟩;have h:=run_copy_row (P:=Tryz.prog) w 55 55 ty 3 K o dLen dCap ⟨b,m,none⟩ l.length c (cur.map (zX .i64)).toArray 3 (l.map (zX .i64)) Tryz.underlying55 p hK (by rw[l8,f]) (EG λi x hx=>y i x hx) (by simpa using hfit) (λv hv=>by obtain⟨s,_,rfl⟩:=List.mem_map.1 hv;rfl);rw[l8]at h;refine h.trans ?_;have e:(cur.map (zX .i64)).toArray.toList.take o++l.map (zX .i64)++(cur.map (zX .i64)).toArray.toList.drop (o+l.length)=(cur.take o++l++cur.drop (o+l.length)).map (zX .i64):=by simp[List.map_take,List.map_drop]
   rw[e]
theorem DR(n:Nat):((ia n (0:Int)).map (zX .i64)).toArray=madeCells #[zX .i64 0] n:=by apply Array.ext';rw[toList_madeCells_one,List.map_replicate]
theorem Kw{b l r:List Int}{j:Nat}{x:Int}(h:(Ai (l++r))[j]?=some x):((Ai (l++r)).take (j+1)).filter (λx=>decide (x∉b))=((Ai (l++r)).take j).filter (λx=>decide (x∉b))++(if x∈b then[]else[x]):=by
 rw[z6,h,oO];congr 1;by_cases e:x∈b
 .simp[e]
 .simp[e]
theorem QP{b l r:List Int}{j:Nat}{x:Int}(h:(Ai b)[j]?=some x):((Ai b).take (j+1)).filter (λx=>decide (x∈l/\x∈r))=((Ai b).take j).filter (λx=>decide (x∈l/\x∈r))++(if x∈l/\x∈r then[x]else[]):=by
 rw[z6,h,oO];congr 1;by_cases e:x∈l/\x∈r
 .simp[e]
 .rw[if_neg e];simp only[Option.toList_some,List.filter_cons,List.filter_nil];rw[if_neg (by simpa using e)]
theorem Kt (vb vl vr : zg) (b l r : List Int) (w : ze) (hb : yo w vb b) (hl : yo w vl l) (hr : yo w vr r) (nb : b.length ≤ 1000) (nl : l.length ≤ 1000) (nr : r.length ≤ 1000) (fb : ∀ x ∈ b, yw x) (fl : ∀ x ∈ l, yw x) (fr : ∀ x ∈ r, yw x) :
    zM Tryz.prog 113 #[vb, vl, vr] w fun e w' => ∃ u, e = .returned u ∧ yj w' w.heap.size u (AP b l r) ∧ Below w.heap.size w w' := by
  obtain ⟨is, hi, ay, ag, am⟩ := iY Br
  have ca : eW (∀ W, Below w.heap.size w W → zM Tryz.prog 138 #[vb] W fun e w' => e = .returned (.map (some W.heap.size)) ∧ Bv w' W.heap.size b.length (fun i => i ∈ b) ∧ Below W.heap.size W w') := za fun W h => CL vb b W (hb.below h) (by omega) fb
  have b5 : eW (∀ W, Below w.heap.size w W → zM Tryz.prog 138 #[vl] W fun e w' => e = .returned (.map (some W.heap.size)) ∧ Bv w' W.heap.size l.length (fun i => i ∈ l) ∧ Below W.heap.size W w') := za fun W h => CL vl l W (hl.below h) (by omega) fl
  have ce : eW (∀ W, Below w.heap.size w W → zM Tryz.prog 138 #[vr] W fun e w' => e = .returned (.map (some W.heap.size)) ∧ Bv w' W.heap.size r.length (fun i => i ∈ r) ∧ Below W.heap.size W w') := za fun W h => CL vr r W (hr.below h) (by omega) fr
  have b0 : eW (∀ W, Below w.heap.size w W → zM Tryz.prog 141 #[vb] W fun e w' => ∃ u, e = .returned u ∧ yj w' W.heap.size u (Ai b) ∧ Below W.heap.size W w') := za fun W h => E2 vb b W (hb.below h) (by omega) fb
  have HL := za hl
  have HR := za hr
  obtain ⟨pb, cb, rfl⟩ := hb.slice
  obtain ⟨pl, cl, rfl⟩ := hl.slice
  obtain ⟨pr, cr, rfl⟩ := hr.slice
  clear hb hl hr
  go_enter Tryz.func113, Tryz.ntmps113
  go_wp2_with fail
  refine (ca.out w (zt _ _)).mono ?_
  rintro e w1 ⟨rfl, ap, au⟩
  go_wp2_with fail
  refine (b5.out w1 au).mono ?_
  rintro e w2 ⟨rfl, a5, ak⟩
  have O := au.trans (ak.mono au.size)
  go_wp2_with fail
  refine (ce.out w2 O).mono ?_
  rintro e w3 ⟨rfl, bl, ab⟩
  have M := O.trans (ab.mono O.size)
  go_wp2_with fail
  refine (b0.out w3 M).mono ?_
  rintro e t ⟨uo, rfl, bk, a0⟩
  have ah := M.trans (a0.mono M.size)
  obtain ⟨po, co, rfl⟩ := yq bk
  have S := ah.size
  have cp := O.size
  have cu := M.size
  have cz := au.size
  have b3 : Bv t w.heap.size b.length (fun i => i ∈ b) := Ae.below (Ae.below (Ae.below ap ak (by have := ap.lt; omega)) ab (by have := ak.size; have := ap.lt; omega)) a0 (by have := ak.size; have := ab.size; have := ap.lt; omega)
  have cd : Bv t w1.heap.size l.length (fun i => i ∈ l) := Ae.below (Ae.below a5 ab (by have := a5.lt; omega)) a0 (by have := ab.size; have := a5.lt; omega)
  have cf : Bv t w2.heap.size r.length (fun i => i ∈ r) := Ae.below bl a0 (by have := bl.lt; omega)
  have bn := za b3
  have L := za cd
  have cc := za cf
  have cx := za bk
  have bc := za ah
  have di := Aw b
  have c1 : eW (∀ x ∈ Ai b, yw x) := za fun x p => fb x ((CN b x).1 p)
  clear ap a5 bl b3 cd cf au ak ab a0 O M ah bk ca b5 ce b0 cz cp cu
  go_wp2
  go_loopw [10, 13, 26] (fun u _ iv W => ∃ j : Nat, j ≤ (Ai b).length ∧ yj W t.heap.size u (((Ai b).take j).filter fun x => decide (x ∈ l ∧ x ∈ r)) ∧ Below t.heap.size t W ∧ iv = .int .i64 j) (fun _ _ iv _ => (Ai b).length - (intOf iv).toNat)
  case atStart => exact ⟨0, by omega, ed _ _ _ _, zt _ _, rfl⟩
  case round =>
    obtain ⟨j, hj, s, f, rfl⟩ := hrel
    have a := za s
    have HB := za f
    have a1 : Bv wr w1.heap.size l.length (fun i => i ∈ l) := Ae.below L.out f L.out.lt
    have ai : Bv wr w2.heap.size r.length (fun i => i ∈ r) := Ae.below cc.out f cc.out.lt
    have z := yj.ints (base := w3.heap.size) (yy cx.out f)
    clear s f
    by_cases aq : j < (Ai b).length
    · obtain ⟨x, p⟩ : ∃ x, (Ai b)[j]? = some x := ⟨(Ai b)[j], zc aq⟩
      obtain ⟨bo, oo, rfl, _, c0⟩ := z.at p
      have v := c1.out x (zq p)
      have an := za a1
      have bb := za ai
      have V := za (QP (l := l) (r := r) p)
      have b1 : (((Ai b).take j).filter fun x => decide (x ∈ l ∧ x ∈ r)).length ≤ 1000 := by
        have h1 := eL (fun x => decide (x ∈ l ∧ x ∈ r)) ((Ai b).take j)
        rw [iR] at h1
        omega
      clear p z a1 ai
      generalize ((Ai b).take j).filter (fun x => decide (x ∈ l ∧ x ∈ r)) = A at *
      by_cases e : x ∈ l ∧ x ∈ r
      · have ae := an.out.look_true v e.1
        have cj := bb.out.look_true v e.2
        rw [if_pos e] at V
        clear e
        go_wp2_with (at_builtin; refine ew _ rfl _ _ 55 rfl t.heap.size 3 is (.int .i64 0) 1 8 Tryz.underlying55 hi ay ag am rfl (by decide) _ A.length (A.map (zX .i64)) rfl (zy a.out _) ⟨wr.heap.size, 0, none⟩ 1 1 [.int .i64 x] rfl rfl (AR _ _ _) (by simp [ej]) (by simp [maxLen]; omega) (by omega) (zI HB.out.size (ya _).size) ?_; intro v' ac m c H)
        go_roundw
        case rel =>
          refine ⟨j + 1, by omega, ?_, yd (HB.out.trans ((ya _).mono HB.out.size)) c (fun q e => yf a.out q e) (zI HB.out.size (ya _).size), by go_num⟩
          rw [V.out]
          unfold yj
          rw [zT, ip]
          exact m
        case measure => simp [intOf]; omega
      · rw [if_neg e, iW] at V
        by_cases e1 : x ∈ l
        · have ae := an.out.look_true v e1
          have cj := bb.out.look_false v (fun h => e ⟨e1, h⟩)
          clear e e1
          go_wp2
          go_roundw
          case rel => exact ⟨j + 1, by omega, by rw [V.out]; exact a.out, HB.out, by go_num⟩
          case measure => simp [intOf]; omega
        · have ae := an.out.look_false v e1
          clear e e1
          go_wp2
          go_roundw
          case rel => exact ⟨j + 1, by omega, by rw [V.out]; exact a.out, HB.out, by go_num⟩
          case measure => simp [intOf]; omega
    · obtain rfl : j = (Ai b).length := by omega
      rw [zY] at a
      have HA : eW (yj wr t.heap.size u10 (B7 b l r)) := a
      clear a z a1 ai
      have hB := HB.out
      have hmk := JB wr (l.length + r.length) (by omega)
      rw [Int.natCast_add] at hmk
      have cy : IntKind.i64.wrap ((l.length : Int) + (r.length : Int)) = (l.length : Int) + (r.length : Int) := by rw [IntKind.wrap_i64]; omega
      obtain ⟨w5, a6⟩ : ∃ w5, w5 = wr.alloc (.cells (madeCells #[.int .i64 0] (l.length + r.length)) 3) := ⟨_, rfl⟩
      have b2 : w5.heap[wr.heap.size]? = some (.cells ((ia (l.length + r.length) (0 : Int)).map (zX .i64)).toArray 3 (0, 0)) := by
        rw [a6, zx, DR]
      have aj : Below wr.heap.size wr w5 := by rw [a6]; exact ya _
      rw [← a6] at hmk
      have Y : Below w.heap.size w w5 := (bc.out.trans (hB.mono S)).trans (aj.mono (zI S hB.size))
      obtain ⟨w6, bg, b4, br, cm⟩ := MM w5 wr.heap.size 0 (l.length + r.length) (l.length + r.length) _ (some ⟨wr.heap.size, 0, none⟩) pl cl l b2 (.inl rfl) (by simp) (HL.out.below Y) (by omega)
      have a8 : Below w.heap.size w w6 := yd Y br (fun k e => by cases e; exact zI S hB.size) Y.size
      have ba : w6.heap[wr.heap.size]? = some (.cells ((l ++ ia r.length (0 : Int)).map (zX .i64)).toArray 3 (0, 0)) := by
        rw [b4]
        congr 5
        simp
      have bd : ∀ d, (d = some ⟨wr.heap.size, l.length, none⟩ ∨ r.length = 0) → ∃ w', (∀ ty, (zah #[55, 55] ty #[.slice d r.length r.length, .slice pr r.length cr]).run Tryz.prog w6 = .ok (goInt r.length) w') ∧ w'.heap[wr.heap.size]? = some (.cells ((l ++ r).map (zX .i64)).toArray 3 (0, 0)) ∧ w6.grownBy w' (some wr.heap.size) ∧ w'.heap.size = w6.heap.size := by
        intro d hd
        obtain ⟨w', h1, h2, h3, h4⟩ := MM w6 wr.heap.size l.length r.length r.length _ d pr cr r ba hd (by simp) (HR.out.below a8) (zn _)
        refine ⟨w', h1, ?_, h3, h4⟩
        have e : (l ++ ia r.length (0 : Int)).take l.length ++ r ++ (l ++ ia r.length (0 : Int)).drop (l.length + r.length) = l ++ r := by
          rw [List.drop_of_length_le (by simp)]
          simp
        rw [h2, e]
      obtain ⟨d2, b6, a4⟩ : ∃ d2 : Option Addr, (d2 = some ⟨wr.heap.size, l.length, none⟩ ∨ r.length = 0) ∧ (if r.length = 0 then some ⟨wr.heap.size, 0, none⟩ else some ⟨wr.heap.size, l.length, none⟩) = d2 := by
        by_cases h : r.length = 0
        · exact ⟨_, .inr h, rfl⟩
        · exact ⟨_, .inl (if_neg h), rfl⟩
      obtain ⟨w7, bj, bv, b7, cq⟩ := bd d2 b6
      have a9 : Below wr.heap.size wr w7 := yd (yd aj br (fun k e => by cases e; exact zn _) aj.size) b7 (fun k e => by cases e; exact zn _) (by have := aj.size; omega)
      have c4 := za bv
      have av := za a9
      have a3 : eW (l.length + r.length = (l ++ r).length) := za (by simp)
      have c3 : eW (wr.heap.size < w7.heap.size) := za (eh.1 bv).1
      clear b2 b4 ba br b7 Y a8 a9 aj bd b6 bv a6 cm cq
      have be : eW (∀ x ∈ l ++ r, yw x) := za fun x p => (List.mem_append.1 p).elim (fl x) (fr x)
      have c2 : eW (yo w7 (.slice (some ⟨wr.heap.size, 0, none⟩) (l.length + r.length) (l.length + r.length)) (l ++ r)) := za (by
        refine .inr ⟨wr.heap.size, 0, l.length + r.length, by rw [a3.out], by rw [a3.out]; exact zn _, c3.out, fun i x p => ?_⟩
        have e : ((l ++ r).map (zX .i64))[i]? = some (.int .i64 x) := by rw [ig, p]; rfl
        simp only [zS, c4.out]
        simpa using e)
      have bm : eW (zM Tryz.prog 141 #[.slice (some ⟨wr.heap.size, 0, none⟩) (l.length + r.length) (l.length + r.length)] w7 fun e w' => ∃ u, e = .returned u ∧ yj w' w7.heap.size u (Ai (l ++ r)) ∧ Below w7.heap.size w7 w') := za (E2 _ (l ++ r) w7 c2.out (by rw [← a3.out]; omega) be.out)
      have Z : eW (Bv w7 w.heap.size b.length (fun i => i ∈ b)) := za (Ae.below (Ae.below bn.out hB bn.out.lt) av.out (by have := bn.out.lt; have := hB.size; omega))
      have b9 : eW (yj w7 t.heap.size u10 (B7 b l r)) := za (yy HA.out av.out)
      have aa : eW (Below w.heap.size w w7) := za ((bc.out.trans (hB.mono S)).trans (av.out.mono (zI S hB.size)))
      have ck := Aw (l ++ r)
      rw [← a3.out] at ck
      have bf : eW (∀ x ∈ Ai (l ++ r), yw x) := za fun x p => be.out x ((CN _ x).1 p)
      by_cases Q : r.length = 0
      · rw [if_pos Q] at a4
        subst a4
        simp only [Q, Int.natCast_zero, Int.add_zero, Nat.add_zero] at hmk cy bg bj bm
        go_wp2_with fail
        refine bm.out.mono ?_
        have dh := za Q
        clear Q
        rintro e E ⟨u8, rfl, U, y⟩
        obtain ⟨p8, c8, rfl⟩ := yq U
        have bi := za U
        have J : eW (Bv E w.heap.size b.length (fun i => i ∈ b)) := za (Ae.below Z.out y Z.out.lt)
        have az : eW (yj E t.heap.size u10 (B7 b l r)) := za (yy b9.out y)
        have af : eW (t.heap.size ≤ E.heap.size) := za (zI hB.size (zI av.out.size y.size))
        have o : eW (Below w.heap.size w E) := za (aa.out.trans (y.mono aa.out.size))
        clear U y bg bj hmk
        generalize aw : Ai (l ++ r) = OO at *
        have R := za aw
        clear aw
        go_wp2
        go_loopw [11, 16, 61] (fun u _ iv W => ∃ j : Nat, j ≤ OO.length ∧ yj W E.heap.size u ((OO.take j).filter fun x => decide (x ∉ b)) ∧ Below E.heap.size E W ∧ iv = .int .i64 j) (fun _ _ iv _ => OO.length - (intOf iv).toNat)
        case atStart => exact ⟨0, by omega, ed _ _ _ _, zt _ _, rfl⟩
        case round =>
          obtain ⟨j, hj, s, f, rfl⟩ := hrel
          have a := za s
          have n := za f
          have N := za (show Bv wr w.heap.size b.length (fun i => i ∈ b) from Ae.below J.out f J.out.lt)
          have z := yj.ints (base := w7.heap.size) (yy bi.out f)
          clear s f
          by_cases aq : j < OO.length
          · obtain ⟨x, p⟩ : ∃ x, OO[j]? = some x := ⟨OO[j], zc aq⟩
            obtain ⟨bo, oo, rfl, _, c0⟩ := z.at p
            have v := bf.out x (zq p)
            have V := za (by have := Kw (b := b) (l := l) (r := r) (j := j) (x := x) (by rw [R.out]; exact p); rw [R.out] at this; exact this)
            have b1 : ((OO.take j).filter fun x => decide (x ∉ b)).length ≤ 2000 := by
              have h1 := eL (fun x => decide (x ∉ b)) (OO.take j)
              rw [iR] at h1
              omega
            clear p z
            generalize (OO.take j).filter (fun x => decide (x ∉ b)) = A at *
            by_cases e : x ∈ b
            · have ae := N.out.look_true v e
              rw [if_pos e, iW] at V
              clear e
              go_wp2
              go_roundw
              case rel => exact ⟨j + 1, by omega, by rw [V.out]; exact a.out, n.out, by go_num⟩
              case measure => simp [intOf]; omega
            · have ae := N.out.look_false v e
              rw [if_neg e] at V
              clear e
              go_wp2_with (at_builtin; refine ew _ rfl _ _ 55 rfl E.heap.size 3 is (.int .i64 0) 1 8 Tryz.underlying55 hi ay ag am rfl (by decide) _ A.length (A.map (zX .i64)) rfl (zy a.out _) ⟨wr.heap.size, 0, none⟩ 1 1 [.int .i64 x] rfl rfl (AR _ _ _) (by simp [ej]) (by simp [maxLen]; omega) (by omega) (zI n.out.size (ya _).size) ?_; intro v' ac m c H)
              go_roundw
              case rel =>
                refine ⟨j + 1, by omega, ?_, yd (n.out.trans ((ya _).mono n.out.size)) c (fun q e => yf a.out q e) (zI n.out.size (ya _).size), by go_num⟩
                rw [V.out]
                unfold yj
                rw [zT, ip]
                exact m
              case measure => simp [intOf]; omega
          · obtain rfl : j = OO.length := by omega
            rw [zY] at a
            clear z
            go_wp2_with fail
            refine (Fx E.heap.size _ _ wr a.out (by have := eL (fun x => decide (x ∉ b)) OO; omega)).mono ?_
            rintro e w9 ⟨rfl, B, F⟩
            have I : CG b l r = OO.filter fun x => decide (x ∉ b) := by unfold CG; rw [R.out]
            rw [← I] at B
            have ci : (CG b l r).length ≤ 2000 := by rw [I]; have := eL (fun x => decide (x ∉ b)) OO; omega
            have X : yj w9 t.heap.size u10 (B7 b l r) := zF (yy az.out n.out) F (by
              cases h : u10.ownBlock with
              | none => exact .inl rfl
              | some k =>
                refine .inr fun e => ?_
                have h1 := (zE az.out k h).2
                have h2 := yf a.out k e.symm
                omega)
            have ct : (B7 b l r).length ≤ 1000 := by
              have := eL (fun x => decide (x ∈ l ∧ x ∈ r)) (Ai b)
              unfold B7
              omega
            have T : (Fg (CG b l r)).length = (CG b l r).length := zaA ..
            have D : Below w.heap.size w w9 := yd (o.out.trans (n.out.mono o.out.size)) F (fun k e => by have h2 := yf a.out k e; have := o.out.size; omega) (zI o.out.size n.out.size)
            have G := za X
            have ar := za B
            have C := za D
            have L := za T
            have ao : w.heap.size ≤ t.heap.size := S
            rcases B.shape with ⟨rfl, P⟩ | ⟨g9, c9, rfl, _, _⟩
            · have ax := za P
              clear X B D T P F I
              go_wp2_with (at_builtin; refine zc6 rfl _ _ 55 rfl t.heap.size 3 is 1 Tryz.underlying55 hi _ _ _ rfl G.out rfl ?_)
              go_ret
              refine ⟨_, rfl, ?_, C.out⟩
              have e : AP b l r = B7 b l r := by
                show B7 b l r ++ Fg (CG b l r) = B7 b l r
                rw [ax.out, iW]
              rw [e]
              exact Au G.out ao
            · have al := EG (w := w9) (b := g9) (off := 0) (l := Fg (CG b l r)) (fun i x p => by
                rw [eV, ep ar.out i (by have := (zm.1 p).1; omega), ig, p]
                rfl)
              have bp := za al
              rw [T]
              clear X B D F al I
              go_wp2_with (at_builtin; refine ew _ rfl _ _ 55 rfl t.heap.size 3 is (.int .i64 0) 1 8 Tryz.underlying55 hi ay ag am rfl (by decide) _ (B7 b l r).length ((B7 b l r).map (zX .i64)) rfl G.out ⟨g9, 0, none⟩ (CG b l r).length c9 ((Fg (CG b l r)).map (zX .i64)) rfl (by rw [l8, L.out, zdq]) bp.out (by simp [ej]) (by simp [maxLen]; omega) (by omega) (by have := o.out.size; have := n.out.size; have := zE ar.out g9 rfl; have h8 : t.heap.size ≤ E.heap.size := af.out; omega) ?_; intro v' ac m c H)
              go_ret
              refine ⟨_, rfl, ?_, yd C.out c (fun k e => by have := yf G.out k e; omega) C.out.size⟩
              show ac.ownsRow w.heap.size 3 1 _ (B7 b l r ++ Fg (CG b l r)).length _
              refine Au (base := t.heap.size) ?_ ao
              rw [zT, L.out]
              have e : (AP b l r).map (zX .i64) = (B7 b l r).map (zX .i64) ++ (Fg (CG b l r)).map (zX .i64) := ip ..
              rw [e]
              exact m
      · rw [if_neg Q] at a4
        subst a4
        have cv : ¬ r = [] := fun h => Q (by rw [h]; rfl)
        go_wp2_with fail
        refine bm.out.mono ?_
        clear Q cv
        rintro e E ⟨u8, rfl, U, y⟩
        obtain ⟨p8, c8, rfl⟩ := yq U
        have bi := za U
        have J : eW (Bv E w.heap.size b.length (fun i => i ∈ b)) := za (Ae.below Z.out y Z.out.lt)
        have az : eW (yj E t.heap.size u10 (B7 b l r)) := za (yy b9.out y)
        have af : eW (t.heap.size ≤ E.heap.size) := za (zI hB.size (zI av.out.size y.size))
        have o : eW (Below w.heap.size w E) := za (aa.out.trans (y.mono aa.out.size))
        clear U y bg bj hmk
        generalize aw : Ai (l ++ r) = OO at *
        have R := za aw
        clear aw
        go_wp2
        go_loopw [11, 16, 61] (fun u _ iv W => ∃ j : Nat, j ≤ OO.length ∧ yj W E.heap.size u ((OO.take j).filter fun x => decide (x ∉ b)) ∧ Below E.heap.size E W ∧ iv = .int .i64 j) (fun _ _ iv _ => OO.length - (intOf iv).toNat)
        case atStart => exact ⟨0, by omega, ed _ _ _ _, zt _ _, rfl⟩
        case round =>
          obtain ⟨j, hj, s, f, rfl⟩ := hrel
          have a := za s
          have n := za f
          have N := za (show Bv wr w.heap.size b.length (fun i => i ∈ b) from Ae.below J.out f J.out.lt)
          have z := yj.ints (base := w7.heap.size) (yy bi.out f)
          clear s f
          by_cases aq : j < OO.length
          · obtain ⟨x, p⟩ : ∃ x, OO[j]? = some x := ⟨OO[j], zc aq⟩
            obtain ⟨bo, oo, rfl, _, c0⟩ := z.at p
            have v := bf.out x (zq p)
            have V := za (by have := Kw (b := b) (l := l) (r := r) (j := j) (x := x) (by rw [R.out]; exact p); rw [R.out] at this; exact this)
            have b1 : ((OO.take j).filter fun x => decide (x ∉ b)).length ≤ 2000 := by
              have h1 := eL (fun x => decide (x ∉ b)) (OO.take j)
              rw [iR] at h1
              omega
            clear p z
            generalize (OO.take j).filter (fun x => decide (x ∉ b)) = A at *
            by_cases e : x ∈ b
            · have ae := N.out.look_true v e
              rw [if_pos e, iW] at V
              clear e
              go_wp2
              go_roundw
              case rel => exact ⟨j + 1, by omega, by rw [V.out]; exact a.out, n.out, by go_num⟩
              case measure => simp [intOf]; omega
            · have ae := N.out.look_false v e
              rw [if_neg e] at V
              clear e
              go_wp2_with (at_builtin; refine ew _ rfl _ _ 55 rfl E.heap.size 3 is (.int .i64 0) 1 8 Tryz.underlying55 hi ay ag am rfl (by decide) _ A.length (A.map (zX .i64)) rfl (zy a.out _) ⟨wr.heap.size, 0, none⟩ 1 1 [.int .i64 x] rfl rfl (AR _ _ _) (by simp [ej]) (by simp [maxLen]; omega) (by omega) (zI n.out.size (ya _).size) ?_; intro v' ac m c H)
              go_roundw
              case rel =>
                refine ⟨j + 1, by omega, ?_, yd (n.out.trans ((ya _).mono n.out.size)) c (fun q e => yf a.out q e) (zI n.out.size (ya _).size), by go_num⟩
                rw [V.out]
                unfold yj
                rw [zT, ip]
                exact m
              case measure => simp [intOf]; omega
          · obtain rfl : j = OO.length := by omega
            rw [zY] at a
            clear z
            go_wp2_with fail
            refine (Fx E.heap.size _ _ wr a.out (by have := eL (fun x => decide (x ∉ b)) OO; omega)).mono ?_
            rintro e w9 ⟨rfl, B, F⟩
            have I : CG b l r = OO.filter fun x => decide (x ∉ b) := by unfold CG; rw [R.out]
            rw [← I] at B
            have ci : (CG b l r).length ≤ 2000 := by rw [I]; have := eL (fun x => decide (x ∉ b)) OO; omega
            have X : yj w9 t.heap.size u10 (B7 b l r) := zF (yy az.out n.out) F (by
              cases h : u10.ownBlock with
              | none => exact .inl rfl
              | some k =>
                refine .inr fun e => ?_
                have h1 := (zE az.out k h).2
                have h2 := yf a.out k e.symm
                omega)
            have ct : (B7 b l r).length ≤ 1000 := by
              have := eL (fun x => decide (x ∈ l ∧ x ∈ r)) (Ai b)
              unfold B7
              omega
            have T : (Fg (CG b l r)).length = (CG b l r).length := zaA ..
            have D : Below w.heap.size w w9 := yd (o.out.trans (n.out.mono o.out.size)) F (fun k e => by have h2 := yf a.out k e; have := o.out.size; omega) (zI o.out.size n.out.size)
            have G := za X
            have ar := za B
            have C := za D
            have L := za T
            have ao : w.heap.size ≤ t.heap.size := S
            rcases B.shape with ⟨rfl, P⟩ | ⟨g9, c9, rfl, _, _⟩
            · have ax := za P
              clear X B D T P F I
              go_wp2_with (at_builtin; refine zc6 rfl _ _ 55 rfl t.heap.size 3 is 1 Tryz.underlying55 hi _ _ _ rfl G.out rfl ?_)
              go_ret
              refine ⟨_, rfl, ?_, C.out⟩
              have e : AP b l r = B7 b l r := by
                show B7 b l r ++ Fg (CG b l r) = B7 b l r
                rw [ax.out, iW]
              rw [e]
              exact Au G.out ao
            · have al := EG (w := w9) (b := g9) (off := 0) (l := Fg (CG b l r)) (fun i x p => by
                rw [eV, ep ar.out i (by have := (zm.1 p).1; omega), ig, p]
                rfl)
              have bp := za al
              rw [T]
              clear X B D F al I
              go_wp2_with (at_builtin; refine ew _ rfl _ _ 55 rfl t.heap.size 3 is (.int .i64 0) 1 8 Tryz.underlying55 hi ay ag am rfl (by decide) _ (B7 b l r).length ((B7 b l r).map (zX .i64)) rfl G.out ⟨g9, 0, none⟩ (CG b l r).length c9 ((Fg (CG b l r)).map (zX .i64)) rfl (by rw [l8, L.out, zdq]) bp.out (by simp [ej]) (by simp [maxLen]; omega) (by omega) (by have := o.out.size; have := n.out.size; have := zE ar.out g9 rfl; have h8 : t.heap.size ≤ E.heap.size := af.out; omega) ?_; intro v' ac m c H)
              go_ret
              refine ⟨_, rfl, ?_, yd C.out c (fun k e => by have := yf G.out k e; omega) C.out.size⟩
              show ac.ownsRow w.heap.size 3 1 _ (B7 b l r ++ Fg (CG b l r)).length _
              refine Au (base := t.heap.size) ?_ ao
              rw [zT, L.out]
              have e : (AP b l r).map (zX .i64) = (B7 b l r).map (zX .i64) ++ (Fg (CG b l r)).map (zX .i64) := ip ..
              rw [e]
              exact m
end Go.Proofs
