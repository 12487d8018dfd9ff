/-
  Part of the proof: merge3.key, merge3.kids.
-/
import Derived.Test.YtpdlpdkehminlaaGreatDoorWI
import Derived.Test.YtpdlpdkehminlaaGreatDoorLayB
set_option linter.all false
set_option maxRecDepth 100000
set_option maxHeartbeats 20000000
open Array renaming getElem?_replicate->iE,replicate->eD
open Bool renaming and_eq_true->zo
open Go renaming Calls->zM,TypeId->zL,Value->zg,World->ze,cell_of_row->zV,frozen_of_row->zk,heap_alloc_new->zx,heap_setCell_same->zA,info_parts->iY,undef->zl,wpAnyH_done->lF,wpAnyH_ready->zG,wpAnyH_take->zaY,wpList_append_own->ew
open Go.Act renaming put->z8
open Go.AllReadyH renaming cons->zv,nil->zC
open Go.Exit renaming «then»->ef
open Go.Instr renaming lookup->ec
open Go.Lib renaming BuilderAt->oJ,IsBuilder->oM,byteCells->iC,byteCells_length->lO,cell_of_heap->lC,frozen_of_heap->zc7,hid->za,repeatL->zct,size_eq->zej
open Go.Lib.BuilderAt renaming put->zd9
open Go.Obj renaming cells->l4
open Go.Region renaming binds->zR
open Go.RowKit renaming Hid->eW
open Go.RowKit.Below renaming refl->zt
open Go.Value renaming oneCell'->ej,slice->eU
open Go.World renaming grownBy_alloc->eQ
open Go.World.ownsRow renaming alloc->zy,cellAt->ep,kept->zF,stored->ii
open List renaming all_eq_true->iu,flatten_cons->lu,getElem?_append_left->eI,getElem?_append_right->en,getElem?_eq_getElem->zc,getElem?_eq_some_iff->zm,getElem?_take_of_lt->lh,length_append->zT,mem_cons_self->eO,mem_range->lD,range->ev,setIfInBounds_toArray->zf,set_cons_succ->zj,set_cons_zero->zi,take_succ_cons->zag,take_zero->zak
open Nat renaming le_refl->zn,le_trans->zI,zero_add->eV
open Option.some renaming injEq->zb
namespace Go.Proofs
open Go.RowKit Go.Maps Go.MapKept
open Classical
def G3:Prop:=∀(t:T)(gv kv:zg)(w:ze),t.Lies w gv kv->Bh w->t.size<=300->t.bulk<=1048576->zM Tryz.prog 81 #[yJ t.k t.s gv kv] w λe w'=>∃(s:ByteArray)(n:Int),e=.returned (.tuple #[.string s,.int .i64 n])/\s.size<=1000000/\Below w.heap.size w w'
theorem S6(HPr:G3)(t:T)(gv kv:zg)(w:ze)(hl:t.Lies w gv kv)(hS:Bh w)(hs:t.size<=300)(hb:t.bulk<=1048576):zM Tryz.prog 110 #[yJ t.k t.s gv kv] w λe w'=>∃s:ByteArray,e=.returned (.string s)/\Below w.heap.size w w':=by
 obtain⟨p,o,rfl⟩:=hl.kids.slice;obtain⟨q,m,rfl⟩:=hl.gaps.slice;obtain⟨h,d⟩:∃h,h=w.alloc (.cells #[.int .i64 t.k,.string t.s,.slice q t.g.length m,.slice p t.ks.length o] 25):=⟨_,rfl⟩
 have c:Below w.heap.size w h:=by rw[d];exact ya _
 have f:h.heap[w.heap.size]?=some (.cells #[.int .i64 t.k,.string t.s,.slice q t.g.length m,.slice p t.ks.length o] 25 (0,0)):=by rw[d];exact zx _ _
 have A:=za (HPr t _ _ h (T.Lies.below c t hl) (hS.below c) hs hb);have a:=za c;have i:=za f;have B:=za hl;clear hl hS c f;go_enter Tryz.func110,Tryz.ntmps110;go_wp2_with fail;rw[<-d];clear d;refine A.out.mono ?_;rintro e C ⟨s,n,rfl,x,b⟩;have j:=(b.block _ (yz i.out)).trans i.out;obtain⟨F,D,G,H⟩:=yi j;by_cases r:n=0
 .subst r;have y:=T.size_gapped t;have z:=za (NU t _ _ C (T.Lies.below (a.out.trans (b.mono a.out.size)) t B.out) hs);go_wp2_with fail;refine z.out.mono ?_;rintro e E ⟨rfl,l⟩;go_wp2;go_ret;exact⟨_,rfl,a.out.trans ((b.mono a.out.size).trans (l.mono (zI a.out.size b.size)))⟩
 .have v:(n !=0)=true:=by simpa using r
  go_wp2;go_ret;exact⟨_,rfl,a.out.trans (b.mono a.out.size)⟩
theorem TV{b l r y:List Int}(h:(l=r/\y=r)\/(l=b/\y=r)\/(r=b/\y=l)):Agree b l r/\Az b l r=y:=by
 rcases h with⟨rfl,rfl⟩|⟨rfl,rfl⟩|⟨rfl,rfl⟩
 .exact⟨.inl rfl,by simp[Az]⟩
 .exact⟨.inr (.inr rfl),by
   unfold Az;split
   .rename_i h;rcases h with h|h
    .exact h
    .exact h.symm
   .rfl⟩
 .exact⟨.inr (.inl rfl),by simp[Az]⟩
def A7(V:Ver):Prop:=∀i y,V i=some y->y.kids.length<=300/\y.kids.Nodup/\∀k∈y.kids,yw k
noncomputable def B8(V:Ver)(id:Int)(now:List Int):List Int:=(((V id).map Dl.kids).getD []).filter λk=>decide (k∈now)
theorem Ff{V:Ver}(h:A7 V)(id:Int)(now:List Int):(B8 V id now).length<=300/\(B8 V id now).Nodup/\∀k∈B8 V id now,yw k:=by
 unfold B8;cases hV:V id with
 |none=>simp
 |some y=>obtain⟨a,b,c⟩:=h id y hV;refine⟨zI (List.length_filter_le _ _) a,b.filter _,λk hk=>c k (List.mem_filter.1 hk).1⟩
theorem SJ{B L R S:Ver}{id:Int}{now:List Int}{y:Dl}(hW:Win B L R S)(hS:S id=some y)(hnow:∀k∈y.kids,k∈now):Agree (B8 B id now) (B8 L id now) (B8 R id now)/\Az (B8 B id now) (B8 L id now) (B8 R id now)=y.kids:=by
 have e:B8 S id now=y.kids:=by unfold B8;rw[hS];exact List.filter_eq_self.2 λk hk=>by simpa using hnow k hk
 rw[<-e];refine TV ?_;rcases hW id with⟨a,b⟩|⟨a,b⟩|⟨a,b⟩
 .exact .inl ⟨by unfold B8;rw[a],by unfold B8;rw[b]⟩
 .exact .inr (.inl ⟨by unfold B8;rw[a],by unfold B8;rw[b]⟩)
 .exact .inr (.inr ⟨by unfold B8;rw[a],by unfold B8;rw[b]⟩)
def FF(w:ze)(b n:Nat)(N:Int->Option T):Prop:=∃F:Int->Option zg,Ae w b n F/\∀k t,N k=some t->∃gv kv,F k=some (yJ t.k t.s gv kv)/\t.Lies w gv kv
theorem FF.below{w w':ze}{b n:Nat}{N:Int->Option T}(h:FF w b n N)(hb:Below w.heap.size w w'):FF w' b n N:=by obtain⟨F,a,f⟩:=h;refine⟨F,a.below hb a.lt,λk t hk=>?_⟩;obtain⟨d,g,e,c⟩:=f k t hk;exact⟨d,g,e,T.Lies.below hb t c⟩
theorem PZ(w:ze):(zeroValue 25).run Tryz.prog w=.ok (.agg #[.int .i64 0,.string .empty,.slice none 0 0,.slice none 0 0]) w:=by kernel_rfl
theorem FF.look{w:ze}{b n:Nat}{N:Int->Option T}(h:FF w b n N){k:Int}{t:T}(hk:N k=some t)(hi:yw k):∃gv kv,(ec 122 (.map (some b)) (.int .i64 k) false).run Tryz.prog w=.ok (yJ t.k t.s gv kv) w/\t.Lies w gv kv:=by obtain⟨F,a,d⟩:=h;obtain⟨gv,kv,e,c⟩:=d k t hk;refine⟨gv,kv,?_,c⟩;have:=a.look (t:=122) (e:=25) Tryz.underlying122 (PZ w) k hi;rw[this,e];rfl
def T.thin:T->Prop
 |.mk _ _ g ks=>g.length<=1000/\∀t,(h:t∈ks)->T.thin t
termination_by t=>SizeOf.sizeOf t
decreasing_by
 have:=List.sizeOf_lt_of_mem h;simp only[T.mk.sizeOf_spec];omega
theorem T.thin_iff{k:Int}{s:ByteArray}{g:List ByteArray}{ks:List T}:(T.mk k s g ks).thin↔g.length<=1000/\∀t∈ks,t.thin:=by rw[T.thin]
def BL(w:ze)(lo hi:Nat)(t:T)(gv kv:zg):Prop:=∀W:ze,(∀k,lo<=k->k<hi->W.heap[k]?=w.heap[k]?)->hi<=W.heap.size->t.Lies W gv kv
theorem BL.mono{w:ze}{lo hi lo' hi':Nat}{t:T}{gv kv:zg}(h:BL w lo hi t gv kv)(h1:lo'<=lo)(h2:hi<=hi'):BL w lo' hi' t gv kv:=λW hW hz=>h W (λk a b=>hW k (by omega) (by omega)) (by omega)
theorem BL.keep{w w':ze}{lo hi:Nat}{t:T}{gv kv:zg}(h:BL w lo hi t gv kv)(hk:∀k,lo<=k->k<hi->w'.heap[k]?=w.heap[k]?):BL w' lo hi t gv kv:=λW hW hz=>h W (λk a b=>(hW k a b).trans (hk k a b)) hz
theorem BL.lies{w:ze}{lo hi:Nat}{t:T}{gv kv:zg}(h:BL w lo hi t gv kv)(hz:hi<=w.heap.size):t.Lies w gv kv:=h w (λ_ _ _=>rfl) hz
theorem Mn:(Tryz.prog.info? 25).map (λi=>(i.zero,i.size,i.bytes))=some (some (.agg #[.int .i64 0,.string .empty,.slice none 0 0,.slice none 0 0]),4,72):=by kernel_rfl
def AF(w:ze)(lo:Nat)(A:Nat->Prop)(ts:List T)(xs:List (List zg)):Prop:=xs.length=ts.length/\∀(i:Nat)(t:T)(vs:List zg),ts[i]?=some t->xs[i]?=some vs->∃gv kv l h,vs=[.int .i64 t.k,.string t.s,gv,kv]/\lo<=l/\h<=w.heap.size/\BL w l h t gv kv/\∀k,A k->¬(l<=k/\k<h)
theorem AF.nil(w:ze)(lo:Nat)(A:Nat->Prop):AF w lo A [] []:=⟨rfl,λi t vs h=>by simp at h⟩
theorem AF.keep{w w':ze}{lo:Nat}{A A':Nat->Prop}{ts:List T}{xs:List (List zg)}(h:AF w lo A ts xs)(hz:w.heap.size<=w'.heap.size)(hk:∀k,k<w.heap.size->¬A k->w'.heap[k]?=w.heap[k]?)(hA:∀k,A' k->A k\/w.heap.size<=k):AF w' lo A' ts xs:=by
 refine⟨h.1,λi t vs ht hv=>?_⟩;obtain⟨g,j,l,f,e,d,n,m,c⟩:=h.2 i t vs ht hv;refine⟨g,j,l,f,e,d,by omega,m.keep λk a b=>hk k (by omega) (λhA'=>c k hA' ⟨a,b⟩),λk hk'=>?_⟩;rcases hA k hk' with h|h
 .exact c k h
 .omega
theorem AF.snoc{w:ze}{lo:Nat}{A:Nat->Prop}{ts:List T}{xs:List (List zg)}{t:T}{gv kv:zg}{l h:Nat}(hN:AF w lo A ts xs)(h1:lo<=l)(h2:h<=w.heap.size)(h3:BL w l h t gv kv)(h4:∀k,A k->¬(l<=k/\k<h)):AF w lo A (ts++[t]) (xs++[[.int .i64 t.k,.string t.s,gv,kv]]):=by
 refine⟨by simp[hN.1],λi t' vs ht hv=>?_⟩;by_cases a:i<ts.length
 .rw[eI a]at ht;rw[eI (by rw[hN.1];exact a)]at hv;exact hN.2 i t' vs ht hv
 .rw[en (by omega)]at ht;rw[en (by rw[hN.1];omega),hN.1]at hv;obtain⟨rfl⟩:i=ts.length:=by
   rcases Nat.lt_or_ge (i-ts.length) 1 with h|h
   .omega
   .rw[List.getElem?_eq_none (by simpa using h)]at ht;cases ht
  simp only[Nat.sub_self,List.getElem?_cons_zero,zb]at ht hv;subst ht hv;exact⟨gv,kv,l,h,rfl,h1,h2,h3,h4⟩
theorem V9:∀{xs:List (List zg)}(_:∀vs∈xs,vs.length=4){i j:Nat}{vs:List zg},xs[i]?=some vs->j<4->xs.flatten[i*4+j]?=vs[j]?
 |[],_,_,_,_,h,_=>by simp at h
 |y::l,hl,0,j,vs,h,hj=>by cases h;rw[lu,Nat.zero_mul,eV,eI (by rw[hl _ (eO ..)];exact hj)]
 |y::l,hl,i+1,j,vs,h,hj=>by have hy:=hl y (eO ..);rw[lu,en (by omega),hy,show(i+1)*4+j-4=i*4+j by omega];exact V9 (λvs hvs=>hl vs (List.mem_cons_of_mem _ hvs)) (by simpa using h) hj
theorem Wr{w:ze}{base lo:Nat}{A:Nat->Prop}{u:zg}{ts:List T}{xs:List (List zg)}(hN:AF w lo A ts xs)(hr:w.ownsRow base 25 4 u ts.length xs.flatten)(hb:lo<=base):∀W:ze,(∀k,lo<=k->k<w.heap.size->W.heap[k]?=w.heap[k]?)->w.heap.size<=W.heap.size->Bq W u ts:=by
 intro W v L;have m:∀vs∈xs,vs.length=4:=λvs hvs=>by
  obtain⟨i,B,e⟩:=List.getElem_of_mem hvs;have n:i<ts.length:=by have:=hN.1;omega
  obtain⟨C,y,_,_,F,_⟩:=hN.2 i ts[i] vs (zc n) (by rw[zc B,e]);rw[F];rfl
 rcases hr.2 with⟨rfl,D⟩|⟨g,p,q,rfl,J,d,N,x,H,s⟩
 .exact .inl ⟨⟨_,_,rfl⟩,List.length_eq_zero_iff.1 D⟩
 .have o:=(Array.getElem?_eq_some_iff.1 d).1;refine .inr ⟨g,0,p,rfl,by omega,λi t ht=>?_⟩;have B:i<ts.length:=(zm.1 ht).1;have f:xs[i]?=some (xs[i]'(by have:=hN.1;omega)):=zc _;obtain⟨C,y,l,h,e,I,M,G,_⟩:=hN.2 i t _ ht f;have c:∀j,j<4->W.cell? ⟨g,0+i*4+j,none⟩=(xs[i]'(by have:=hN.1;omega))[j]?:=by intro j E;have r:=(v g (by omega) o).trans d;rw[zV W g (0+i*4+j) q 25 (0,0) r];have z:=V9 m f E;rw[<-s]at z;rw[<-z,lh (by omega),eV];simp
  rw[e]at c;refine⟨C,y,c 0 (by omega),c 1 (by omega),c 2 (by omega),c 3 (by omega),G W (λk a b=>v k (by omega) (by omega)) (by omega)⟩
theorem Vo:(Tryz.prog.info? 5).map (λi=>(i.zero,i.size,i.bytes))=some (some (.int .u8 0),1,1):=by kernel_rfl
structure Fr(A b l N:Nat)(w w':ze):Prop where
 bel:Below A w w'
 keep:∀k,k<N->k≠b->k≠l->(∀(cs:Array zg)(fz:Nat×Nat),w.heap[k]?≠some (l4 cs 5 fz))->w'.heap[k]?=w.heap[k]?
theorem Fr.trans{A b l N:Nat}{u v w:ze}(h:Fr A b l N u v)(g:Fr A b l N v w):Fr A b l N u w:=⟨h.bel.trans g.bel,λk hk h1 h2 h3=>by have e:=h.keep k hk h1 h2 h3;rw[<-e];exact g.keep k hk h1 h2 (by rw[e];exact h3)⟩
theorem Fr.mono{A b l N M:Nat}{w w':ze}(h:Fr A b l N w w')(hM:M<=N):Fr A b l M w w':=⟨h.bel,λk hk=>h.keep k (by omega)⟩
theorem Fr.new{A b l N:Nat}{w w':ze}(hA:A<=w.heap.size)(hN:N<=w.heap.size)(h:Below w.heap.size w w'):Fr A b l N w w':=⟨h.mono hA,λk hk _ _ _=>h.block k (by omega)⟩
structure PrS(w0:ze)(b l P c:Nat)(w:ze):Prop where
 lo:w0.heap.size<=b/\w0.heap.size<=l/\w0.heap.size<=P
 bel:Below w0.heap.size w0 w
 bld:∃bs:List UInt8,bs.length<=4000001*c/\oM 156 5 w0.heap.size b (iC bs) w
 last:∃s:ByteArray,s.size<=2000000/\w.heap[l]?=some (.cells #[.string s] 9 (0,0))
 fn:w.heap[P]?=some (.cells #[.func (.func 118) #[] #[.pointer (some ⟨l,0,none⟩),.pointer (some ⟨b,0,none⟩)]] 166 (0,0))
theorem CJ{A b:Nat}{bs:List zg}{w:ze}(h:oM 156 5 A b bs w):∃p v,w.heap[b]?=some (.cells #[p,v] 156 (0,0)):=by
 rcases h with⟨_,v,a,_⟩|⟨_,v,a,_⟩
 .exact⟨_,v,a⟩
 .exact⟨_,v,a⟩
theorem Dk{A b:Nat}{p:zg}{bs:List zg}{w w':ze}(h:oJ 156 5 A b p bs w)(h1:w'.heap[b]?=w.heap[b]?)(h2:∀(k:Nat)(cs:Array zg)(fz:Nat×Nat),w.heap[k]?=some (l4 cs 5 fz)->w'.heap[k]?=w.heap[k]?):oJ 156 5 A b p bs w':=by
 obtain⟨m,v,o,a,i⟩:=h;refine⟨m,v,h1.trans o,⟨a.1,?_⟩,i⟩;rcases a.2 with h|⟨g,j,f,n,l,c,d⟩
 .exact .inl h
 .exact .inr ⟨g,j,f,n,l,(h2 g _ _ c).trans c,d⟩
theorem PrS.of{w0:ze}{b l P c:Nat}{w w':ze}(h:PrS w0 b l P c w)(hb:Below w0.heap.size w w')(hk:∀k,k<w.heap.size->(k=b\/k=l\/k=P\/∃(cs:Array zg)(fz:Nat×Nat),w.heap[k]?=some (l4 cs 5 fz))->w'.heap[k]?=w.heap[k]?):PrS w0 b l P c w':=by
 obtain⟨j,i,a⟩:=h.bld;obtain⟨s,n,g⟩:=h.last;obtain⟨p,v,m⟩:=CJ a;have d:=hk b (yz m) (.inl rfl);have f:∀(k:Nat)(cs:Array zg)(fz:Nat×Nat),w.heap[k]?=some (l4 cs 5 fz)->w'.heap[k]?=w.heap[k]?:=λk cs fz e=>hk k (yz e) (.inr (.inr (.inr ⟨cs,fz,e⟩)));refine⟨h.lo,h.bel.trans hb,⟨j,i,?_⟩,⟨s,n,(hk l (yz g) (.inr (.inl rfl))).trans g⟩,(hk P (yz h.fn) (.inr (.inr (.inl rfl)))).trans h.fn⟩;rcases a with a|a
 .exact .inl (Dk a d f)
 .exact .inr (Dk a d f)
theorem PrS.below{w0:ze}{b l P c:Nat}{w w':ze}(h:PrS w0 b l P c w)(hb:Below w.heap.size w w'):PrS w0 b l P c w':=h.of (hb.mono h.bel.size) λk hk _=>hb.block k hk
theorem PrS.mono{w0:ze}{b l P c d:Nat}{w:ze}(h:PrS w0 b l P c w)(hd:c<=d):PrS w0 b l P d w:=by obtain⟨a,g,f⟩:=h.bld;exact⟨h.lo,h.bel,⟨a,by omega,f⟩,h.last,h.fn⟩
theorem PrS.lt{w0:ze}{b l P c:Nat}{w:ze}(h:PrS w0 b l P c w):b<w.heap.size/\l<w.heap.size/\P<w.heap.size:=by obtain⟨g,_,f⟩:=h.bld;obtain⟨s,_,d⟩:=h.last;obtain⟨p,v,a⟩:=CJ f;exact⟨yz a,yz d,yz h.fn⟩
theorem PrS.ne{w0:ze}{b l P c:Nat}{w:ze}(h:PrS w0 b l P c w):P≠b/\P≠l/\b≠l:=by
 obtain⟨i,_,g⟩:=h.bld;obtain⟨s,_,f⟩:=h.last;obtain⟨p,v,d⟩:=CJ g;have a:=h.fn;refine⟨?_,?_,?_⟩
 .rintro rfl;rw[d]at a;injection a with a
  injection a with _ a
  exact absurd a (by decide)
 .rintro rfl;rw[f]at a;injection a with a
  injection a with _ a
  exact absurd a (by decide)
 .rintro rfl;rw[f]at d;injection d with d
  injection d with _ d
  exact absurd d (by decide)
theorem P9(A b:Nat)(bs:List zg)(w:ze)(h:oM 156 5 A b bs w):zM Tryz.prog 155 #[.pointer (some ⟨b,0,none⟩)] w λe w'=>e=.returned (.tuple #[])/\oJ 156 5 A b (.pointer (some ⟨b,0,none⟩)) bs w'/\w.grownBy w' (some b):=by
 rcases h with h|h
 .refine(Tryz.Builder_copyCheck_fresh b w h.cell0 h.shape h.frozen0).mono ?_;rintro e w' ⟨rfl,rfl⟩;exact⟨rfl,h.used _,yn _ _ _ _⟩
 .refine(Tryz.Builder_copyCheck_used b w h.cell0).mono ?_;rintro e w' ⟨rfl,rfl⟩;exact⟨rfl,h,⟨rfl,rfl,rfl,zn _,λ_ _ _=>rfl⟩⟩
theorem SG{A b:Nat}{v v':zg}{w w1 w2:ze}{q:zg}{bs bs':List zg}(hA:A<=w.heap.size)(hb:A<=b)(hcc:w.grownBy w1 (some b))(hbk:w1.heap[b]?=some (.cells #[q,v] 156 (0,0)))(hown:w1.ownsRow A 5 1 v bs.length bs)(hg:w1.grownBy w2 v.ownBlock)(hne:v.ownBlock≠some b)(hown':w2.ownsRow A 5 1 v' bs'.length bs'):oJ 156 5 A b q bs' (w2.setCell ⟨b,1,none⟩ v')/\Below A w (w2.setCell ⟨b,1,none⟩ v')/\∀k,k<w.heap.size->k≠b->(∀(cs:Array zg)(fz:Nat×Nat),w.heap[k]?≠some (l4 cs 5 fz))->(w2.setCell ⟨b,1,none⟩ v').heap[k]?=w.heap[k]?:=by
 have c:w2.heap[b]?=some (.cells #[q,v] 156 (0,0)):=(hg.block b (yz hbk) λe=>hne e.symm).trans hbk;have n:=hcc.size;have f:=hg.size;refine⟨zd9 hb c hown' (by decide),?_,λk hk h1 h2=>?_⟩
 .have l:Below A w w1:=yd (zt _ _) hcc (λk e=>by cases e;exact hb) hA;have m:Below A w w2:=yd l hg (λk e=>yf hown k e) (by omega);exact yd m (yn w2 b 1 v') (λk e=>by cases e;exact hb) (by omega)
 .have d:=hcc.block k hk (by simp;omega);have h:w2.heap[k]?=w1.heap[k]?:=hg.block k (by omega) λe=>by
   rcases hown.2 with⟨rfl,_⟩|⟨g,j,i,rfl,_,a,_⟩
   .cases e
   .cases e;rw[d]at a;exact h2 _ _ a
  exact((yn w2 b 1 v').block k (by omega) (by simp;omega)).trans (h.trans d)
theorem Pc(A b:Nat)(bs:List UInt8)(w:ze)(h:oM 156 5 A b (iC bs) w)(hn:bs.length<=70368744177664)(hA:A<=w.heap.size)(hb:A<=b):zM Tryz.prog 121 #[.pointer (some ⟨b,0,none⟩),.int .u8 32] w λe w'=>(∃v,e=.returned v)/\oJ 156 5 A b (.pointer (some ⟨b,0,none⟩)) (iC (bs++[32])) w'/\Below A w w'/\∀k,k<w.heap.size->k≠b->(∀(cs:Array zg)(fz:Nat×Nat),w.heap[k]?≠some (l4 cs 5 fz))->w'.heap[k]?=w.heap[k]?:=by
 obtain⟨x,B,r,p,q⟩:=iY Vo;have z:=za (P9 A b _ w h);go_enter Tryz.func121,Tryz.ntmps121;go_wp2_with fail;refine z.out.mono ?_;rintro e n ⟨rfl,s,l⟩;obtain⟨I,v,a,d,i⟩:=s;rw[lO]at d;have o:=yz a;have y:=l.size;have D:n.cell? ⟨b,0,none⟩=some (.pointer (some ⟨b,0,none⟩)):=by rw[lC a];rfl
 have J:n.cell? ⟨b,1,none⟩=some v:=by rw[lC a];rfl
 go_wp2_with (at_builtin;refine ew _ rfl _ _ 138 rfl A 5 x (.int .u8 0) 1 1 Tryz.underlying138 B r p q rfl (by decide) _ _ _ rfl (zy d _) ⟨n.heap.size,0,none⟩ 1 1 [.int .u8 32] rfl rfl (AR _ _ _) (by simp[ej]) (by simp[maxLen];omega) (by omega) (by simp;omega) ?_);intro L m c f _;have j:n.grownBy m v.ownBlock:=yc (eQ _ _ _) f;have g:m.heap[b]?=some (.cells #[.pointer (some ⟨b,0,none⟩),v] 156 (0,0)):=(j.block b o λe=>i e.symm).trans a;have G:m.cell? ⟨b,0,none⟩=some (.pointer (some ⟨b,0,none⟩)):=by rw[lC g];rfl
 have F:m.cell? ⟨b,1,none⟩=some v:=by rw[lC g];rfl
 have H:m.frozen? ⟨b,1,none⟩=false:=zc7 g 1;obtain⟨E,C,rfl⟩:=yq c;have t:=za (SG (bs:=iC bs) (bs':=iC (bs++[32])) hA hb l a (by rw[lO];exact d) j i (by rw[lO,zT];simpa[iC]using c));go_wp2;go_ret;exact⟨⟨_,rfl⟩,t.out⟩
theorem Q5(A b:Nat)(bs:List UInt8)(s:ByteArray)(w:ze)(h:oM 156 5 A b (iC bs) w)(hn:bs.length+s.size<=70368744177664)(hA:A<=w.heap.size)(hb:A<=b):zM Tryz.prog 122 #[.pointer (some ⟨b,0,none⟩),.string s] w λe w'=>(∃v,e=.returned v)/\oJ 156 5 A b (.pointer (some ⟨b,0,none⟩)) (iC (bs++s.data.toList)) w'/\Below A w w'/\∀k,k<w.heap.size->k≠b->(∀(cs:Array zg)(fz:Nat×Nat),w.heap[k]?≠some (l4 cs 5 fz))->w'.heap[k]?=w.heap[k]?:=by
 obtain⟨y,C,p,n,o⟩:=iY Vo;have B:=za (P9 A b _ w h);go_enter Tryz.func122,Tryz.ntmps122;go_wp2_with fail;refine B.out.mono ?_;rintro e r ⟨rfl,t,j⟩;obtain⟨J,v,a,d,g⟩:=t;rw[lO]at d;have m:=yz a;have z:=j.size;have E:r.cell? ⟨b,0,none⟩=some (.pointer (some ⟨b,0,none⟩)):=by rw[lC a];rfl
 have L:r.cell? ⟨b,1,none⟩=some v:=by rw[lC a];rfl
 go_wp2_with (at_builtin;refine Lib.wpList_append_own_string _ rfl _ _ 138 9 rfl A 5 y Tryz.underlying138 Tryz.underlying9 C p n o _ _ _ rfl d s rfl (by simp[maxLen];omega) (by omega) (by omega) ?_);intro M l c i _;have f:l.heap[b]?=some (.cells #[.pointer (some ⟨b,0,none⟩),v] 156 (0,0)):=(i.block b m λe=>g e.symm).trans a;have H:l.cell? ⟨b,0,none⟩=some (.pointer (some ⟨b,0,none⟩)):=by rw[lC f];rfl
 have G:l.cell? ⟨b,1,none⟩=some v:=by rw[lC f];rfl
 have I:l.frozen? ⟨b,1,none⟩=false:=zc7 f 1;obtain⟨F,D,rfl⟩:=yq c;have q:s.data.toList.length=s.size:=by rw[<-zej]
 have x:=za (SG (bs:=iC bs) (bs':=iC (bs++s.data.toList)) hA hb j a (by rw[lO];exact d) i g (by rw[lO,zT,q];simpa[iC,Lib.strCells]using c));go_wp2;go_ret2;exact⟨⟨_,rfl⟩,x.out⟩
open Go.RowKit
theorem ML(c:Int)(w:ze):zM Tryz.prog 177 #[.int .u8 c] w λe w'=>(∃n:Int,e=.returned (.int .i64 n))/\w'=w:=by
 have b:=za (Hz ⟨#[40,41,123,125,44,59,58,46,61,60,43,45,42,47,33,38,124]⟩ c w);go_enter Tryz.func177,Tryz.ntmps177;go_wp2_with (first|(go_at_call 185;refine b.out.mono ?_;rintro e w' ⟨rfl,a⟩;rw[a]));all_goals
  go_ret;exact⟨⟨_,rfl⟩,rfl⟩
theorem OC(c:Int)(w:ze):zM Tryz.prog 153 #[.int .u8 c] w λe w'=>(∃b:Bool,e=.returned (.bool b))/\w'=w:=by
 have d:=za (ML c w);go_enter Tryz.func153,Tryz.ntmps153;go_wp2_with (first|(go_at_call 177;refine d.out.mono ?_;rintro e w' ⟨⟨n,rfl⟩,a⟩;rw[a]));all_goals
  go_ret;exact⟨⟨_,rfl⟩,rfl⟩
theorem Jx{s:ByteArray}(h:s.toList.isEmpty=false):0<s.size:=by
 rcases Nat.eq_zero_or_pos s.size with e|e
 .have:s=.empty:=by apply ByteArray.ext;exact Array.eq_empty_of_size_eq_zero e
  subst this;rw[IB]at h;simp at h
 .exact e
theorem Ra(a b:ByteArray)(w:ze)(ha:a.size<=4000000):zM Tryz.prog 119 #[.string a,.string b] w λe w'=>(∃c:Bool,e=.returned (.bool c))/\w'=w:=by
 by_cases d:a.toList.isEmpty=true
 .go_enter Tryz.func119,Tryz.ntmps119;go_wp2;all_goals
   go_ret;exact⟨⟨_,rfl⟩,rfl⟩
 .by_cases f:b.toList.isEmpty=true
  .go_enter Tryz.func119,Tryz.ntmps119;go_wp2;all_goals
    go_ret;exact⟨⟨_,rfl⟩,rfl⟩
  .have j:=za λc=>OC c w;have g:=Jx (by simpa using d);have h:=Jx (by simpa using f);have l:(0:Int)<(b.size:Int):=by omega
   have i:¬((b.size:Int)<=0):=by omega
   go_enter Tryz.func119,Tryz.ntmps119;go_wp2_with (first|(go_at_call 153;refine(j.out _).mono ?_;rintro e w' ⟨⟨n,rfl⟩,k⟩;rw[k]));all_goals
    go_ret;exact⟨⟨_,rfl⟩,rfl⟩
theorem Kk(lv:Nat)(w:ze)(h:lv<=1000):zM Tryz.prog 215 #[.int .i64 lv] w λe w'=>(∃s:ByteArray,e=.returned (.string s)/\s.size<=2000)/\Below w.heap.size w w':=by
 have b:=za (Tryz.strings_Repeat ⟨#[9]⟩ lv w (by omega) (by show 1*lv<=_;omega));have a:eW ((⟨(zct (⟨#[9]⟩:ByteArray).data.toList lv).toArray⟩:ByteArray).size=lv):=za (by show(zct [9] lv).toArray.size=lv;rw[List.size_toArray,Lib.repeatL_length];simp);generalize(⟨(zct (⟨#[9]⟩:ByteArray).data.toList lv).toArray⟩:ByteArray)=s at*;have d:¬(9223372036854775807<1+s.size):=by have:=a.out;omega
 have c:¬(9223372036854775807<(⟨#[10]⟩:ByteArray).size+s.size):=d;go_enter Tryz.func215,Tryz.ntmps215;go_wp2_with (first|(go_at_call 234;refine b.out.mono ?_;rintro e w' ⟨rfl,f⟩));go_ret;refine⟨⟨_,rfl,?_⟩,f⟩;have:=a.out;rw[ByteArray.size_append];show 1+s.size<=2000;omega
def EmS(w0:ze)(b:Nat)(w:ze)(m:Nat)(W:ze):Prop:=(∃bs:List UInt8,bs.length<=m/\oM 156 5 w0.heap.size b (iC bs) W)/\Below w0.heap.size w W/\w.heap.size<=W.heap.size/\∀k,k<w.heap.size->k≠b->(∀(cs:Array zg)(fz:Nat×Nat),w.heap[k]?≠some (l4 cs 5 fz))->W.heap[k]?=w.heap[k]?
theorem EmS.step{w0 w W W':ze}{b m m':Nat}{bs:List UInt8}(h:EmS w0 b w m W)(h1:oJ 156 5 w0.heap.size b (.pointer (some ⟨b,0,none⟩)) (iC bs) W')(hl:bs.length<=m')(h2:Below w0.heap.size W W')(h3:∀k,k<W.heap.size->k≠b->(∀(cs:Array zg)(fz:Nat×Nat),W.heap[k]?≠some (l4 cs 5 fz))->W'.heap[k]?=W.heap[k]?):EmS w0 b w m' W':=by obtain⟨_,d,c,a⟩:=h;refine⟨⟨bs,hl,.inr h1⟩,d.trans h2,zI c h2.size,λk hk hb hc=>?_⟩;have e:=a k hk hb hc;rw[<-e];exact h3 k (by omega) hb (by rw[e];exact hc)
theorem RK (w0 : ze) (b l P c : Nat) (gap word : ByteArray) (w : ze) (h : PrS w0 b l P c w) (hg : gap.size ≤ 2000000) (hw : word.size ≤ 2000000) (h5 : c ≤ 5000) :
    zM Tryz.prog 118 #[.string gap, .string word, .pointer (some ⟨l, 0, none⟩), .pointer (some ⟨b, 0, none⟩)] w fun e w' => e = .returned (.tuple #[]) ∧ PrS w0 b l P (c + 1) w' ∧ Fr w0.heap.size b l w.heap.size w w' := by
  obtain ⟨d, n, B⟩ := h.lo
  obtain ⟨ab, G, y⟩ := h.lt
  obtain ⟨O, M, i⟩ := h.ne
  obtain ⟨s, hs, a⟩ := h.last
  have hA := h.bel.size
  have C : ∀ (cs : Array zg) (fz : Nat × Nat), w.heap[l]? ≠ some (l4 cs 5 fz) := fun cs fz e => by
    rw [a] at e
    injection e with e
    injection e with _ e
    exact absurd e (by decide)
  have D : EmS w0 b w (4000001 * c) w := ⟨h.bld, zt _ _, zn _, fun _ _ _ _ => rfl⟩
  have f : eW (∀ m W, EmS w0 b w m W → W.heap[l]? = some (.cells #[.string s] 9 (0, 0))) := za fun m W hE => (hE.2.2.2 l G (fun e => i e.symm) C).trans a
  have V : eW (∀ m W, EmS w0 b w m W → m ≤ 40000000000 → zM Tryz.prog 121 #[.pointer (some ⟨b, 0, none⟩), .int .u8 32] W fun e w' => (∃ v, e = .returned v) ∧ EmS w0 b w (m + 1) w') := za fun m W hE hm => by
    obtain ⟨F, S, N⟩ := hE.1
    refine (Pc _ b F W N (by omega) (by have := hE.2.2.1; omega) d).mono ?_
    rintro e w' ⟨H, Z, h5, h6⟩
    exact ⟨H, hE.step Z (by simp; omega) h5 h6⟩
  have L : eW (∀ m W (x : ByteArray), EmS w0 b w m W → m ≤ 40000000000 → x.size ≤ 2000000 → zM Tryz.prog 122 #[.pointer (some ⟨b, 0, none⟩), .string x] W fun e w' => (∃ v, e = .returned v) ∧ EmS w0 b w (m + x.size) w') := za fun m W x hE hm hx => by
    obtain ⟨F, S, N⟩ := hE.1
    refine (Q5 _ b F x W N (by omega) (by have := hE.2.2.1; omega) d).mono ?_
    rintro e w' ⟨H, Z, h5, h6⟩
    exact ⟨H, hE.step Z (by rw [zT, ← zej]; omega) h5 h6⟩
  have I : eW (∀ m W, EmS w0 b w m W → m ≤ 4000001 * (c + 1) → PrS w0 b l P (c + 1) (W.setCell ⟨l, 0, none⟩ (.string word)) ∧ Fr w0.heap.size b l w.heap.size w (W.setCell ⟨l, 0, none⟩ (.string word))) := za fun m W hE hm => by
    have J := f.out m W hE
    have g := yn W l 0 (.string word)
    obtain ⟨⟨F, g0, t⟩, g2, g3, g4⟩ := hE
    have A : W.heap[P]? = _ := (g4 P y O (fun cs fz e => by
      rw [h.fn] at e
      injection e with e
      injection e with _ e
      exact absurd e (by decide))).trans h.fn
    have j : Below w0.heap.size w (W.setCell ⟨l, 0, none⟩ (.string word)) := yd g2 g (fun k e => by cases e; exact n) (by omega)
    refine ⟨⟨h.lo, h.bel.trans j, ⟨F, by omega, ?_⟩, ⟨word, hw, zA W l 0 _ _ _ J⟩, (g.block P (yz A) (fun e => by cases e; exact M rfl)).trans A⟩, j, fun k hk S N H => (g.block k (by omega) (fun e => by cases e; exact N rfl)).trans (g4 k hk S H)⟩
    obtain ⟨p, v, T⟩ := CJ t
    have e1 := g.block b (yz T) (fun e => by cases e; exact i rfl)
    have R : ∀ (k : Nat) (cs : Array zg) (fz : Nat × Nat), W.heap[k]? = some (l4 cs 5 fz) → (W.setCell ⟨l, 0, none⟩ (.string word)).heap[k]? = W.heap[k]? := fun k cs fz e => g.block k (yz e) (by
      intro R
      cases R
      rw [J] at e
      injection e with e
      injection e with _ e
      exact absurd e (by decide))
    rcases t with t | t
    · exact .inl (Dk t e1 R)
    · exact .inr (Dk t e1 R)
  have U := za (Ra s word w (by omega))
  have Y := za (EP gap ⟨#[47]⟩ w (by omega) (by decide))
  have ah : w.cell? ⟨l, 0, none⟩ = _ := zV w l 0 _ _ _ a
  have E := za D
  have HG := za hg
  have HW := za hw
  clear D a C h d n B hA
  go_enter Tryz.func118, Tryz.ntmps118
  go_wp2_with (first | (go_at_call 119; refine U.out.mono ?_; rintro e w' ⟨⟨cg, rfl⟩, r⟩; rw [r]) | (go_at_call 120; refine Y.out.mono ?_; rintro e w' ⟨rfl, r⟩; rw [r]))
  all_goals
    first
      | (go_at_call 121
         refine (V.out _ _ E.out (by omega)).mono ?_
         rintro e w1 ⟨⟨v9, rfl⟩, q⟩
         go_wp2_with fail)
      | have q := E.out
    refine (L.out _ _ gap q (by omega) HG.out).mono ?_
    rintro e w2 ⟨⟨v8, rfl⟩, Q⟩
    clear q
    go_wp2_with fail
    refine (L.out _ _ word Q (by omega) HW.out).mono ?_
    rintro e X ⟨⟨v7, rfl⟩, z⟩
    clear Q
    have o := f.out _ _ z
    have x9 : X.cell? ⟨l, 0, none⟩ = _ := zV X l 0 _ _ _ o
    have f9 := zk X l 0 _ _ o
    clear o
    go_wp2
    go_end0
    exact ⟨rfl, I.out _ _ z (by omega)⟩
theorem Tk:(Tryz.prog.info? 22).map (λi=>(i.zero,i.size,i.bytes))=some (some (.slice none 0 0),1,24):=by kernel_rfl
def Df(V:Ver)(id:Int):List ByteArray:=((V id).map Dl.g).getD []
theorem Om(c n pi P N base:Nat)(V:Ver)(id:Int)(u:zg)(xs:List zg)(w0 w:ze)(hV:yV w0 c n V)(hw0:Below w0.heap.size w0 w)(hP0:w0.heap.size<=P)(hi:w.cell? ⟨pi,0,none⟩=some (.int .i64 id))(hpi:pi<P)(hf:yw id)(hP:w.heap[P]?=some (.cells #[u] 151 (0,0)))(hu:w.ownsRow base 22 1 u N xs)(hPb:P<base)(hbw:base<=w.heap.size)(hN:N<=3):zM Tryz.prog 114 #[.map (some c),.pointer (some ⟨pi,0,none⟩),.pointer (some ⟨P,0,none⟩)] w λe w'=>∃gv u',e=.returned gv/\yI w0 gv (Df V id)/\w'.heap[P]?=some (.cells #[u'] 151 (0,0))/\w'.ownsRow base 22 1 u' (N+if(V id).isSome then 1 else 0) (xs++if(V id).isSome then[gv]else[])/\Below P w w':=by
 obtain⟨is,Z,R,O,Q⟩:=iY Tk;obtain⟨y,U,F,kp,kc,h1,h2,_,h4⟩:=hV.look_all hf;have D:=hV.lt;have B:Df V id=y.g:=by unfold Df;rw[h4];cases V id<;>rfl
 have HL:eW (yI w0 (.slice U y.g.length F) (Df V id)):=za (by rw[B];exact h2);have E:eW (∀W,Below w0.heap.size w0 W->(ec 62 (.map (some c)) (.int .i64 id) false).run Tryz.prog W=.ok (Dh y U F kp kc) W):=za λW hW=>(h1 W (hW.block _ D)).1;have HV:=za (DG c n V id w (hV.below hw0) hf);have ak:=WR;have H:=yz hP;have HP:=za hP;have HU:=za hu;have m:=za hw0;have HI:=za hi;have af:P≠pi:=by omega
 have I:pi≠P:=by omega
 generalize hq:(V id).isSome=q at*;clear h1 h2 h4 B hV hP hu hw0;obtain⟨pu,cu,rfl⟩:=yq HU.out;go_enter Tryz.func114,Tryz.ntmps114;go_wp2_with fail;refine HV.out.mono ?_;rintro e z ⟨rfl,d⟩;have Y:=(d.cell (p:=⟨pi,0,none⟩) (by show pi<_;omega)).trans HI.out;have C:=(d.block P H).trans HP.out;have J:=E.out z (m.out.trans (d.mono m.out.size));dsimp only[Dh]at J;have v:=za C;have i:=za d;have T:=d.size;clear hi C d;have c2:z.cell? ⟨P,0,none⟩=_:=zV z P 0 _ _ _ v.out;have A:=yy HU.out i.out;have l:=za A;clear A;cases q with
 |false=>go_wp2;go_ret;exact⟨_,rfl,HL.out,_,v.out,by simpa using l.out,i.out.mono (by omega)⟩
 |true=>
  go_wp2_with (at_builtin;refine ew _ rfl _ _ 151 rfl base 22 is (.slice none 0 0) 1 24 Tryz.underlying151 Z R O Q rfl (by decide) _ N xs rfl (zy l.out _) ⟨z.heap.size,0,none⟩ 1 1 [.slice U y.g.length F] rfl rfl (AR _ _ _) (by simp[ej]) (by simp[maxLen];omega) (by omega) (zI hbw (zI T (ya _).size)) ?_;intro v' o a b M;obtain⟨r,t,rfl⟩:=yq a;have f:o.heap[P]?=some (.cells #[.slice pu N cu] 151 (0,0)):=(b.block P (by simp;omega) (λe=>by have:=yf l.out P e.symm;omega)).trans (((ya (w:=z) _).block P (by omega)).trans v.out);have x6:o.cell? ⟨P,0,none⟩=_:=zV o P 0 _ _ _ f;have f6:=zk o P 0 _ _ f;have X:=za f;clear f;have j:Below P z o:=yd ((ya _).mono (by omega)) b (λk hk=>by have:=yf l.out k hk;omega) (by simp;omega);have i6:=(j.cell (p:=⟨pi,0,none⟩) hpi).trans Y;have ap:=j.size;have x:=yn o P 0 (.slice r (N+1) t);have s:Below P z (o.setCell ⟨P,0,none⟩ (.slice r (N+1) t)):=yd j x (λk e=>by cases e;exact zn _) (by omega);have S:=E.out _ ((m.out.trans (i.out.mono m.out.size)).trans (s.mono hP0));dsimp only[Dh]at S;have G:=za s;have L:=za x;clear j x s);go_wp2;go_ret;refine⟨_,rfl,HL.out,_,zA o _ 0 _ _ _ X.out,?_,(i.out.mono (by omega)).trans G.out⟩;simp only[if_true];exact zF a L.out (by
   cases h:(eU r (N+1) t).ownBlock with
   |none=>exact .inl rfl
   |some k=>exact .inr λe=>by have:=yf a k h;cases e;omega)
theorem Fr.row{A b l B s n:Nat}{e:zL}{v:zg}{xs:List zg}{w w':ze}(hF:Fr A b l w.heap.size w w')(ho:w.ownsRow B e s v n xs)(he:e≠5)(hb:b<B)(hl:l<B):w'.ownsRow B e s v n xs:=by
 refine⟨ho.1,?_⟩;rcases ho.2 with h|⟨g,f,d,j,i,a,c⟩
 .exact .inl h
 .refine .inr ⟨g,f,d,j,i,(hF.keep g (yz a) (by omega) (by omega) λcs fz e2=>?_).trans a,c⟩;rw[a]at e2;injection e2 with e2
  injection e2 with _ e2
  exact he e2
theorem Fr.box{A b l X:Nat}{w w':ze}{cs:Array zg}{t:zL}{fz:Nat×Nat}(hF:Fr A b l w.heap.size w w')(hX:w.heap[X]?=some (.cells cs t fz))(ht:t≠5)(h1:X≠b)(h2:X≠l):w'.heap[X]?=some (.cells cs t fz):=(hF.keep X (yz hX) h1 h2 λcs fz e2=>by
  rw[hX]at e2;injection e2 with e2
  injection e2 with _ e2
  exact ht e2).trans hX
theorem Dj{w:ze}{B s n g:Nat}{e:zL}{v:zg}{xs:List zg}(ho:w.ownsRow B e s v n xs)(hg:v.ownBlock=some g):∃cur,w.heap[g]?=some (.cells cur e (0,0)):=by
 rcases ho.2 with⟨h,_⟩|⟨d,b,cur,c,_,a,_⟩
 .rw[h]at hg;cases hg
 .rw[c]at hg;cases hg;exact⟨cur,a⟩
@[reducible]def FD (P:Nat) (t:T) (gv kv og ok:zg) (lv:Int):Array zg:=#[.pointer (some ⟨P,0,none⟩),.int .i64 t.k,.string t.s,gv,kv,.int .i64 t.k,.string t.s,og,ok,.int .i64 lv]
structure St(w0:ze)(b l P:Nat)(wN:ze)(X:Nat)(t:T)(gv kv:zg)(lv:Int)(nk c:Nat)(w:ze):Prop where
 pr:PrS w0 b l P c w
 fr:Fr w0.heap.size b l wN.heap.size wN w
 old:b<wN.heap.size/\l<wN.heap.size/\P<wN.heap.size
 lo:wN.heap.size<=X
 bas:w0.heap.size<=wN.heap.size
 wr:∃(ng:Nat)(og ok:zg)(xs ys:List zg),ng<=c/\w.heap[X]?=some (.cells (FD P t gv kv og ok lv) 192 (0,0))/\w.ownsRow wN.heap.size 9 1 og ng xs/\w.ownsRow wN.heap.size 25 4 ok nk ys
theorem St.mono{w0:ze}{b l P:Nat}{wN:ze}{X:Nat}{t:T}{gv kv:zg}{lv:Int}{nk c d:Nat}{w:ze}(h:St w0 b l P wN X t gv kv lv nk c w)(hd:c<=d):St w0 b l P wN X t gv kv lv nk d w:=by obtain⟨f,a,j,k,g,m,i⟩:=h.wr;exact⟨h.pr.mono hd,h.fr,h.old,h.lo,h.bas,f,a,j,k,g,by omega,i⟩
theorem St.push{w0:ze}{b l P:Nat}{wN:ze}{X:Nat}{t:T}{gv kv:zg}{lv:Int}{nk c:Nat}{w w6:ze}(h:St w0 b l P wN X t gv kv lv nk c w){cs:Array zg}(hX:w.heap[X]?=some (.cells cs 192 (0,0))){row:Option Nat}(hg:w.grownBy w6 row)(hr:∀k,row=some k->wN.heap.size<=k/\k≠X/\∀(cs:Array zg)(fz:Nat×Nat),w.heap[k]?≠some (l4 cs 5 fz))(j:Nat)(v:zg):PrS w0 b l P c (w6.setCell ⟨X,j,none⟩ v)/\Fr w0.heap.size b l wN.heap.size wN (w6.setCell ⟨X,j,none⟩ v)/\w6.heap[X]?=some (.cells cs 192 (0,0))/\∀k,k<w.heap.size->k≠X->row≠some k->(w6.setCell ⟨X,j,none⟩ v).heap[k]?=w.heap[k]?:=by
 have i:=h.fr.bel.size;have f:=h.lo;have n:=hg.size;have g:=yz hX;have a:∀k,k<w.heap.size->k≠X->row≠some k->(w6.setCell ⟨X,j,none⟩ v).heap[k]?=w.heap[k]?:=λk hk h1 h2=>((yn w6 X j v).block k (by omega) (λe=>by cases e;exact h1 rfl)).trans (hg.block k hk (λe=>h2 e.symm));have d:Below wN.heap.size w (w6.setCell ⟨X,j,none⟩ v):=yd (yd (zt _ _) hg (λk e=>(hr k e).1) (by omega)) (yn w6 X j v) (λk e=>by cases e;exact f) (by omega);refine⟨h.pr.of (d.mono h.bas) λk hk hc=>?_,h.fr.trans ⟨d.mono h.bas,λk hk _ _ _=>d.block k hk⟩,((hg.block X g λe=>(hr X e.symm).2.1 rfl).trans hX),a⟩;rcases hc with rfl|rfl|rfl|⟨m,fz,e⟩
 .exact d.block _ h.old.1
 .exact d.block _ h.old.2.1
 .exact d.block _ h.old.2.2
 .refine a k hk (λe1=>?_) λe1=>(hr k e1).2.2 _ _ e;subst e1;rw[hX]at e;injection e with e
  injection e with _ e
  exact absurd e (by decide)
theorem QW(w0:ze)(b l P:Nat)(wN:ze)(X:Nat)(t:T)(gv kv:zg)(lv:Int)(nk c:Nat)(canon word:ByteArray)(w:ze)(h:St w0 b l P wN X t gv kv lv nk c w)(hl:yI w0 gv t.g)(hgs:∀x∈t.g,x.size<=2000000)(hc:canon.size<=2000000)(hwd:word.size<=2000000)(h5:c<=5000):zM Tryz.prog 179 #[.pointer (some ⟨X,0,none⟩),.string canon,.string word] w λe w'=>e=.returned (.tuple #[])/\St w0 b l P wN X t gv kv lv nk (c+1) w':=by
 obtain⟨is,hi,J,I,O⟩:=iY Ma;obtain⟨j,og,ok,U,ys,ab,A,n,y⟩:=h.wr;obtain⟨Q,G,rfl⟩:=yq n;obtain⟨R,H,rfl⟩:=yq y;obtain⟨pg,cg,rfl⟩:=(hl.below (w:=w0) (wr:=w) h.pr.bel).slice;have D:=hl.below h.pr.bel;have az:=yz A;have am:=h.lo;obtain⟨o1,o2,o3⟩:=h.old;have a3:=h.fr.bel.size;have x0:w.cell? ⟨X,0,none⟩=_:=zV w X 0 _ _ _ A;have x3:w.cell? ⟨X,3,none⟩=_:=zV w X 3 _ _ _ A;have x7:w.cell? ⟨X,7,none⟩=_:=zV w X 7 _ _ _ A;have L:eW (∀(o:ByteArray)(f:ze)(q:Option Addr)(p:Nat),o.size<=2000000->w.grownBy f (eU Q j G).ownBlock->f.ownsRow wN.heap.size 9 1 (.slice q (j+1) p) (j+1) (U++[.string canon])->f.heap[X]?=some (.cells (FD P t (.slice pg t.g.length cg) kv (.slice Q j G) (.slice R nk H) lv) 192 (0,0))/\f.cell? ⟨P,0,none⟩=some (.func (.func 118) #[] #[.pointer (some ⟨l,0,none⟩),.pointer (some ⟨b,0,none⟩)])/\zM Tryz.prog 118 #[.string o,.string word,.pointer (some ⟨l,0,none⟩),.pointer (some ⟨b,0,none⟩)] (f.setCell ⟨X,7,none⟩ (.slice q (j+1) p)) λe w'=>e=.returned (.tuple #[])/\St w0 b l P wN X t (.slice pg t.g.length cg) kv lv nk (c+1) w'):=za λo f q p hgp hg6 hr6=>by
  obtain⟨p1,p2,p3,p4⟩:=h.push A hg6 (λk e=>⟨yf n k e,λs=>by
    subst s;obtain⟨z,a⟩:=Dj n e;rw[A]at a;injection a with a
    injection a with _ a
    exact absurd a (by decide),λcs fz s=>by
    obtain⟨z,a⟩:=Dj n e;rw[a]at s;injection s with s;injection s with _ s;exact absurd s (by decide)⟩) 7 (.slice q (j+1) p)
  refine⟨p3,?_,?_⟩
  .have:f.heap[P]?=w.heap[P]?:=hg6.block P h.pr.lt.2.2 λe=>by have:=yf n P e.symm;omega
   simp only[World.cell?,this,h.pr.fn];rfl
  .refine(RK w0 b l P c o word _ p1 hgp hwd h5).mono ?_;rintro e w' ⟨rfl,q1,S⟩;have au:(f.setCell ⟨X,7,none⟩ (.slice q (j+1) p)).heap.size=f.heap.size:=by simp
   have an:=hg6.size;have ac:=zA f X 7 _ _ (.slice q (j+1) p) p3;have aa:(f.setCell ⟨X,7,none⟩ (.slice q (j+1) p)).ownsRow wN.heap.size 9 1 (.slice q (j+1) p) (j+1) (U++[.string canon]):=zF hr6 (yn f X 7 _) (by
    cases e:(eU q (j+1) p).ownBlock with
    |none=>exact .inl rfl
    |some g=>
     right;intro s;cases s;obtain⟨z,a⟩:=Dj hr6 e;rw[p3]at a;injection a with a
     injection a with _ a
     exact absurd a (by decide))
   have W:(f.setCell ⟨X,7,none⟩ (.slice q (j+1) p)).ownsRow wN.heap.size 25 4 (.slice R nk H) nk ys:=by
    refine⟨y.1,?_⟩;rcases y.2 with h9|⟨g,Y,z,hv,hg,a,M⟩
    .exact .inl h9
    .refine .inr ⟨g,Y,z,hv,hg,(p4 g (yz a) (λe=>?_) (λe=>?_)).trans a,M⟩
     .subst e;rw[A]at a;injection a with a
      injection a with _ a
      exact absurd a (by decide)
     .obtain⟨aj,d⟩:=Dj n e;rw[a]at d;injection d with d;injection d with _ d;exact absurd d (by decide)
   refine⟨rfl,q1,p2.trans (S.mono (by omega)),h.old,h.lo,h.bas,j+1,_,_,_,ys,by omega,S.box ac (by decide) (by omega) (by omega),S.row aa (by decide) (by omega) (by omega),S.row W (by decide) (by omega) (by omega)⟩
 have N:=za n;have al:X≠P:=by omega
 have a6:P≠X:=by omega
 have HN:=za ab;clear y h A n hl;by_cases Z:j<t.g.length
 .obtain⟨o,r⟩:∃g,t.g[j]?=some g:=⟨t.g[j],zc Z⟩
  obtain⟨bg,ax,rfl,a5,a0⟩:=D.at r;have C:=za (hgs o (List.mem_of_getElem? r));clear D r hgs;go_enter Tryz.func179,Tryz.ntmps179;go_wp2_with (at_builtin;refine ew _ rfl _ _ 22 rfl wN.heap.size 9 is (.string .empty) 1 16 Tryz.underlying22 hi J I O rfl (by decide) _ j U rfl (zy N.out _) ⟨w.heap.size,0,none⟩ 1 1 [.string canon] rfl rfl (AR _ _ _) (by simp[ej]) (by simp[maxLen];omega) (by omega) (by simp;omega) ?_;intro v' f i m B;obtain⟨q,p,rfl⟩:=yq i;obtain⟨v,y1,F⟩:=L.out o f q p C.out (yc (eQ _ _ _) m) i;have z0:f.cell? ⟨X,0,none⟩=_:=zV f X 0 _ _ _ v;have z7:f.cell? ⟨X,7,none⟩=_:=zV f X 7 _ _ _ v;have f7:=zk f X 7 _ _ v;have E:=za F;clear F v);refine E.out.mono ?_;rintro e w' ⟨rfl,V⟩;go_wp2;go_end0;exact⟨rfl,V⟩
 .clear D hgs;have C:=za hc;have ak:¬((t.g.length:Int)>(j:Int)):=by omega
  go_enter Tryz.func179,Tryz.ntmps179;go_wp2_with (at_builtin;refine ew _ rfl _ _ 22 rfl wN.heap.size 9 is (.string .empty) 1 16 Tryz.underlying22 hi J I O rfl (by decide) _ j U rfl (zy N.out _) ⟨w.heap.size,0,none⟩ 1 1 [.string canon] rfl rfl (AR _ _ _) (by simp[ej]) (by simp[maxLen];omega) (by omega) (by simp;omega) ?_;intro v' f i m B;obtain⟨q,p,rfl⟩:=yq i;obtain⟨v,y1,F⟩:=L.out canon f q p C.out (yc (eQ _ _ _) m) i;have z0:f.cell? ⟨X,0,none⟩=_:=zV f X 0 _ _ _ v;have z7:f.cell? ⟨X,7,none⟩=_:=zV f X 7 _ _ _ v;have f7:=zk f X 7 _ _ v;have E:=za F;clear F v);refine E.out.mono ?_;rintro e w' ⟨rfl,V⟩;go_wp2;go_end0;exact⟨rfl,V⟩
end Go.Proofs
namespace Go.Cut
open Go
section
variable{P:Program}
def Xs(l:List Oper)(n:Nat):Bool:=
 decide (n<=l.length)&&(ev l.length).all λi=>match l[i]?with
  |none=>true
  |some o=>if n<=i then(ev n).all λq=>o.after.toList.any λe=>(e.on==q)&&zR .any e else(o.after.toList.all λe=> !zR .any e||decide (e.on<i))&&(match o.guard with|none=>true|some jb=>decide (jb.1<n))
theorem RU{l:List Oper}{n:Nat}(h:Xs l n=true):Rw l.toArray n:=by
 unfold Xs at h;rw[zo,decide_eq_true_eq]at h;have c:∀i o,l[i]?=some o->(if n<=i then(ev n).all λq=>o.after.toList.any λe=>(e.on==q)&&zR .any e else(o.after.toList.all λe=> !zR .any e||decide (e.on<i))&&(match o.guard with|none=>true|some jb=>decide (jb.1<n)))=true:=λi o ho=>by have d:i<l.length:=(zm.1 ho).1;have a:=iu.1 h.2 i (lD.2 d);rw[ho]at a;exact a
 refine⟨by simpa using h.1,λi o d ho q hq=>?_,λi o d ho e he hb=>?_,λi o j b d ho hg=>?_⟩
 .have a:=c i o (by simpa using ho);rw[if_pos d]at a;have g:=iu.1 a q (lD.2 hq);obtain⟨e,k,f⟩:=List.any_eq_true.1 g;rw[zo,beq_iff_eq]at f;exact⟨e,by simpa using k,f.1,f.2⟩
 .have a:=c i o (by simpa using ho);rw[if_neg (by omega),zo]at a;have:=iu.1 a.1 e (by simpa using he);rw[hb]at this;simpa using this
 .have a:=c i o (by simpa using ho);rw[if_neg (by omega),zo,hg]at a;simpa using a.2
theorem Fu:∀(n k:Nat)(l:Array Bool)(i:Nat),k+n<=l.size->(A4 k n l)[i]?=if k<=i/\i<k+n then some true else l[i]?
 |0,k,l,i,_=>by rw[A4,if_neg (by omega)]
 |n+1,k,l,i,h=>by
  rw[A4,Fu n (k+1) _ i (by simp;omega),Array.getElem?_setIfInBounds];by_cases e:k=i
  .subst e;rw[if_neg (by omega),if_pos rfl,if_pos (by omega),if_pos (by omega)]
  .rw[if_neg e];by_cases h1:k+1<=i/\i<k+1+n
   .rw[if_pos h1,if_pos (by omega)]
   .rw[if_neg h1,if_neg (by omega)]
theorem wp_region_split_reads{id:Nat}{Q:Exit->Act->ze->Prop}{a:Act}{w:ze}{l:List Oper}(n m:Nat)(S:ze->Prop)(hm:P.follows .mixedOrders=true)(hB:(Xs l n&&decide (m<=n)&&Region.noSelect (l.take n).toArray&&M8 (l.take n).toArray 0 m (eD n false))=true)(hQ:∀(d:Tmp)(v:zg) c a w,Q (.panic c) (a.put (some d) v) w->Q (.panic c) a w)(hS:S w.drew)(h:S w.drew->La P (l.take n).toArray S (λa'=>wpAnyH P .any (l.take n).toArray (ef (λa' w'=>∀f',l.length-n<=f'->wpAnyH P .any l.toArray Q (λ_=>True) f' (A4 0 n (eD l.length false)) a' w') Q) S (n-m) (A4 0 m (eD n false)) a' w.drew) (l.take m) a):(Code.region id l.toArray true).wp P Q a w:=by
 simp only[zo,decide_eq_true_eq]at hB;obtain⟨⟨⟨s,q⟩,y⟩,x⟩:=hB;have g:=RU s;have t:n<=l.length:=by simpa using g.le
 refine wp_region_any hm ?_;rw[<-Gj Q];have p:l.toArray.extract 0 n=(l.take n).toArray:=by simp
 refine Ea g n _ (eD l.toArray.size false) (eD n false) a _ ⟨by simp,by simp,λi o=>?_,λi s q=>?_⟩ (by simp;omega) ?_
 .rw[iE,iE,if_pos (by simp;omega),if_pos o]
 .rw[iE,if_pos q]
 .rw[p];refine wpAny_of_held (S:=S) _ _ _ _ ?_;have e:(ef (λa w=>∀f'(l':Array Bool),(∀i,i<n->l'[i]?=some true)->(∀i,n<=i->i<l.toArray.size->l'[i]?=some false)->l'.size=l.toArray.size->l.toArray.size-n<=f'->wpAny P .any l.toArray (ef (Q .normal) Q) f' l' a w) Q)=ef (λa w=>∀f'(l':Array Bool),(∀i,i<n->l'[i]?=some true)->(∀i,n<=i->i<l.toArray.size->l'[i]?=some false)->l'.size=l.toArray.size->l.toArray.size-n<=f'->wpAny P .any l.toArray Q f' l' a w) Q:=by rw[Gj]
  rw[e];have b:(l.take m).length=m:=by simp;omega
  have k:=Ey (P:=P) (ops:=(l.take n).toArray) (S:=S) (Q:=ef (λa' w'=>∀f',l.length-n<=f'->wpAnyH P .any l.toArray Q (λ_=>True) f' (A4 0 n (eD l.length false)) a' w') Q) y (λd v c a w hq=>by
   cases d with
   |none=>exact hq
   |some d=>exact hQ d v c a w hq) (l.take m) 0 (n-m) (eD n false) a w.drew (λj hj=>by
   rw[b]at hj;simp;rw[lh (by omega),lh (by omega)]) (by rw[b];exact x) hS (by rw[b];exact h hS)
  rw[b,Nat.sub_add_cancel q]at k;refine wpAnyH_then (λa' w' hL f' l' g1 g2 g3 g4=>?_) _ _ _ _ k;have r:l'=A4 0 n (eD l.length false):=by
   apply Array.ext_getElem?;intro i;rw[Fu n 0 _ i (by simp;omega)];by_cases o:i<n
   .rw[if_pos (by omega),g1 i o]
   .rw[if_neg (by omega),iE];by_cases f:i<l.length
    .rw[if_pos f,g2 i (by omega) (by simpa using f)]
    .rw[if_neg f,Array.getElem?_eq_none (by rw[g3];simpa using f)]
  rw[r];exact wpAny_of_held (S:=λ_=>True) _ _ _ _ (hL f' (by simpa using g4))
end
end Go.Cut
namespace Go.Proofs
open Go.RowKit Go.Maps Go.MapKept
open Classical
def Qz(w0:ze)(b l P:Nat)(u:T):Prop:=∀(gv kv:zg)(lead:ByteArray)(lv c:Nat)(w:ze),PrS w0 b l P c w->u.Lies w0 gv kv->lead.size<=2000->lv+u.size<=1000->c+8*u.size<=5000->zM Tryz.prog 123 #[.pointer (some ⟨P,0,none⟩),yJ u.k u.s gv kv,.string lead,.int .i64 lv] w λe w'=>∃pg ng cg pk nk ck,e=.returned (yJ u.k u.s (.slice pg ng cg) (.slice pk nk ck))/\PrS w0 b l P (c+8*u.size-1) w'/\Fr w0.heap.size b l w.heap.size w w'
@[reducible]def Xk (X P B bk off nk lv:Nat) (u:T) (lead:ByteArray) (kn ck:Nat) (pok:Option Addr) (cok:Nat) (pgu:Option Addr) (cgu:Nat) (pku:Option Addr) (cku:Nat) (v33 v35:zg):Act:={tmps:=#[.pointer (some ⟨X,0,none⟩),.string lead,zl,zl,.pointer (some ⟨B,0,none⟩),.pointer (some ⟨X,0,none⟩),.pointer (some ⟨X,0,none⟩),.pointer (some ⟨X,1,none⟩),.pointer (some ⟨X,4,none⟩),.slice (some ⟨bk,off,none⟩) kn ck,.pointer (some ⟨X,0,none⟩),.pointer (some ⟨X,0,none⟩),.pointer (some ⟨X,5,none⟩),.pointer (some ⟨X,8,none⟩),.slice pok nk cok,.int .i64 (nk:Int),.pointer (some ⟨bk,off+nk*4,none⟩),yJ u.k u.s (.slice pgu u.g.length cgu) (.slice pku u.ks.length cku),.pointer (some ⟨X,0,none⟩),.pointer (some ⟨X,0,none⟩),.pointer (some ⟨X,5,none⟩),.pointer (some ⟨X,8,none⟩),.slice pok nk cok,.pointer (some ⟨X,0,none⟩),.pointer (some ⟨X,0,none⟩),.pointer (some ⟨X,0,none⟩),.pointer (some ⟨P,0,none⟩),yJ u.k u.s (.slice pgu u.g.length cgu) (.slice pku u.ks.length cku),.string lead,.pointer (some ⟨X,0,none⟩),.pointer (some ⟨X,0,none⟩),.pointer (some ⟨X,9,none⟩),.int .i64 (lv:Int),v33,.int .i64 (nk:Int),v35,zl,zl,zl,zl,zl],defers:=[]}
theorem Rb(w0:ze)(b l P:Nat)(wN:ze)(X:Nat)(t u:T)(gv kv:zg)(lv nk c:Nat)(lead:ByteArray)(w:ze)(h:St w0 b l P wN X t gv kv lv nk c w)(hk:Bq w0 kv t.ks)(hu:t.ks[nk]?=some u)(HN:Qz w0 b l P u)
  (hld:lead.size<=2000)(hlv:lv+u.size<=1000)(h5:c+8*u.size<=5000)(h300:t.ks.length<=1000):
  zM Tryz.prog 181 #[.pointer (some ⟨X,0,none⟩),.string lead] w λe w'=>e=.returned (.tuple #[])/\St w0 b l P wN X t gv kv lv (nk+1) (c+8*u.size-1) w':=by
 obtain⟨ci,cn,cb,ca,ce⟩:=iY Mn
 obtain⟨ng,og,ok,xs,ys,fb,hX,av,a7⟩:=h.wr
 obtain⟨ch,b8,rfl⟩:=yq av
 obtain⟨M,L,rfl⟩:=yq a7
 obtain⟨pk,ck,rfl⟩:=hk.slice
 obtain⟨I,f,rfl,b5,gu,ku,f0,f1,f2,f3,am⟩:=hk.at hu
 obtain⟨z,G,rfl⟩:=am.gaps.slice
 obtain⟨A,C,rfl⟩:=am.kids.slice
 have a6:=yz hX
 have aw:=h.lo
 obtain⟨o1,o2,o3⟩:=h.old
 have cg:=h.fr.bel.size
 have ab:=h.bas
 have dv:nk<t.ks.length:=(zm.1 hu).1
 have bh:eW (∀V,Below w.heap.size w V->V.cell? ⟨X,0,none⟩=some (.pointer (some ⟨P,0,none⟩))/\V.cell? ⟨X,4,none⟩=some (.slice (some ⟨I,f,none⟩) t.ks.length ck)/\V.cell? ⟨X,8,none⟩=some (.slice M nk L)/\V.cell? ⟨X,9,none⟩=some (.int .i64 lv)/\
   V.cell? ⟨I,f+nk*4,none⟩=some (.int .i64 u.k)/\V.cell? ⟨I,f+nk*4+1,none⟩=some (.string u.s)/\V.cell? ⟨I,f+nk*4+2,none⟩=some (.slice z u.g.length G)/\V.cell? ⟨I,f+nk*4+3,none⟩=some (.slice A u.ks.length C)):=za λV hV=>by
  have hc:∀i,V.cell? ⟨X,i,none⟩=w.cell? ⟨X,i,none⟩:=λi=>hV.cell (p:=⟨X,i,none⟩) a6
  have hd:∀i,V.cell? ⟨I,i,none⟩=w0.cell? ⟨I,i,none⟩:=λi=>(hV.cell (p:=⟨I,i,none⟩) (by show I<_;omega)).trans (h.pr.bel.cell (p:=⟨I,i,none⟩) b5)
  refine⟨(hc 0).trans (zV w X 0 _ _ _ hX),(hc 4).trans (zV w X 4 _ _ _ hX),(hc 8).trans (zV w X 8 _ _ _ hX),(hc 9).trans (zV w X 9 _ _ _ hX),(hd _).trans f0,(hd _).trans f1,(hd _).trans f2,(hd _).trans f3⟩
 have Z:=bh.out w.drew (zt _ _).drew
 have HH:=za h
 have HX:=za hX
 have bf:=za a7
 have cd:=za av
 clear h hX a7 av f0 f1 f2 f3 hk hu
 go_enter Tryz.func181,Tryz.ntmps181
 go_wp2
 refine Cut.wp_region_cut_reads 14 13 (λV=>V.cell? ⟨X,0,none⟩=some (.pointer (some ⟨P,0,none⟩))/\V.cell? ⟨X,4,none⟩=some (.slice (some ⟨I,f,none⟩) t.ks.length ck)/\V.cell? ⟨X,8,none⟩=some (.slice M nk L)/\V.cell? ⟨X,9,none⟩=some (.int .i64 lv)/\
   V.cell? ⟨I,f+nk*4,none⟩=some (.int .i64 u.k)/\V.cell? ⟨I,f+nk*4+1,none⟩=some (.string u.s)/\V.cell? ⟨I,f+nk*4+2,none⟩=some (.slice z u.g.length G)/\V.cell? ⟨I,f+nk*4+3,none⟩=some (.slice A u.ks.length C)) (by kernel_rfl) (by kernel_rfl) (λ_ _ _ _ _ h=>h) Z (λhHeld=>?_)
 simp only[zag,zak,List.drop_succ_cons,List.drop_zero]
 iterate 13
  refine⟨?_,.inl ⟨by rfl,?_⟩,?_⟩
  rotate_left
  .intro V ae;(try dsimp only at ae);go_simp;(try with_reducible rfl)
  try simp only[z8,zf,zi,zj]
 refine zG (rs:=[13]) (by kernel_rfl) (by simp) ?_
 refine zv rfl (λK hK=>?_) zC
 go_simp
 have ay:Below w.heap.size w (w.alloc (.cells #[.int .i64 0,.string ⟨#[]⟩,.slice none 0 0,.slice none 0 0] 25)).drew:=(ya _).drew
 refine hK.out _ _ (bh.out _ ay) (λ_=>?_)
 clear hK K Z hHeld
 refine lF (by kernel_rfl) ?_ _
 dsimp only[ef]
 try simp only[z8,zf,zi,zj]
 have dk:(w.alloc (.cells #[.int .i64 0,.string ⟨#[]⟩,.slice none 0 0,.slice none 0 0] 25)).drew.heap.size=w.heap.size+1:=by show(w.alloc _).heap.size=_;simp
 have N:(w.alloc (.cells #[.int .i64 0,.string ⟨#[]⟩,.slice none 0 0,.slice none 0 0] 25)).drew.heap[w.heap.size]?=some (.cells #[.int .i64 0,.string ⟨#[]⟩,.slice none 0 0,.slice none 0 0] 25 (0,0)):=zx w _
 generalize(w.alloc (.cells #[.int .i64 0,.string ⟨#[]⟩,.slice none 0 0,.slice none 0 0] 25)).drew=w1 at*
 obtain⟨a0,a1,a2,a3⟩:=yi N
 have g0:=zk w1 w.heap.size 0 _ _ N
 have g1:=zk w1 w.heap.size 1 _ _ N
 have g2:=zk w1 w.heap.size 2 _ _ N
 have g3:=zk w1 w.heap.size 3 _ _ N
 go_wp2
 have az:=AT w1 w.heap.size (.int .i64 u.k) (.string u.s) (.slice z u.g.length G) (.slice A u.ks.length C)
 have bz:=AO w1 w.heap.size 25 _ _ _ _ (.int .i64 u.k) (.string u.s) (.slice z u.g.length G) (.slice A u.ks.length C) N
 have Y:Below w.heap.size w ((((w1.setCell ⟨w.heap.size,0,none⟩ (.int .i64 u.k)).setCell ⟨w.heap.size,1,none⟩ (.string u.s)).setCell ⟨w.heap.size,2,none⟩ (.slice z u.g.length G)).setCell ⟨w.heap.size,3,none⟩ (.slice A u.ks.length C)):=yd ay az (λk e=>by cases e;exact zn _) (by omega)
 have dw:=az.size
 generalize((((w1.setCell ⟨w.heap.size,0,none⟩ (.int .i64 u.k)).setCell ⟨w.heap.size,1,none⟩ (.string u.s)).setCell ⟨w.heap.size,2,none⟩ (.slice z u.g.length G)).setCell ⟨w.heap.size,3,none⟩ (.slice A u.ks.length C))=w2 at*
 clear N ay az a0 a1 a2 a3 g0 g1 g2 g3
 have bo:=za (HH.out.pr.below Y)
 have ag:eW (∀V,Fr w0.heap.size b l w2.heap.size w2 V->V.cell? ⟨X,0,none⟩=some (.pointer (some ⟨P,0,none⟩))/\V.cell? ⟨X,8,none⟩=some (.slice M nk L)/\V.cell? ⟨X,9,none⟩=some (.int .i64 lv)/\
   V.cell? ⟨w.heap.size,0,none⟩=some (.int .i64 u.k)/\V.cell? ⟨w.heap.size,1,none⟩=some (.string u.s)/\V.cell? ⟨w.heap.size,2,none⟩=some (.slice z u.g.length G)/\V.cell? ⟨w.heap.size,3,none⟩=some (.slice A u.ks.length C)):=za λV hV=>by
  have ba:=hV.box ((Y.block X a6).trans HX.out) (by decide) (by omega) (by omega)
  obtain⟨b0,b1,b2,b3⟩:=yi (hV.box bz (by decide) (by omega) (by omega))
  exact⟨zV V X 0 _ _ _ ba,zV V X 8 _ _ _ ba,zV V X 9 _ _ _ ba,b0,b1,b2,b3⟩
 have bd:Fr w0.heap.size b l w2.heap.size w2 w2.drew:=⟨(zt _ _).drew,λ_ _ _ _ _=>rfl⟩
 have Z:=ag.out _ bd
 refine Cut.wp_region_split_reads 18 15 (λV=>V.cell? ⟨X,0,none⟩=some (.pointer (some ⟨P,0,none⟩))/\V.cell? ⟨X,8,none⟩=some (.slice M nk L)/\V.cell? ⟨X,9,none⟩=some (.int .i64 lv)/\
   V.cell? ⟨w.heap.size,0,none⟩=some (.int .i64 u.k)/\V.cell? ⟨w.heap.size,1,none⟩=some (.string u.s)/\V.cell? ⟨w.heap.size,2,none⟩=some (.slice z u.g.length G)/\V.cell? ⟨w.heap.size,3,none⟩=some (.slice A u.ks.length C)) (by kernel_rfl) (by kernel_rfl) (λ_ _ _ _ _ h=>h) Z (λhHeld=>?_)
 simp only[zag,zak]
 iterate 15
  refine⟨?_,.inl ⟨by rfl,?_⟩,?_⟩
  rotate_left
  .intro V ae;(try dsimp only at ae);go_simp;(try with_reducible rfl)
  try simp only[z8,zf,zi,zj]
 refine zaY (i:=16) (v:=.int .i64 (nk:Int)) rfl (by kernel_rfl) (by kernel_rfl) (by kernel_rfl) (λ_ _ _ h=>h) (.inl ⟨by rfl,λV ae=>by(try dsimp only at ae);go_simp⟩) Z ?_
 try simp only[z8,zf,zi,zj]
 refine Cut.wpAnyH_then (K1:=λa' W=>∃g pg F D E H B,a'=Xk X P w.heap.size I f nk lv u lead t.ks.length ck M L z G A C (yJ u.k u.s (.slice pg F D) (.slice E H B)) (.slice (some ⟨g,0,none⟩) 1 1)/\
   PrS w0 b l P (c+8*u.size-1) W/\Fr w0.heap.size b l w2.heap.size w2 W/\w2.heap.size<=g/\W.heap[g]?=some (.cells #[.int .i64 0,.string ⟨#[]⟩,.slice none 0 0,.slice none 0 0] 25 (0,0))) (λa' W hR=>?_) _ _ _ _ ?_
 .obtain⟨g,pg,F,D,E,H,B,rfl,aj,o,d4,bx⟩:=hR
  intro f' hf
  obtain⟨kf,rfl⟩:∃kf,f'=kf+7:=⟨f'-7,by simp at hf;omega⟩
  clear hf Z hHeld
  have R:=o.box ((Y.block X a6).trans HX.out) (by decide) (by omega) (by omega)
  have J:=o.row (yy bf.out (Y.mono (zn _))) (by decide) (by omega) (by omega)
  have ah:=o.row (yy cd.out (Y.mono (zn _))) (by decide) (by omega) (by omega)
  have bp:Fr w0.heap.size b l wN.heap.size wN W:=HH.out.fr.trans ((Fr.new (w:=w) (by omega) cg Y).trans (o.mono (by omega)))
  have fc:w2.heap.size<=W.heap.size:=o.bel.size
  have b7:=za aj
  clear aj
  refine zG (rs:=[18]) (by kernel_rfl) (by simp) ?_
  refine zv rfl (λK hK=>?_) zC
  refine step_append_lies _ (by rfl) _ _ _ (by rfl) wN.heap.size 25 ci _ 4 72 Tryz.underlying23 cn cb ca ce rfl (by omega) (.slice M nk L) nk ys (by rfl) J
     ⟨g,0,none⟩ 1 1 [.int .i64 0,.string ⟨#[]⟩,.slice none 0 0,.slice none 0 0] (by rfl) (by rfl) (World.news_of_block (cs:=#[.int .i64 0,.string ⟨#[]⟩,.slice none 0 0,.slice none 0 0]) (t:=25) (fr:=(0,0)) bx) (by simp[ej])
     (by omega) (by simp[maxLen];omega) (by omega) (by omega) _ rfl ?_
  intro d U y n q a5 cv
  refine hK.out _ _ trivial (λ_=>?_)
  clear hK K
  try simp only[z8,zf,zi,zj]
  have dq:ys.length=nk*4:=bf.out.1
  have dt:=q.size
  have aa:(eU M nk L).ownBlock≠some X:=λe=>by
   obtain⟨a8,a⟩:=Dj J e
   rw[R]at a
   injection a with a
   injection a with _ a
   exact absurd a (by decide)
  have an:=(q.block X (yz R) (λe=>aa e.symm)).trans R
  have Q:d≠X:=λe=>by
   subst e
   rcases a5 with e|e
   .exact aa e
   .have:=yz R
    omega
  have du:X≠d:=λe=>Q e.symm
  have aq:wN.heap.size<=d:=yf n d rfl
  have ar:eW (∀(w9:ze)(zs:List zg),w9.heap[X]?=some (.cells (FD P t gv (.slice (some ⟨I,f,none⟩) t.ks.length ck) (.slice ch ng b8) (.slice (some ⟨d,0,none⟩) (nk+1) U) lv) 192 (0,0))->w9.ownsRow wN.heap.size 25 4 (.slice (some ⟨d,0,none⟩) (nk+1) U) (nk+1) zs->
    (∀k,k<y.heap.size->k≠X->k≠d->w9.heap[k]?=y.heap[k]?)->Below wN.heap.size y w9->St w0 b l P wN X t gv (.slice (some ⟨I,f,none⟩) t.ks.length ck) lv (nk+1) (c+8*u.size-1) w9):=za λw9 zs q1 q2 q3 q4=>by
   have cc:∀k,k<W.heap.size->k≠X->(eU M nk L).ownBlock≠some k->w9.heap[k]?=W.heap[k]?:=λk hk r1 r2=>(q3 k (by omega) r1 (λe=>by
    subst e
    rcases a5 with e|e
    .exact r2 e
    .omega)).trans (q.block k hk (λe=>r2 e.symm))
   have S:Below wN.heap.size W w9:=(yd (zt _ _) q (λk e=>yf J k e) (by omega)).trans q4
   have bn:∀(k:Nat)(cs:Array zg)(ty:zL)(fz:Nat×Nat),W.heap[k]?=some (l4 cs ty fz)->ty≠192->ty≠25->w9.heap[k]?=W.heap[k]?:=λk cs ty fz e r1 r2=>cc k (yz e) (λe2=>by
    subst e2
    rw[R]at e
    injection e with e
    injection e with _ e
    exact r1 e.symm) (λe2=>by
    obtain⟨a8,a⟩:=Dj J e2
    rw[a]at e
    injection e with e
    injection e with _ e
    exact r2 e.symm)
   refine⟨b7.out.of (S.mono ab) (λk hk hc=>?_),bp.trans ⟨S.mono ab,λk hk _ _ _=>S.block k hk⟩,⟨o1,o2,o3⟩,aw,ab,ng,_,_,xs,zs,by have:=T.size_pos u;omega,q1,⟨ah.1,?_⟩,q2⟩
   .rcases hc with rfl|rfl|rfl|⟨dy,fz,e⟩
    .exact S.block _ o1
    .exact S.block _ o2
    .exact S.block _ o3
    .exact bn k _ _ _ e (by decide) (by decide)
   .rcases ah.2 with h9|⟨g',bm,a8,hv,cf,a,bl⟩
    .exact .inl h9
    .exact .inr ⟨g',bm,a8,hv,cf,(bn g' _ _ _ a (by decide) (by decide)).trans a,bl⟩
  have c8:y.cell? ⟨X,8,none⟩=_:=zV y X 8 _ _ _ an
  have fX:=zk y X 8 _ _ an
  have m:∀i,i<4->y.cell? ⟨d,nk*4+i,none⟩=([.int .i64 0,.string ⟨#[]⟩,.slice none 0 0,.slice none 0 0]:List zg)[i]?:=λi hi=>by
   rw[ep n (nk*4+i) (by omega),en (by omega)]
   congr 1
   omega
  obtain⟨db,j⟩:=Dj n (g:=d) rfl
  have k0:y.cell? ⟨d,nk*4,none⟩=_:=m 0 (by omega)
  have k1:y.cell? ⟨d,nk*4+1,none⟩=_:=m 1 (by omega)
  have k2:y.cell? ⟨d,nk*4+2,none⟩=_:=m 2 (by omega)
  have k3:y.cell? ⟨d,nk*4+3,none⟩=_:=m 3 (by omega)
  have fe:=zk y d (nk*4) _ _ j
  have ds:=zk y d (nk*4+1) _ _ j
  have dh:=zk y d (nk*4+2) _ _ j
  have d7:=zk y d (nk*4+3) _ _ j
  have a9:=za an
  have bq:=za n
  clear an n m j R J ah q a5 aa bp
  refine zaY (i:=19) (v:=.pointer (some ⟨d,nk*4,none⟩)) rfl (by kernel_rfl) (by kernel_rfl) (by kernel_rfl) (λ_ _ _ h=>h) (.inl ⟨by rfl,λV _=>by go_simp;intro hh;omega⟩) trivial ?_
  try simp only[z8,zf,zi,zj]
  refine zaY (i:=21) (v:=.pointer (some ⟨X,0,none⟩)) rfl (by kernel_rfl) (by kernel_rfl) (by kernel_rfl) (λ_ _ _ h=>h) (.inl ⟨by rfl,λV _=>by go_simp⟩) trivial ?_
  try simp only[z8,zf,zi,zj]
  refine zaY (i:=22) (v:=.pointer (some ⟨X,5,none⟩)) rfl (by kernel_rfl) (by kernel_rfl) (by kernel_rfl) (λ_ _ _ h=>h) (.inl ⟨by rfl,λV _=>by go_simp⟩) trivial ?_
  try simp only[z8,zf,zi,zj]
  refine zaY (i:=23) (v:=.pointer (some ⟨X,8,none⟩)) rfl (by kernel_rfl) (by kernel_rfl) (by kernel_rfl) (λ_ _ _ h=>h) (.inl ⟨by rfl,λV _=>by go_simp⟩) trivial ?_
  try simp only[z8,zf,zi,zj]
  refine zG (rs:=[20,24]) (by kernel_rfl) (by simp) ?_
  refine zv rfl (λK hK=>?_) (zv rfl (λK hK=>?_) zC)
  .go_simp
   obtain⟨r1,e1⟩:=ii bq.out (nk*4) (.int .i64 u.k)
   obtain⟨r2,e2⟩:=ii r1 (nk*4+1) (.string u.s)
   obtain⟨r3,e3⟩:=ii r2 (nk*4+2) (.slice pg F D)
   obtain⟨r4,e4⟩:=ii r3 (nk*4+3) (.slice E H B)
   have x:=yc (yc (yc e1 e2) e3) e4
   generalize((((y.setCell ⟨d,nk*4,none⟩ (.int .i64 u.k)).setCell ⟨d,nk*4+1,none⟩ (.string u.s)).setCell ⟨d,nk*4+2,none⟩ (.slice pg F D)).setCell ⟨d,nk*4+3,none⟩ (.slice E H B))=w8 at*
   clear r1 r2 r3 e1 e2 e3 e4
   have O:=(x.block X (yz a9.out) (λe=>by cases e;exact Q rfl)).trans a9.out
   have dp:w8.cell? ⟨X,8,none⟩=_:=zV w8 X 8 _ _ _ O
   have di:=zk w8 X 8 _ _ O
   have b4:=x.size
   refine hK.out _ _ trivial (λ_=>?_)
   clear hK K
   try simp only[z8,zf,zi,zj]
   have ai:=za O
   have ac:=za x
   have cl:=za r4
   clear O x r4
   refine zG (rs:=[24]) (by kernel_rfl) (by simp) ?_
   refine zv rfl (λK hK=>?_) zC
   go_simp
   refine hK.out _ _ trivial (λ_=>?_)
   clear hK K
   refine lF (by kernel_rfl) ?_ _
   go_end0
   refine⟨rfl,ar.out _ _ (zA w8 X 8 _ _ _ ai.out) (zF cl.out (yn w8 X 8 _) (.inr (λe=>by cases e;exact Q rfl))) (λk hk q1 q2=>?_) ?_⟩
   .exact((yn w8 X 8 _).block k (by omega) (λe=>by cases e;exact q1 rfl)).trans (ac.out.block k hk (λe=>by cases e;exact q2 rfl))
   .exact yd (yd (zt _ _) ac.out (λk e=>by cases e;exact aq) (by omega)) (yn w8 X 8 _) (λk e=>by cases e;exact aw) (by omega)
  .go_simp
   refine hK.out _ _ trivial (λ_=>?_)
   clear hK K
   try simp only[z8,zf,zi,zj]
   have O:=zA y X 8 _ _ (.slice (some ⟨d,0,none⟩) (nk+1) U) a9.out
   have x:=yn y X 8 (.slice (some ⟨d,0,none⟩) (nk+1) U)
   have a4:=zF bq.out x (.inr (λe=>by cases e;exact Q rfl))
   have kc:∀i,(y.setCell ⟨X,8,none⟩ (.slice (some ⟨d,0,none⟩) (nk+1) U)).cell? ⟨d,i,none⟩=y.cell? ⟨d,i,none⟩:=λi=>World.cell?_of_block (x.block d (by omega) (λe=>by cases e;exact Q rfl))
   obtain⟨c6,r⟩:=Dj a4 (g:=d) rfl
   generalize(y.setCell ⟨X,8,none⟩ (.slice (some ⟨d,0,none⟩) (nk+1) U))=w8 at*
   have dx:=(kc _).trans k0
   have dz:=(kc _).trans k1
   have d5:=(kc _).trans k2
   have d1:=(kc _).trans k3
   have c4:=zk w8 d (nk*4) _ _ r
   have dc:=zk w8 d (nk*4+1) _ _ r
   have c0:=zk w8 d (nk*4+2) _ _ r
   have cq:=zk w8 d (nk*4+3) _ _ r
   have b4:=x.size
   have ai:=za O
   have ac:=za x
   have b6:=za a4
   clear O x a4 kc r
   refine zG (rs:=[20]) (by kernel_rfl) (by simp) ?_
   refine zv rfl (λK hK=>?_) zC
   go_simp
   refine hK.out _ _ trivial (λ_=>?_)
   clear hK K
   refine lF (by kernel_rfl) ?_ _
   go_end0
   obtain⟨r1,e1⟩:=ii b6.out (nk*4) (.int .i64 u.k)
   obtain⟨r2,e2⟩:=ii r1 (nk*4+1) (.string u.s)
   obtain⟨r3,e3⟩:=ii r2 (nk*4+2) (.slice pg F D)
   obtain⟨r4,e4⟩:=ii r3 (nk*4+3) (.slice E H B)
   have ax:=yc (yc (yc e1 e2) e3) e4
   refine⟨rfl,ar.out _ _ ((ax.block X (yz ai.out) (λe=>by cases e;exact Q rfl)).trans ai.out) r4 (λk hk q1 q2=>?_) ?_⟩
   .exact(ax.block k (by omega) (λe=>by cases e;exact q2 rfl)).trans (ac.out.block k hk (λe=>by cases e;exact q1 rfl))
   .exact yd (yd (zt _ _) ac.out (λk e=>by cases e;exact aw) (by omega)) ax (λk e=>by cases e;exact aq) (by omega)
 .refine zG (rs:=[15,17]) (by kernel_rfl) (by simp) ?_
  refine zv rfl (λK hK=>?_) (zv rfl (λK hK=>?_) zC)
  .go_simp
   refine(HN _ _ lead lv c w2.drew (bo.out.below (zt _ _).drew) am hld hlv h5).mono ?_
   rintro e w5 ⟨pg,F,D,E,H,B,rfl,aj,o⟩
   have af:Fr w0.heap.size b l w2.heap.size w2 w5:=bd.trans o
   have bj:w2.heap.size<=w5.heap.size:=o.bel.size
   refine hK.out _ _ (ag.out w5 af) (λ_=>?_)
   clear hK K
   try simp only[z8,zf,zi,zj]
   refine zG (rs:=[17]) (by kernel_rfl) (by simp) ?_
   refine zv rfl (λK hK=>?_) zC
   go_simp
   have ad:Fr w0.heap.size b l w2.heap.size w2 (w5.alloc (.cells #[.int .i64 0,.string ⟨#[]⟩,.slice none 0 0,.slice none 0 0] 25)):=af.trans (Fr.new (by omega) bj (ya _))
   refine hK.out _ _ (ag.out _ ad) (λ_=>?_)
   clear hK K
   refine lF (by kernel_rfl) ?_ _
   dsimp only[ef]
   exact⟨w5.heap.size,pg,F,D,E,H,B,rfl,aj.below (ya _),ad,bj,zx _ _⟩
  .go_simp
   have bi:Below w2.heap.size w2 (w2.alloc (.cells #[.int .i64 0,.string ⟨#[]⟩,.slice none 0 0,.slice none 0 0] 25)).drew:=(ya _).drew
   have dg:(w2.alloc (.cells #[.int .i64 0,.string ⟨#[]⟩,.slice none 0 0,.slice none 0 0] 25)).drew.heap.size=w2.heap.size+1:=by show(w2.alloc _).heap.size=_;simp
   have cm:(w2.alloc (.cells #[.int .i64 0,.string ⟨#[]⟩,.slice none 0 0,.slice none 0 0] 25)).drew.heap[w2.heap.size]?=some (.cells #[.int .i64 0,.string ⟨#[]⟩,.slice none 0 0,.slice none 0 0] 25 (0,0)):=zx w2 _
   have o:Fr w0.heap.size b l w2.heap.size w2 (w2.alloc (.cells #[.int .i64 0,.string ⟨#[]⟩,.slice none 0 0,.slice none 0 0] 25)).drew:=Fr.new (by omega) (zn _) bi
   refine hK.out _ _ (ag.out _ o) (λ_=>?_)
   clear hK K
   try simp only[z8,zf,zi,zj]
   generalize(w2.alloc (.cells #[.int .i64 0,.string ⟨#[]⟩,.slice none 0 0,.slice none 0 0] 25)).drew=w5 at*
   refine zG (rs:=[15]) (by kernel_rfl) (by simp) ?_
   refine zv rfl (λK hK=>?_) zC
   go_simp
   refine(HN _ _ lead lv c w5 (bo.out.below bi) am hld hlv h5).mono ?_
   rintro e w6 ⟨pg,F,D,E,H,B,rfl,cj,af⟩
   have ad:Fr w0.heap.size b l w2.heap.size w2 w6:=o.trans (af.mono (by omega))
   refine hK.out _ _ (ag.out w6 ad) (λ_=>?_)
   clear hK K
   refine lF (by kernel_rfl) ?_ _
   dsimp only[ef]
   exact⟨w2.heap.size,pg,F,D,E,H,B,rfl,cj,ad,zn _,af.box cm (by decide) (by omega) (by omega)⟩
end Go.Proofs
