/-
  Part of the proof: The parts of a list between stable elements.
-/
import Derived.Test.YtpdlpdkehminlaaGreatDoorWE
set_option linter.all false
set_option maxRecDepth 100000
set_option maxHeartbeats 20000000
open Go renaming Addr->oh,Calls->zM,Value->zg,World->ze,bodyPost_ret->eG,frozen_of_row->zk,heap_alloc_new->zx,heap_setCell_same->zA,results_tmp2->iD,wpList_append_lies->zaG
open Go.Instr renaming lookup->ec
open Go.Lib renaming hid->za
open Go.RowKit renaming Hid->eW
open Go.RowKit.Below renaming refl->zt
open Go.Value renaming int->zX,oneCell'->ej
open Go.World renaming news_of_block->lw,ownsRow_nil->ed
open Go.World.mapTurned renaming grown->ik
open Go.World.ownsRow renaming alloc->zy,cellAt->ep,form->om,frozenAt->iN,kept->zF,lt->zE
open List renaming append_assoc->lW,cons_append->zat,drop_drop->zb2,drop_eq_getElem_cons->oG,filter_congr->zc3,filter_cons->zdg,filter_sublist->zaL,getElem?_append_left->eI,getElem?_append_right->en,getElem?_eq_getElem->zc,getElem?_eq_some_iff->zm,length_append->zT,length_take->iR,mem_append->eZ,mem_cons->zO,mem_cons_of_mem->eJ,mem_cons_self->eO,mem_filter->ie,mem_of_getElem?->zq,nodup_cons->zbO,take_add_one->z6,take_append_drop->oz,take_length->zY
open List.Sublist renaming trans->zed
open Nat renaming add_assoc->iH,add_zero->oT,le_refl->zn,le_trans->zI,lt_of_lt_of_le->ez,sub_self->ls,zero_add->eV
open Option renaming getD_none->iP,getD_some->eE,isSome_none->zad,isSome_some->zaP
open Option.some renaming inj->eF,injEq->zb
namespace Go.Proofs
open Go.RowKit Go.Maps Go.MapKept
open Classical
def BB(w:ze)(v:zg)(L:List (List Int)):Prop:=((∃p c,v=.slice p 0 c)/\L=[])\/∃b off cap,v=.slice (some ⟨b,off,none⟩) L.length cap/\b<w.heap.size/\∀i(l:List Int),L[i]?=some l->∃vi,w.cell? ⟨b,off+i,none⟩=some vi/\yo w vi l
theorem BB.below{w wr:ze}{v:zg}{L:List (List Int)}(h:BB w v L)(hb:Below w.heap.size w wr):BB wr v L:=by
 rcases h with h|⟨b,c,d,k,a,g⟩
 .exact .inl h
 .refine .inr ⟨b,c,d,k,ez a hb.size,λi l hi=>?_⟩;obtain⟨m,f,j⟩:=g i l hi;exact⟨m,(hb.cell (p:=⟨b,_,none⟩) a).trans f,j.below hb⟩
theorem BB.slice{w:ze}{v:zg}{L:List (List Int)}(h:BB w v L):∃p c,v=.slice p L.length c:=by
 rcases h with⟨⟨p,c,rfl⟩,rfl⟩|⟨b,d,a,rfl,_⟩
 .exact⟨p,c,rfl⟩
 .exact⟨_,_,rfl⟩
theorem BB.at{w:ze}{p:Option oh}{n c:Nat}{L:List (List Int)}(h:BB w (.slice p n c) L){i:Nat}{l:List Int}(hi:L[i]?=some l):∃b off vi,p=some ⟨b,off,none⟩/\b<w.heap.size/\w.cell? ⟨b,off+i,none⟩=some vi/\yo w vi l:=by
 rcases h with⟨_,rfl⟩|⟨b,off,g,e,a,j⟩
 .simp at hi
 .cases e;obtain⟨vi,d,f⟩:=j i l hi;exact⟨b,off,vi,rfl,a,d,f⟩
structure C7(w:ze)(base:Nat)(v:zg)(m:Nat)(vs:List zg)(vl:zg)(L:List (List Int))(x:List Int)(N:Nat):Prop where
 len:vs.length=m
 lenL:L.length=m
 own:w.ownsRow base 55 1 v (m+1) (vs++[vl])
 hN:base<=N
 hNw:N<=w.heap.size
 old:∀(i:Nat)(vi:zg)(li:List Int),vs[i]?=some vi->L[i]?=some li->yj w base vi li/\∀g,vi.ownBlock=some g->g<N
 last:yj w N vl x
theorem C7.val{w:ze}{base m N:Nat}{v vl:zg}{vs:List zg}{L:List (List Int)}{x:List Int}(h:C7 w base v m vs vl L x N):BB w v (L++[x]):=by
 obtain⟨g,d,rfl,_,f⟩:=om h.own (by omega);have k:=h.len;have j:=h.lenL;refine .inr ⟨g,0,d,by simp[j],f,λi l hi=>?_⟩;by_cases n:i<m
 .rw[eI (by omega)]at hi;obtain⟨b,a⟩:∃b,vs[i]?=some b:=⟨vs[i],zc (by omega)⟩
  refine⟨b,?_,(h.old i b l a hi).1.ints⟩;rw[eV,ep h.own i (by omega),eI (by omega),a]
 .have c:=(zm.1 hi).1;simp at c;obtain rfl:i=m:=by omega
  rw[en (by omega),j,ls]at hi;cases hi;refine⟨vl,?_,h.last.ints⟩;rw[eV,ep h.own i (by omega),en (by omega),k,ls];rfl
theorem C7.kept{w w':ze}{base m N:Nat}{v vl:zg}{vs:List zg}{L:List (List Int)}{x:List Int}(h:C7 w base v m vs vl L x N)(hb:Below w.heap.size w w'):C7 w' base v m vs vl L x N:=⟨h.len,h.lenL,yy h.own hb,h.hN,zI h.hNw hb.size,λi vi li h1 h2=>⟨yy (h.old i vi li h1 h2).1 hb,(h.old i vi li h1 h2).2⟩,yy h.last hb⟩
theorem UP{w:ze}{base g cap m:Nat}{e:TypeId}{vs:List zg}{vl:zg}(h:w.ownsRow base e 1 (.slice (some ⟨g,0,none⟩) (m+1) cap) (m+1) (vs++[vl]))(hl:vs.length=m):w.cell? ⟨g,m,none⟩=some vl/\w.frozen? ⟨g,m,none⟩=false:=by refine⟨?_,iN h m⟩;rw[ep h m (by omega),en (by omega),hl,ls];rfl
theorem C7.next{w w':ze}{base m N:Nat}{v u vl:zg}{vs:List zg}{L:List (List Int)}{x:List Int}(h:C7 w base v m vs vl L x N)(hown:w'.ownsRow base 55 1 u (m+2) (vs++[vl]++[.slice none 0 0]))(hg:w.grownBy w' v.ownBlock):C7 w' base u (m+1) (vs++[vl]) (.slice none 0 0) (L++[x]) [] w.heap.size:=by
 have a:∀(b:Nat)(vi:zg)(li:List Int),yj w b vi li->yj w' b vi li:=λb vi li hi=>zF hi hg (DN hi h.own (by decide));refine⟨by simp[h.len],by simp[h.lenL],hown,zI h.hN h.hNw,hg.size,λi vi li h1 h2=>?_,ed _ _ _ _⟩;by_cases f:i<m
 .rw[eI (by rw[h.len];exact f)]at h1;rw[eI (by rw[h.lenL];exact f)]at h2;obtain⟨k,l⟩:=h.old i vi li h1 h2;exact⟨a _ _ _ k,λg e=>(zE k g e).2⟩
 .have j:=(zm.1 h1).1;have d:=h.len;have c:=h.lenL;simp at j;obtain rfl:i=m:=by omega
  rw[en (by omega),d,ls]at h1;rw[en (by omega),c,ls]at h2;cases h1;cases h2;exact⟨Au (a _ _ _ h.last) h.hN,λg e=>(zE h.last g e).2⟩
theorem C7.more{w w':ze}{base m N g cap:Nat}{vl ul:zg}{vs:List zg}{L:List (List Int)}{x y:List Int}(h:C7 w base (.slice (some ⟨g,0,none⟩) (m+1) cap) m vs vl L x N)(hl:yj w' N ul y)(hg:w.grownBy w' vl.ownBlock):C7 (w'.setCell ⟨g,m,none⟩ ul) base (.slice (some ⟨g,0,none⟩) (m+1) cap) m vs ul L y N:=by
 have a:w'.ownsRow base 55 1 (.slice (some ⟨g,0,none⟩) (m+1) cap) (m+1) (vs++[vl]):=zF h.own hg (DN h.own h.last (by decide));obtain⟨f,l⟩:=a.stored m ul;have d:=h.len;have e:(vs++[vl]).set m ul=vs++[ul]:=by rw[List.set_append_right _ _ (by omega),d,ls];rfl
 rw[e]at f;have c:∀(b:Nat)(vi:zg)(li:List Int),yj w' b vi li->yj (w'.setCell ⟨g,m,none⟩ ul) b vi li:=λb vi li hi=>zF hi l (DN hi a (by decide));refine⟨h.len,h.lenL,f,h.hN,zI h.hNw (zI hg.size l.size),λi vi li h1 h2=>?_,c _ _ _ hl⟩;obtain⟨n,j⟩:=h.old i vi li h1 h2;refine⟨c _ _ _ (zF n hg ?_),j⟩;cases hv:vi.ownBlock with
 |none=>exact .inl rfl
 |some k=>refine .inr λe=>?_;have p:=j k hv;have o:=(zE h.last k e.symm).1;omega
theorem G4(v:zg)(l:List Int)(b n:Nat)(S:Int->Prop)(w:ze)(hv:yo w v l)(hS:Bv w b n S)(hn:l.length<=1000000)(hf:∀x∈l,yw x):zM Tryz.prog 189 #[v,.map (some b)] w λe w'=>∃u,e=.returned u/\BB w' u (AE S l)/\Below w.heap.size w w':=by
 obtain⟨p,c,rfl⟩:=hv.slice;have P:b<w.heap.size:=Ae.lt hS;obtain⟨is,hi,X,T,W⟩:=info_parts Br;obtain⟨js,hj,M,R,U⟩:=info_parts QA;have h0:C7 (w.alloc (.cells #[.slice none 0 0] 55)) w.heap.size (.slice (some ⟨w.heap.size,0,none⟩) 1 1) 0 [] (.slice none 0 0) [] [] w.heap.size:=⟨rfl,rfl,World.ownsRow_lit w #[.slice none 0 0] 1 (zn _) (by simp[maxLen]) rfl,zn _,by simp,λi vi li h=>by simp at h,ed _ _ _ _⟩
 have H0:=za h0;clear h0;go_enter Tryz.func189,Tryz.ntmps189;go_wp2;go_loopw [5,7,11] (λu _ iv w'=>∃(j m C g N:Nat)(V:List zg)(I:zg)(L:List (List Int))(x:List Int),j<=l.length/\u=.slice (some ⟨g,0,none⟩) (m+1) C/\C7 w' w.heap.size u m V I L x N/\AE S (l.take j)=L++[x]/\m<=j/\x.length<=j/\Below w.heap.size w w'/\iv=.int .i64 j) (λ_ _ iv _=>l.length-(intOf iv).toNat)
 case atStart=>exact⟨0,0,1,_,_,[],_,[],[],by omega,rfl,H0.out,by simp[AE],by omega,by simp,ya _,rfl⟩
 case round=>
  obtain⟨j,m,C,g,N,V,I,L,x,al,rfl,hC,z,ai,ak,o,rfl⟩:=hrel;have f:=za hC;have r:=za z;have s:=za o;have A:=hv.below o;have G:Bv wr b n S:=Ae.below hS o P;clear hC z o;by_cases O:j<l.length
  .obtain⟨y,J⟩:∃y,l[j]?=some y:=⟨l[j],zc O⟩
   obtain⟨b',ae,rfl,ad,c0⟩:=A.at J;have B:=G.look y (hf y (zq J));have H:=za (Q6 (S:=S) J);clear J A G;by_cases e:S y
   .have Q:eW (AE S (l.take (j+1))=(L++[x])++[[]]):=za (by rw[H.out,r.out];unfold C6;rw[if_pos e]);have d:decide (S y)=true:=by simpa using e
    rw[d]at B;clear H e d;go_wp2_with (at_builtin;refine zaG _ rfl _ _ 223 rfl w.heap.size 55 js (.slice none 0 0) 1 24 Tryz.underlying223 hj M R U rfl (by decide) _ (m+1) (V++[I]) rfl (zy f.out.own _) ⟨wr.heap.size,0,none⟩ 1 1 [.slice none 0 0] rfl rfl (lw (cs:=#[.slice none 0 0]) (t:=55) (fr:=(0,0)) (zx _ _)) (by simp[ej]) (by omega) (by simp[maxLen];omega) (by omega) (by rw[ye];have:=s.out.size;omega) _ rfl ?_;intro g2 F w2 k a D E);go_roundw
    case rel=>refine⟨j+1,m+1,_,_,_,_,_,_,_,by omega,rfl,C7.next (f.out.kept (ya _)) k a,Q.out,by omega,by simp,?_,by go_num⟩;exact yd (s.out.trans ((ya _).mono s.out.size)) a (λq e=>yf f.out.own q e) (by rw[ye];have:=s.out.size;omega)
    case measure=>simp[intOf];omega
   .have Q:eW (AE S (l.take (j+1))=L++[x++[y]]):=za (by rw[H.out,r.out];unfold C6;rw[if_neg e];simp);have d:decide (S y)=false:=by simpa using e
    rw[d]at B;have Z:wr.cell? ⟨g,m,none⟩=some I:=by rw[ep f.out.own m (by omega),en (by rw[f.out.len];omega),f.out.len,ls];rfl
    clear H e d;go_wp2_with (at_builtin;refine zaG _ rfl _ _ 55 rfl N 3 is (.int .i64 0) 1 8 Tryz.underlying55 hi X T W rfl (by decide) _ x.length (x.map (zX .i64)) rfl (zy f.out.last _) ⟨wr.heap.size,0,none⟩ 1 1 [.int .i64 y] rfl rfl (lw (cs:=#[.int .i64 y]) (t:=3) (fr:=(0,0)) (zx _ _)) (by simp[ej]) (by omega) (by simp[maxLen];omega) (by omega) (by rw[ye];have:=f.out.hNw;omega) _ rfl ?_;intro g2 F w2 k a D E;obtain⟨s0,f0⟩:=UP (zF (f.out.own.alloc _) a (DN f.out.own f.out.last (by decide))) f.out.len);go_roundw
    case rel=>
     have Y:=C7.more (y:=x++[y]) (f.out.kept (ya _)) (by unfold yj;rw[zT,List.map_append];exact k) a;refine⟨j+1,m,_,_,_,_,_,_,_,by omega,rfl,Y,Q.out,by omega,by simp;omega,?_,by go_num⟩;refine yd (yd (s.out.trans ((ya _).mono s.out.size)) a (λq e=>by have:=(zE f.out.last q e).1;have:=f.out.hN;omega) (by rw[ye];have:=s.out.size;omega)) (Gz _ _ _ _) (λq e=>?_) ?_
     .cases e;exact yf f.out.own g rfl
     .have h1:=a.size;have h2:=s.out.size;rw[ye]at h1;omega
    case measure=>simp[intOf];omega
  .obtain rfl:j=l.length:=by omega
   go_wp2;go_ret;have h:=f.out.val;rw[<-r.out,zY]at h;exact⟨_,rfl,h,s.out⟩
theorem GE{a:List Int}{R:List (Nat×Nat)}{i:Nat×Nat->Nat}{f:Nat×Nat->Int}(hp:R.Pairwise λp q=>i p<i q)(hf:∀p∈R,a[i p]?=some (f p)):(R.map f).Sublist a:=by
 have:∀(R:List (Nat×Nat))(n:Nat),R.Pairwise (λp q=>i p<i q)->(∀p∈R,a[i p]?=some (f p))->(∀p∈R,n<=i p)->(R.map f).Sublist (a.drop n):=by
  intro R;induction R with
  |nil=>intro n _ _ _;exact List.nil_sublist _
  |cons p R ih=>
   intro n hp hf j;rw[List.pairwise_cons]at hp;have b:=ih (i p+1) hp.2 (λq hq=>hf q (eJ _ hq)) (λq hq=>hp.1 q hq);have g:=hf p (eO ..);obtain⟨d,e⟩:=zm.1 g;have h:(a.drop (i p)).Sublist (a.drop n):=by have c:=j p (eO ..);rw[show a.drop (i p)=(a.drop n).drop (i p-n) by rw[zb2];congr 1;omega];exact List.drop_sublist _ _
   refine zed ?_ h;rw[oG d,e,List.map_cons];exact b.cons_cons _
 simpa using this R 0 hp hf (λ_ _=>Nat.zero_le _)
theorem AB{o l:List Int}(h:o.Sublist l):l.Nodup->l.filter (λx=>decide (x∈o))=o:=by
 induction h with
 |slnil=>intro _;rfl
 |@cons o l x hs ih=>intro a;rw[zbO]at a;have b:x∉o:=λb=>a.1 (hs.subset b);rw[zdg,if_neg (by simpa using b)];exact ih a.2
 |@cons_cons o l x hs ih=>intro a;rw[zbO]at a;rw[zdg,if_pos (by simp)];congr 1;rw[<-ih a.2];refine zc3 λy hy=>?_;have:y≠x:=λe=>a.1 (e▸hy);simp[this];exactλhyo=>hy
def EW(a:List Int)(R:List (Nat×Nat)):List Int:=R.map λp=>a[p.1]?.getD 0
theorem MG{a b:List Int}{R:List (Nat×Nat)}(h:BN a b R):(EW a R).Sublist a:=GE (i:=λp=>p.1) (h.1.imp λh=>h.1) λp hp=>by obtain⟨x,c,_⟩:=h.2 p hp;rw[c];rfl
theorem KM{a b:List Int}{R:List (Nat×Nat)}(h:BN a b R):(EW a R).Sublist b:=GE (i:=λp=>p.2) (h.1.imp λh=>h.2) λp hp=>by obtain⟨x,d,c⟩:=h.2 p hp;rw[d,c];rfl
noncomputable def Cj(b:List Int)(R1 R2:List (Nat×Nat)):List Int:=(EW b R2).filter λx=>decide (x∈EW b R1)
theorem OV{b l r:List Int}{R1 R2:List (Nat×Nat)}(hb:b.Nodup)(hl:l.Nodup)(hr:r.Nodup)(h1:BN b l R1)(h2:BN b r R2):b.filter (λx=>decide (x∈Cj b R1 R2))=Cj b R1 R2/\l.filter (λx=>decide (x∈Cj b R1 R2))=Cj b R1 R2/\r.filter (λx=>decide (x∈Cj b R1 R2))=Cj b R1 R2:=by
 have c:(Cj b R1 R2).Sublist (EW b R2):=zaL;have a:=c.trans (MG h2);refine⟨AB a hb,?_,AB (c.trans (KM h2)) hr⟩;have e:(EW b R1).filter (λx=>decide (x∈Cj b R1 R2))=Cj b R1 R2:=by
  have d:((EW b R1).filter (λx=>decide (x∈Cj b R1 R2))).Sublist b:=zaL.trans (MG h1);rw[<-AB d hb];rw[<-AB a hb];refine zc3 λx hx=>?_;rw[AB a hb];simp only[ie,decide_eq_true_eq,decide_eq_decide];constructor
  .exactλh=>h.2
  .exactλh=>⟨by have:=(ie.1 h).2;simpa using this,h⟩
 refine AB ?_ hl;rw[<-e];exact zaL.trans (KM h1)
theorem Nh{a:List Int}{R:List (Nat×Nat)}{k:Nat}{p:Nat×Nat}(h:R[k]?=some p):EW a (R.take (k+1))=EW a (R.take k)++[a[p.1]?.getD 0]:=by unfold EW;rw[z6,h];simp
def Am(w:ze)(b n:Nat)(g:Int->Option Int):Prop:=Ae w b n λi=>(g i).map (zX .i64)
theorem Pj(w:ze):(zeroValue 3).run Tryz.prog w=.ok (.int .i64 0) w:=by kernel_rfl
theorem Am.look_ok{w:ze}{b n:Nat}{g:Int->Option Int}(h:Am w b n g){i:Int}(hi:yw i):(ec 67 (.map (some b)) (.int .i64 i) true).run Tryz.prog w=.ok (.tuple #[.int .i64 ((g i).getD 0),.bool (g i).isSome]) w:=by have:=Ae.look_ok h (t:=67) (e:=3) Tryz.underlying67 (Pj w) i hi;rw[this];cases g i<;>rfl
theorem Am.look_some{w:ze}{b n:Nat}{g:Int->Option Int}(h:Am w b n g){i o:Int}(hi:yw i)(hg:g i=some o):(ec 67 (.map (some b)) (.int .i64 i) true).run Tryz.prog w=.ok (.tuple #[.int .i64 o,.bool true]) w:=by rw[h.look_ok hi,hg];rfl
theorem Am.look_none{w:ze}{b n:Nat}{g:Int->Option Int}(h:Am w b n g){i:Int}(hi:yw i)(hg:g i=none):(ec 67 (.map (some b)) (.int .i64 i) true).run Tryz.prog w=.ok (.tuple #[.int .i64 0,.bool false]) w:=by rw[h.look_ok hi,hg];rfl
def Wt(g:Int->Option Int)(k v:Int):Int->Option Int:=λi=>if i=k then some v else g i
theorem Am.put{w:ze}{b n:Nat}{g:Int->Option Int}{k v:Int}(h:Ae w b n (upd (λi=>(g i).map (zX .i64)) k (.int .i64 v))):Am w b n (Wt g k v):=by refine Ae.congr h λi=>?_;unfold upd Wt;by_cases e:i=k<;>simp[e]
theorem Am.made(w:ze):Am (w.alloc (.map #[] 0)) w.heap.size 0 λ_=>none:=(B6 w).congr λ_=>rfl
theorem Am.below{w w':ze}{b n B:Nat}{g:Int->Option Int}(h:Am w b n g)(hb:Below B w w')(hB:b<B):Am w' b n g:=Ae.below h hb hB
theorem Am.congr{w:ze}{b n:Nat}{f g:Int->Option Int}(h:Am w b n f)(e:∀i,f i=g i):Am w b n g:=Ae.congr h λi=>by rw[e i]
def yQ(m:List (Int×Int))(i:Int):Option Int:=(m.reverse.find? λp=>p.2==i).map (·.1)
theorem QZ{m:List (Int×Int)}{j:Nat}{p:Int×Int}(h:m[j]?=some p):yQ (m.take (j+1))=Wt (yQ (m.take j)) p.2 p.1:=by
 funext i;unfold yQ Wt;rw[z6,h,Option.toList_some,List.reverse_append,List.reverse_singleton,List.singleton_append,List.find?_cons];by_cases e:i=p.2
 .rw[if_pos e];simp[e]
 .rw[if_neg e];have:(p.2==i)=false:=by rw[beq_eq_false_iff_ne];exactλh=>e h.symm
  rw[this]
theorem CI.ge{w:ze}{base:Nat}{v:zg}{l:List Int}(h:CI w base v l):∀b,v.ownBlock=some b->base<=b:=by
 intro b a;rcases h with⟨rfl,_⟩|⟨f,c,rfl,d⟩
 .cases a
 .cases a;exact c
theorem yP.low{w w':ze}{base g:Nat}{A:Nat->Prop}{v:zg}{rs:List An}(h:yP w base A v rs)(hg:w.grownBy w' (some g))(hb:g<base):yP w' base A v rs:=by
 obtain⟨o,m,l,n⟩:=h;refine⟨o,m,l.kept hg ?_,λi r vs hr hvs=>?_⟩
 .cases hv:v.ownBlock with
  |none=>exact .inl rfl
  |some k=>refine .inr λe=>?_;have:=(zE l k hv).1;cases e;omega
 .obtain⟨j,c⟩:=n i r vs hr hvs;refine⟨j.block λx hx b hbk=>hg.block b (c x hx b hbk).1 (λe=>?_),λx hx b hbk=>⟨ez (c x hx b hbk).1 hg.size,(c x hx b hbk).2⟩⟩;obtain⟨p,q,rfl,a,f⟩:=j;have d:base<=b:=by
   simp only[zO,List.not_mem_nil,or_false]at hx;rcases hx with rfl|rfl|rfl|rfl|rfl
   .cases hbk
   .cases hbk
   .cases hbk
   .exact a.ge b hbk
   .exact f.ge b hbk
  cases e;omega
theorem yn(w:ze)(b o:Nat)(v:zg):w.grownBy (w.setCell ⟨b,o,none⟩ v) (some b):=⟨rfl,rfl,rfl,by simp,λq _ hq=>heap_setCell_other w ⟨b,o,none⟩ q v (λe=>hq (by simp[e]))⟩
theorem UI:(Tryz.prog.info? 87).map (·.size)=some 2:=by kernel_rfl
theorem Ic(t:T)(gv kv mv:zg)(m:List (Int×Int))(w:ze)(hl:t.Lies w gv kv)(hm:Ao w mv m)(hs:t.size<=1000)(hb:t.bulk<=1048576)(hml:m.length<=1000)(hf:∀p∈m,yw p.2):zM Tryz.prog 35 #[yJ t.k t.s gv kv,mv] w λe w'=>∃p c M,e=.returned (.agg #[.slice p t.size c,.map (some M)])/\w.heap.size+2<=M/\yP w' (w.heap.size+2) (λ_=>False) (.slice p t.size c) (t.rows 0 (-1))/\Am w' M m.length (yQ m)/\Below w.heap.size w w':=by
 obtain⟨pk,ck,rfl⟩:=hl.kids.slice;obtain⟨pg,cg,rfl⟩:=hl.gaps.slice;obtain⟨pm,cm,rfl⟩:=hm.slice;obtain⟨O,y⟩:∃O,O=(w.alloc (.cells #[.int .i64 t.k,.string t.s,.slice pg t.g.length cg,.slice pk t.ks.length ck] 25)).alloc (.cells #[.slice none 0 0,.map none] 87):=⟨_,rfl⟩
 have S:Below w.heap.size w O:=by rw[y];exact(ya _).trans ((ya _).mono (by simp))
 have V:O.heap.size=w.heap.size+2:=by rw[y];simp
 have Z:O.heap[w.heap.size+1]?=some (.cells #[.slice none 0 0,.map none] 87 (0,0)):=by have h:=zx (w.alloc (.cells #[.int .i64 t.k,.string t.s,.slice pg t.g.length cg,.slice pk t.ks.length ck] 25)) (.cells #[.slice none 0 0,.map none] 87);rw[ye]at h;rw[y];exact h
 have HR:=za (Hc t _ _ O (T.Lies.below S t hl) hs hb);have L:(t.rows 0 (-1)).length=t.size:=T.length_rows _ _ _;have J:=za L;have ap:=za Z;have Y:=za S;have l:=za V;have HM:=za hm;have hmk:∀W:ze,(Instr.makeMap 67 none).run Tryz.prog W=.ok (.map (some W.heap.size)) (W.alloc (.map #[] 0)):=λW=>run_makeMap _ W;clear hl hm S Z V L;go_enter Tryz.func35,Tryz.ntmps35;go_wp2_with fail;rw[<-y];clear y;refine HR.out.mono ?_;rintro e a ⟨u2,rfl,C,v⟩;have N:=C.val;obtain⟨D,A,rfl⟩:=N.slice;rw[J.out];rw[J.out]at N C;obtain⟨z,f⟩:∃z,z=(a.alloc (.map #[] 0)).alloc (.cells #[.slice D t.size A,.map (some a.heap.size)] 87):=⟨_,rfl⟩
 have B:Below a.heap.size a z:=by rw[f];exact(ya _).trans ((ya _).mono (by simp))
 have X:z.heap.size=a.heap.size+2:=by rw[f];simp
 have ac:Am z a.heap.size 0 (yQ (m.take 0)):=by rw[f];exact((Am.made a).below (ya _) (by simp)).congr λi=>by simp[yQ]
 have U:z.heap[a.heap.size+1]?=some (.cells #[.slice D t.size A,.map (some a.heap.size)] 87 (0,0)):=by have h:=zx (a.alloc (.map #[] 0)) (.cells #[.slice D t.size A,.map (some a.heap.size)] 87);rw[ye]at h;rw[f];exact h
 have ad:z.heap[w.heap.size+1]?=some (.cells #[.slice none 0 0,.map none] 87 (0,0)):=(B.block _ (by have:=v.size;have:=l.out;omega)).trans ((v.block _ (by have:=l.out;omega)).trans ap.out);have ak:=v.size;rw[l.out]at ak;have ah:=za C;have H:=za B;have ab:eW (Below w.heap.size w z):=za ((Y.out.trans (v.mono Y.out.size)).trans (B.mono (by omega)));have ao:=za ac;have an:=za U;have aj:=za ad;have P:=za X;clear C v N B X ac U ad;go_wp2;rw[<-f];clear f;go_loopw [7,14] (λ_ iv W=>∃j:Nat,j<=m.length/\Am W a.heap.size j (yQ (m.take j))/\z.grownBy W (some a.heap.size)/\iv=.int .i64 j) (λ_ iv _=>m.length-(intOf iv).toNat)
 case atStart=>exact⟨0,by omega,ao.out,⟨rfl,rfl,rfl,zn _,λ_ _ _=>rfl⟩,rfl⟩
 case round=>
  obtain⟨j,hj,G,r,rfl⟩:=hrel;have d:=za G;have R:=za r;have a7:=r.size;have E:=(r.block (a.heap.size+1) (by have:=P.out;omega) (by simp)).trans an.out;have F:Below w.heap.size w wr:=yd ab.out r (λk e=>by cases e;omega) ab.out.size;clear G r;by_cases ai:j<m.length
  .obtain⟨⟨o,n⟩,hq⟩:∃q,m[j]?=some q:=⟨m[j],zc ai⟩
   obtain⟨b,az,rfl,a1,c0,c1⟩:=(HM.out.below F).at hq;simp only at c0 c1;have ae:=hf _ (zq hq);simp only at ae;have HG:=za (QZ hq);have I:=((ya (w:=wr) (.cells #[.int .i64 o,.int .i64 n] 51)).block (a.heap.size+1) (by have:=P.out;omega)).trans E;obtain⟨q0,q1⟩:=yD I;clear hq E I F;go_wp2_with (at_mapUpdate;refine yS rfl _ _ _ 67 3 rfl Tryz.underlying67 a.heap.size j _ rfl (Ae.block d.out ((ya _).block a.heap.size d.out.lt)) (by simp[maxLen];omega) n rfl ae ?_;intro a2 al am);go_roundw
   case rel=>refine⟨j+1,by omega,?_,yc (yc R.out (World.grownBy_alloc _ _ _)) (ik am),by go_num⟩;rw[HG.out];exact Am.put al
   case measure=>simp[intOf];omega
  .obtain rfl:j=m.length:=by omega
   have x:=(R.out.block (w.heap.size+1) (by have:=P.out;omega) (by simp;omega)).trans aj.out;obtain⟨q0,q1⟩:=yD E;obtain⟨x0,x1⟩:=yD x;have f0:=zk wr (w.heap.size+1) 0 _ _ x;have f1:=zk wr (w.heap.size+1) 1 _ _ x;rw[zY]at d;have ar:=za x;have aa:=za F;have aq:eW (yP wr O.heap.size (λ_=>False) (.slice D t.size A) (t.rows 0 (-1))):=za (ah.out.grown (Bc (w:=a) (yd H.out R.out (λk e=>by cases e;exact zn _) H.out.size)) (by cases(Value.slice D t.size A).ownBlock<;>simp) (λg e=>by cases e));clear E x F;go_wp2;have Q:wr.grownBy ((wr.setCell ⟨w.heap.size+1,0,none⟩ (.slice D t.size A)).setCell ⟨w.heap.size+1,1,none⟩ (.map (some a.heap.size))) (some (w.heap.size+1)):=yc (yn _ _ _ _) (yn _ _ _ _);have ag:((wr.setCell ⟨w.heap.size+1,0,none⟩ (.slice D t.size A)).setCell ⟨w.heap.size+1,1,none⟩ (.map (some a.heap.size))).heap[w.heap.size+1]?=some (.cells #[.slice D t.size A,.map (some a.heap.size)] 87 (0,0)):=zA _ _ 1 _ _ _ (zA wr _ 0 _ _ _ ar.out);refine eG (results_cell_row rfl _ _ (w.heap.size+1) _ _ _ _ rfl ag Tryz.underlying87 rfl UI) rfl ⟨D,A,a.heap.size,rfl,by omega,?_,?_,?_⟩
   .have:=aq.out.low Q (by have:=l.out;omega);rwa [l.out]at this
   .exact Ae.block d.out (Q.block _ d.out.lt (by simp;omega))
   .exact yd aa.out Q (λk e=>by cases e;omega) aa.out.size
def Seg(rs:List An)(x:Nat)(p:Int)(t:T):Prop:=∃post,rs.drop x=t.rows x p++post
theorem Seg.root(t:T):Seg (t.rows 0 (-1)) 0 (-1) t:=⟨[],by simp⟩
theorem Seg.row{rs:List An}{x:Nat}{p k:Int}{s:ByteArray}{g:List ByteArray}{ks:List T}(h:Seg rs x p (.mk k s g ks)):rs[x]?=some ⟨p,k,s,g,yO (x+1) ks⟩:=by
 obtain⟨a,h⟩:=h;have:(rs.drop x)[0]?=some ⟨p,k,s,g,yO (x+1) ks⟩:=by rw[h,T.rows];rfl
 rwa [List.getElem?_drop,oT]at this
theorem Seg.le{rs:List An}{x:Nat}{p:Int}{t:T}(h:Seg rs x p t):x+t.size<=rs.length:=by obtain⟨a,h⟩:=h;have:=congrArg List.length h;rw[List.length_drop,zT,T.length_rows]at this;have:=T.size_pos t;omega
theorem Seg.kid{rs:List An}{x j:Nat}{p k:Int}{s:ByteArray}{g:List ByteArray}{ks:List T}{u:T}(h:Seg rs x p (.mk k s g ks))(hu:ks[j]?=some u):Seg rs (x+1+T.sizes (ks.take j)) x u:=by
 obtain⟨a,h⟩:=h;have c:ks=ks.take j++u::ks.drop (j+1):=by obtain⟨b,e⟩:=zm.1 hu;rw[<-e,<-oG b,oz]
 refine⟨T.rowsL (x+1+T.sizes (ks.take j)+u.size) x (ks.drop (j+1))++a,?_⟩;rw[show x+1+T.sizes (ks.take j)=x+(1+T.sizes (ks.take j)) by omega,<-zb2,h,T.rows];rw[show T.rowsL (x+1) x ks=T.rowsL (x+1) x (ks.take j)++(u.rows (x+1+T.sizes (ks.take j)) x++T.rowsL (x+1+T.sizes (ks.take j)+u.size) x (ks.drop (j+1))) by
  conv=>lhs;rw[c]
  rw[T.rowsL_append,T.rowsL]]
 rw[zat,show 1+T.sizes (ks.take j)=T.sizes (ks.take j)+1 by omega,List.drop_succ_cons,lW,List.drop_left' (T.length_rowsL _ _ _),lW,iH x,Nat.add_comm 1]
theorem AM{ks:List T}{j:Nat}{u:T}(h:ks[j]?=some u)(x:Nat):(yO x ks)[j]?=some ((x+T.sizes (ks.take j):Nat):Int):=by
 have a:=Gv h x;have d:=(zm.1 h).1;have b:(yO x (ks.take (j+1)))[j]?=some ((x+T.sizes (ks.take j):Nat):Int):=by rw[a,en (by rw[yK,iR];omega),yK,iR,Nat.min_eq_left (by omega),ls];rfl
 have c:yO x ks=yO x (ks.take (j+1))++yO (x+T.sizes (ks.take (j+1))) (ks.drop (j+1)):=by rw[<-C1,oz]
 rw[c,eI (by rw[yK,iR];omega)];exact b
theorem Seg.find:∀(t:T)(rs:List An)(x:Nat)(p:Int),Seg rs x p t->∀i,x<=i->i<x+t.size->∃q u,Seg rs i q u/\(i=x\/∃(y:Nat)(r:An),q=y/\x<=y/\y<i/\rs[y]?=some r/\(i:Int)∈r.kids):=by
 refine T.ind λk s g ks ih rs x p h i h1 h2=>?_;rcases Nat.eq_or_lt_of_le h1 with rfl|h1
 .exact⟨p,_,h,.inl rfl⟩
 rw[T.size]at h2;have:∀n,n<=ks.length->i<x+1+T.sizes (ks.take n)->∃j u,ks[j]?=some u/\x+1+T.sizes (ks.take j)<=i/\i<x+1+T.sizes (ks.take j)+u.size:=by
  intro n;induction n with
  |zero=>intro _ h;simp[T.sizes]at h;omega
  |succ n ihn=>
   intro M c;have a:ks[n]?=some (ks[n]'(by omega)):=zc _;by_cases D:i<x+1+T.sizes (ks.take n)
   .exact ihn (by omega) D
   .refine⟨n,_,a,by omega,?_⟩;rw[T.sizes_take a]at c;omega
 obtain⟨j,u,a,B,w⟩:=this ks.length (zn _) (by rw[zY];omega);obtain⟨q,v,f,z⟩:=ih u (zq a) rs _ _ (h.kid a) i B w;refine⟨q,v,f,.inr ?_⟩;rcases z with rfl|⟨y,r,e,o,d,A,m⟩
 .obtain⟨J,G,F,C⟩:=u;obtain⟨I,L,H,E⟩:=v;have b:=f.row;rw[(h.kid a).row]at b;have l:q=(x:Int):=by simp only[zb,An.mk.injEq]at b;exact b.1.symm
  refine⟨x,_,l,zn _,h1,h.row,?_⟩;exact zq (AM a (x+1))
 .exact⟨y,r,e,by omega,d,A,m⟩
mutual
noncomputable def T.comp (g:Int->Option Int) (x:Nat):T->List Nat
 |.mk _ _ _ ks=>x::T.compL g (x+1) ks
noncomputable def T.compL (g:Int->Option Int) (x:Nat):List T->List Nat
 |[]=>[]
 |t::ts=>(if g x=none then t.comp g x else[])++T.compL g (x+t.size) ts
end
theorem T.compL_append(g:Int->Option Int):∀(a b:List T)(x:Nat),T.compL g x (a++b)=T.compL g x a++T.compL g (x+T.sizes a) b
 |[],b,x=>by simp[T.compL,T.sizes]
 |t::a,b,x=>by rw[zat,T.compL,T.compL,T.compL_append g a b,T.sizes,lW,iH]
theorem T.compL_take{g:Int->Option Int}{ks:List T}{j:Nat}{t:T}(h:ks[j]?=some t)(x:Nat):T.compL g x (ks.take (j+1))=T.compL g x (ks.take j)++(if g ((x+T.sizes (ks.take j):Nat):Int)=none then t.comp g (x+T.sizes (ks.take j))else[]):=by rw[z6,h,T.compL_append];simp[T.compL]
theorem T.mem_compL{g:Int->Option Int}{i:Nat}:∀{ks:List T}{x:Nat},i∈T.compL g x ks↔∃j u,ks[j]?=some u/\g ((x+T.sizes (ks.take j):Nat):Int)=none/\i∈u.comp g (x+T.sizes (ks.take j))
 |[],x=>by simp[T.compL]
 |t::ts,x=>by
  rw[T.compL,eZ,T.mem_compL (ks:=ts)];constructor
  .rintro(h|⟨j,u,a,b,c⟩)
   .split at h
    .rename_i hg;exact⟨0,t,rfl,by simpa[T.sizes]using hg,by simpa[T.sizes]using h⟩
    .cases h
   .exact⟨j+1,u,by simpa using a,by simpa[T.sizes,iH]using b,by simpa[T.sizes,iH]using c⟩
  .rintro⟨j,u,a,b,c⟩;cases j with
   |zero=>left;simp only[List.getElem?_cons_zero,zb]at a;subst a;simp only[List.take_zero,T.sizes,oT]at b c;rw[if_pos b];exact c
   |succ j=>exact .inr ⟨j,u,by simpa using a,by simpa[T.sizes,iH]using b,by simpa[T.sizes,iH]using c⟩
theorem T.comp_parent(g:Int->Option Int):∀(t:T)(rs:List An)(x:Nat)(p:Int),Seg rs x p t->g x=none->∀i∈t.comp g x,g i=none/\(i=x\/∃(y:Nat)(r:An),rs[i]?=some r/\r.parent=y/\g y=none):=by
 refine T.ind λk s ga ks ih rs x p h hg i hi=>?_;rw[T.comp]at hi;rcases zO.1 hi with rfl|hi
 .exact⟨hg,.inl rfl⟩
 obtain⟨j,u,c,b,d⟩:=T.mem_compL.1 hi;obtain⟨f,a⟩:=ih u (zq c) rs _ _ (h.kid c) b i d;refine⟨f,.inr ?_⟩;rcases a with rfl|a
 .obtain⟨m,o,n,l⟩:=u;exact⟨x,_,(h.kid c).row,rfl,hg⟩
 .exact a
theorem T.comp_self(g:Int->Option Int)(t:T)(x:Nat):x∈t.comp g x:=by cases t;rw[T.comp];exact eO ..
theorem T.comp_kid(g:Int->Option Int):∀(t:T)(rs:List An)(x:Nat)(p:Int),Seg rs x p t->∀i∈t.comp g x,∀(r:An)(c:Nat),rs[i]?=some r->(c:Int)∈r.kids->g c=none->c∈t.comp g x:=by
 refine T.ind λk s ga ks ih rs x p h i hi r c hr hc hg=>?_;rw[T.comp]at hi⊢;rcases zO.1 hi with rfl|hi
 .rw[h.row]at hr;cases hr;simp only at hc;obtain⟨j,b⟩:=List.getElem?_of_mem hc;have d:j<ks.length:=by have:=(zm.1 b).1;rwa [yK]at this
  have a:ks[j]?=some ks[j]:=zc d;rw[AM a]at b;have e:i+1+T.sizes (ks.take j)=c:=by have:=eF b;omega
  refine eJ _ (T.mem_compL.2 ⟨j,_,a,by rw[e];exact hg,?_⟩);rw[e];exact T.comp_self _ _ _
 .obtain⟨j,u,a,f,l⟩:=T.mem_compL.1 hi;exact eJ _ (T.mem_compL.2 ⟨j,u,a,f,ih u (zq a) rs _ _ (h.kid a) i l r c hr hc hg⟩)
abbrev JA(p:Option oh)(n c M:Nat):zg:=.agg #[.slice p n c,.map (some M)]
structure GH(w:ze)(p:Option oh)(c M n:Nat)(rs:List An)(g:Int->Option Int):Prop where
 rows:C8 w (.slice p rs.length c) rs
 map:Am w M n g
theorem GH.below{w w':ze}{p:Option oh}{c M n:Nat}{rs:List An}{g:Int->Option Int}(h:GH w p c M n rs g)(hb:Below w.heap.size w w'):GH w' p c M n rs g:=⟨h.rows.below hb,h.map.below hb h.map.lt⟩
noncomputable def GQ(rs:List An)(g:Int->Option Int)(x:Nat):Int×Bool:=if(g x).isSome then(0,false)else match rs[x]?with
 |none=>(0,false)
 |some r=>if r.parent<0 then(-1,true)else((g r.parent).getD 0,(g r.parent).isSome)
theorem Ci{i:Int}(h0:-1<=i)(h1:i<=1000000):yw i:=Bg (by omega) (by omega)
theorem JL(p:Option oh)(c M n:Nat)(rs:List An)(g:Int->Option Int)(x:Nat)(w:ze)(h:GH w p c M n rs g)(hx:x<rs.length)(hn:rs.length<=1000)(hp:∀r,rs[x]?=some r->-1<=r.parent/\r.parent<=1000):zM Tryz.prog 36 #[JA p rs.length c M,.int .i64 x] w λe w'=>e=.returned (.tuple #[.int .i64 (GQ rs g x).1,.bool (GQ rs g x).2])/\Below w.heap.size w w':=by
 have a:=ya (w:=w) (.cells #[.slice p rs.length c,.map (some M)] 87);obtain⟨r,s⟩:∃r,rs[x]?=some r:=⟨rs[x],zc hx⟩
 obtain⟨t,A⟩:=hp r s;have f:=zx w (.cells #[.slice p rs.length c,.map (some M)] 87);obtain⟨B,E⟩:=yD f;have i:=h.below a;have q:yw (x:Int):=Ci (by omega) (by omega);have j:=za a;cases hg:g x with
 |some o=>
  have e:GQ rs g x=(0,false):=by unfold GQ;rw[hg];rfl
  rw[e];have y:=i.map.look_some q hg;clear a i h f;go_enter Tryz.func36,Tryz.ntmps36;go_wp2;exact eG (iD rfl _ _ _) rfl ⟨rfl,j.out⟩
 |none=>
  have y:=i.map.look_none q hg;obtain⟨b,l,rfl,G,J,D,C,L,F,I,H,_,_⟩:=i.rows.at s;by_cases k:r.parent<0
  .have e:GQ rs g x=(-1,true):=by unfold GQ;rw[hg,s];simp[k]
   rw[e];have d:decide (r.parent<0)=true:=by simpa using k
   clear a i h f k;go_enter Tryz.func36,Tryz.ntmps36;go_wp2;exact eG (iD rfl _ _ _) rfl ⟨rfl,j.out⟩
  .have e:GQ rs g x=((g r.parent).getD 0,(g r.parent).isSome):=by unfold GQ;rw[hg,s];simp[k]
   rw[e];have d:decide (r.parent<0)=false:=by simpa using k
   have v:∀m,(ec 67 (.map (some M)) (.int .i64 r.parent) true).run Tryz.prog ((w.alloc (.cells #[.slice (some ⟨b,l,none⟩) rs.length c,.map (some M)] 87)).drewN m)=.ok (.tuple #[.int .i64 ((g r.parent).getD 0),.bool (g r.parent).isSome]) ((w.alloc (.cells #[.slice (some ⟨b,l,none⟩) rs.length c,.map (some M)] 87)).drewN m):=λm=>Am.look_ok (n:=n) (Am.below i.map (yk (n:=m) (zt _ _)) i.map.lt) (Ci t (by omega));have z:=za v;clear a i h f k;go_enter Tryz.func36,Tryz.ntmps36;go_wp2;go_quiet (fail);go_wp2;exact eG (iD rfl _ _ _) rfl ⟨rfl,yk j.out⟩
structure GV(w:ze)(p1:Option oh)(c1 M1 n1:Nat)(p2:Option oh)(c2 M2 n2:Nat)(rs:List An)(g:Int->Option Int):Prop where
 one:GH w p1 c1 M1 n1 rs g
 two:GH w p2 c2 M2 n2 rs g
theorem GV.below{w w':ze}{p1 p2:Option oh}{c1 M1 n1 c2 M2 n2:Nat}{rs:List An}{g:Int->Option Int}(h:GV w p1 c1 M1 n1 p2 c2 M2 n2 rs g)(hb:Below w.heap.size w w'):GV w' p1 c1 M1 n1 p2 c2 M2 n2 rs g:=⟨h.one.below hb,h.two.below hb⟩
theorem yX{w:ze}{B:Nat}{x0 x1 x2 x3 x4:zg}{t:TypeId}{fz:Nat×Nat}(h:w.heap[B]?=some (.cells #[x0,x1,x2,x3,x4] t fz)):w.cell? ⟨B,0,none⟩=some x0/\w.cell? ⟨B,1,none⟩=some x1/\w.cell? ⟨B,2,none⟩=some x2/\w.cell? ⟨B,3,none⟩=some x3/\w.cell? ⟨B,4,none⟩=some x4:=by refine⟨?_,?_,?_,?_,?_⟩<;>(simp only[World.cell?,h];rfl)
theorem GD(w:ze)(A B:Obj):((w.alloc A).alloc B).drew.heap[w.heap.size]?=some A/\((w.alloc A).alloc B).drew.heap[w.heap.size+1]?=some B/\Below w.heap.size w ((w.alloc A).alloc B).drew/\((w.alloc A).alloc B).drew.heap.size=w.heap.size+2:=by have h:=zx (w.alloc A) B;rw[ye]at h;exact⟨((ya (w:=w.alloc A) B).block _ (by simp)).trans (zx _ _),h,((ya _).trans ((ya _).mono (by simp))).drew,by show((w.alloc A).alloc B).heap.size=_;simp⟩
theorem GW(p1:Option oh)(c1 M1 n1:Nat)(p2:Option oh)(c2 M2 n2:Nat)(rs:List An)(g:Int->Option Int)(hn:rs.length<=1000):∀(t:T)(x:Nat)(p:Int)(w:ze),Seg rs x p t->g x=none->GV w p1 c1 M1 n1 p2 c2 M2 n2 rs g->zM Tryz.prog 37 #[JA p1 rs.length c1 M1,JA p2 rs.length c2 M2,.int .i64 x,.int .i64 x] w λe w'=>e=.returned (.bool true)/\Below w.heap.size w w':=by
 refine T.ind λk s ga ks ih x p w hseg hg h=>?_;have hx:x<rs.length:=by have:=hseg.le;have:=T.size_pos (.mk k s ga ks);omega
 have hr:=hseg.row;have c3:ks.length<=1000:=by have h1:=hseg.le;have h2:=T.length_sizes ks;rw[T.size]at h1;omega
 obtain⟨r,D⟩:∃r,r=(w.alloc (.cells #[.slice p1 rs.length c1,.map (some M1)] 87)).alloc (.cells #[.slice p2 rs.length c2,.map (some M2)] 87):=⟨_,rfl⟩
 have U:Below w.heap.size w r:=by rw[D];exact(ya _).trans ((ya _).mono (by simp))
 have bb:r.heap.size=w.heap.size+2:=by rw[D];simp
 have hA:r.heap[w.heap.size]?=some (.cells #[.slice p1 rs.length c1,.map (some M1)] 87 (0,0)):=by rw[D];exact((ya _).block _ (by simp)).trans (zx _ _)
 have hB:r.heap[w.heap.size+1]?=some (.cells #[.slice p2 rs.length c2,.map (some M2)] 87 (0,0)):=by have h:=zx (w.alloc (.cells #[.slice p1 rs.length c1,.map (some M1)] 87)) (.cells #[.slice p2 rs.length c2,.map (some M2)] 87);rw[ye]at h;rw[D];exact h
 obtain⟨a0,a1⟩:=yD hA;obtain⟨b0,b1⟩:=yD hB;have h1:=h.below U;have a3:yw (x:Int):=Ci (by omega) (by omega);have bg:=h1.one.map.look_none a3 hg;have a4:=h1.two.map.look_none a3 hg;obtain⟨r1,o1,rfl,cq,cs,cp,e0,e1,e2,e3,e4,Z,v⟩:=h1.one.rows.at hr;obtain⟨r2,o2,rfl,cr,ci,cv,f0,f1,f2,f3,f4,J,y⟩:=h1.two.rows.at hr;simp only at e0 e1 e2 e3 e4 f0 f1 f2 f3 f4 Z v J y;obtain⟨L,N,rfl⟩:=Z.slice;obtain⟨M,H,rfl⟩:=J.slice;obtain⟨ab,V,rfl⟩:=v.slice;obtain⟨aa,P,rfl⟩:=y.slice;rw[yK]at e4 f4 v y;have ae:=za U;have H1:=za h1;have ac:=za bb;have bd:=za v;have a8:=za y;have HA:=za hA;have a6:=za hB;have ai:=za hseg;clear h h1 U bb hA hB Z J v y hr hseg;have A0:=a0;have A1:=a1;have B0:=b0;have B1:=b1;rw[D]at a0 a1 b0 b1 bg a4;go_enter Tryz.func37,Tryz.ntmps37;go_wp2;rw[<-D];clear D a0 a1 b0 b1 bg a4;go_region_held3 (λw'=>w'.cell? ⟨w.heap.size,0,none⟩=some (.slice (some ⟨r1,o1,none⟩) rs.length c1)/\w'.cell? ⟨w.heap.size+1,0,none⟩=some (.slice (some ⟨r2,o2,none⟩) rs.length c2)/\w'.cell? ⟨r1,o1+x*5,none⟩=some (.int .i64 p)/\w'.cell? ⟨r1,o1+x*5+1,none⟩=some (.int .i64 k)/\w'.cell? ⟨r1,o1+x*5+2,none⟩=some (.string s)/\w'.cell? ⟨r1,o1+x*5+3,none⟩=some (.slice L ga.length N)/\w'.cell? ⟨r1,o1+x*5+4,none⟩=some (.slice ab ks.length V)/\w'.cell? ⟨r2,o2+x*5,none⟩=some (.int .i64 p)/\w'.cell? ⟨r2,o2+x*5+1,none⟩=some (.int .i64 k)/\w'.cell? ⟨r2,o2+x*5+2,none⟩=some (.string s)/\w'.cell? ⟨r2,o2+x*5+3,none⟩=some (.slice M ga.length H)/\w'.cell? ⟨r2,o2+x*5+4,none⟩=some (.slice aa ks.length P)) (go_keep) (fail)
 .obtain⟨G,X⟩:∃G,G=((r.alloc (.cells #[.int .i64 p,.int .i64 k,.string s,.slice L ga.length N,.slice ab ks.length V] 85)).alloc (.cells #[.int .i64 p,.int .i64 k,.string s,.slice M ga.length H,.slice aa ks.length P] 85)).drew:=⟨_,rfl⟩
  have TB:=GD r (.cells #[.int .i64 p,.int .i64 k,.string s,.slice L ga.length N,.slice ab ks.length V] 85) (.cells #[.int .i64 p,.int .i64 k,.string s,.slice M ga.length H,.slice aa ks.length P] 85);rw[<-X]at TB⊢;clear X;obtain⟨P0,P1,C,O⟩:=TB;obtain⟨x0,x1,x2,x3,x4⟩:=yX P0;obtain⟨y0,y1,y2,y3,y4⟩:=yX P1;have S:=za (ae.out.trans (C.mono ae.out.size));have R:=za C;have au:=za P0;have ao:=za P1;have A:=za O;clear C O P0 P1;have U:(s.toList==s.toList)=true:=by simp
  go_wp2;go_loopw [15,16,17,18,19,74] (λ_ _ _ _ _ iv W=>∃j:Nat,j<=ks.length/\Below G.heap.size G W/\iv=.int .i64 j) (λ_ _ _ _ _ iv _=>ks.length-(intOf iv).toNat)
  case atStart=>exact⟨0,by omega,zt _ _,rfl⟩
  case round=>
   obtain⟨j,hj,c,rfl⟩:=hrel;have a:=R.out.trans (c.mono (by have:=A.out;omega));have l:=za (H1.out.below a);have I:=c.size;have E:=bd.out.below a;have z:=a8.out.below a;obtain⟨A0,A1⟩:=yD ((a.block _ (by have:=ac.out;omega)).trans HA.out);obtain⟨B0,B1⟩:=yD ((a.block _ (by have:=ac.out;omega)).trans a6.out);obtain⟨x0,x1,x2,x3,x4⟩:=yX ((c.block _ (by have:=A.out;omega)).trans au.out);obtain⟨y0,y1,y2,y3,y4⟩:=yX ((c.block _ (by have:=A.out;omega)).trans ao.out);have am:=za (S.out.trans (c.mono S.out.size));have F:=za c;clear c a;by_cases ax:j<ks.length
   .obtain⟨u,hu⟩:∃u,ks[j]?=some u:=⟨ks[j],zc ax⟩
    have q:=AM hu (x+1);obtain⟨q1,z1,rfl,_,d1⟩:=E.at q;obtain⟨q2,z2,rfl,_,d2⟩:=z.at q;have B:=ai.out.kid hu;have b8:=B.le;have aw:=za B;have HU:=za hu;clear E z q hu B;generalize hY:x+1+T.sizes (ks.take j)=Y at*;have HY:=za hY;clear hY;have Q:yw (Y:Int):=Ci (by omega) (by omega);have f:∀m,(ec 67 (.map (some M1)) (.int .i64 (Y:Int)) true).run Tryz.prog (wr.drewN m)=.ok (.tuple #[.int .i64 ((g Y).getD 0),.bool (g Y).isSome]) (wr.drewN m):=λm=>Am.look_ok (n:=n1) (l.out.one.map.below (yk (n:=m) (zt _ _)) l.out.one.map.lt) Q;have d:∀m,(ec 67 (.map (some M2)) (.int .i64 (Y:Int)) true).run Tryz.prog (wr.drewN m)=.ok (.tuple #[.int .i64 ((g Y).getD 0),.bool (g Y).isSome]) (wr.drewN m):=λm=>Am.look_ok (n:=n2) (l.out.two.map.below (yk (n:=m) (zt _ _)) l.out.two.map.lt) Q;cases hgY:g Y with
    |some o=>
     rw[hgY]at f d;simp only[eE,zaP]at f d;have bt:(o==o)=true:=by simp
     clear hgY;go_wp2;go_quiet (fail);go_wp2;go_quiet (fail);go_wp2;go_roundw
     case rel=>exact⟨j+1,by omega,by first|exact yk F.out|exact yk (yk F.out),by go_num⟩
     case measure=>simp[intOf];omega
    |none=>
     rw[hgY]at f d;simp only[iP,zad]at f d;have al:=za hgY;have HI:eW (∀m,zM Tryz.prog 37 #[JA (some ⟨r1,o1,none⟩) rs.length c1 M1,JA (some ⟨r2,o2,none⟩) rs.length c2 M2,.int .i64 Y,.int .i64 Y] (wr.drewN m) λe w'=>e=.returned (.bool true)/\Below wr.heap.size (wr.drewN m) w'):=za λm=>ih u (zq HU.out) Y x (wr.drewN m) aw.out al.out (l.out.below (yk (n:=m) (zt _ _)));clear hgY;go_wp2;go_quiet (fail);go_wp2;go_quiet (fail);go_wp2;generalize _+nq=mm;obtain⟨i,b⟩:∃i,i=wr.drewN mm:=⟨_,rfl⟩
     have HQ:=HI.out (mm+1);rw[show wr.drewN (mm+1)=i.drew by rw[b];rfl]at HQ;have ar:Below wr.heap.size wr i:=by rw[b];exact yk (zt _ _)
     rw[<-b];have t1:=(show i.cell? ⟨w.heap.size,0,none⟩=wr.cell? ⟨w.heap.size,0,none⟩ by rw[b];rfl).trans A0;have t2:=(show i.cell? ⟨w.heap.size,1,none⟩=wr.cell? ⟨w.heap.size,1,none⟩ by rw[b];rfl).trans A1;have t3:=(show i.cell? ⟨w.heap.size+1,0,none⟩=wr.cell? ⟨w.heap.size+1,0,none⟩ by rw[b];rfl).trans B0;have t4:=(show i.cell? ⟨w.heap.size+1,1,none⟩=wr.cell? ⟨w.heap.size+1,1,none⟩ by rw[b];rfl).trans B1;have t5:=(show i.cell? ⟨r.heap.size,4,none⟩=wr.cell? ⟨r.heap.size,4,none⟩ by rw[b];rfl).trans x4;have t6:=(show i.cell? ⟨r.heap.size+1,4,none⟩=wr.cell? ⟨r.heap.size+1,4,none⟩ by rw[b];rfl).trans y4;have t7:=(show i.cell? ⟨q1,z1+j,none⟩=wr.cell? ⟨q1,z1+j,none⟩ by rw[b];rfl).trans d1;have t8:=(show i.cell? ⟨q2,z2+j,none⟩=wr.cell? ⟨q2,z2+j,none⟩ by rw[b];rfl).trans d2;have av:=za HQ;clear b HQ;go_still_tail 12,(by kernel_rfl)
     go_wp2_with fail;refine av.out.mono ?_;rintro e w9 ⟨rfl,ay⟩;have ap:Below G.heap.size G w9:=F.out.trans (Below.mono (ar.drew.trans ay) I);go_wp2;go_roundw
     case rel=>exact⟨j+1,by omega,ap,by go_num⟩
     case measure=>simp[intOf];omega
   .obtain rfl:j=ks.length:=by omega
    clear E z;go_wp2;go_ret;exact⟨rfl,am.out⟩
 .obtain⟨G,X⟩:∃G,G=((r.alloc (.cells #[.int .i64 p,.int .i64 k,.string s,.slice M ga.length H,.slice aa ks.length P] 85)).alloc (.cells #[.int .i64 p,.int .i64 k,.string s,.slice L ga.length N,.slice ab ks.length V] 85)).drew:=⟨_,rfl⟩
  have TB:=GD r (.cells #[.int .i64 p,.int .i64 k,.string s,.slice M ga.length H,.slice aa ks.length P] 85) (.cells #[.int .i64 p,.int .i64 k,.string s,.slice L ga.length N,.slice ab ks.length V] 85);rw[<-X]at TB⊢;clear X;obtain⟨P0,P1,C,O⟩:=TB;obtain⟨x0,x1,x2,x3,x4⟩:=yX P0;obtain⟨y0,y1,y2,y3,y4⟩:=yX P1;have S:=za (ae.out.trans (C.mono ae.out.size));have R:=za C;have au:=za P0;have ao:=za P1;have A:=za O;clear C O P0 P1;have U:(s.toList==s.toList)=true:=by simp
  go_wp2;go_loopw [15,16,17,18,19,74] (λ_ _ _ _ _ iv W=>∃j:Nat,j<=ks.length/\Below G.heap.size G W/\iv=.int .i64 j) (λ_ _ _ _ _ iv _=>ks.length-(intOf iv).toNat)
  case atStart=>exact⟨0,by omega,zt _ _,rfl⟩
  case round=>
   obtain⟨j,hj,c,rfl⟩:=hrel;have a:=R.out.trans (c.mono (by have:=A.out;omega));have l:=za (H1.out.below a);have I:=c.size;have E:=bd.out.below a;have z:=a8.out.below a;obtain⟨A0,A1⟩:=yD ((a.block _ (by have:=ac.out;omega)).trans HA.out);obtain⟨B0,B1⟩:=yD ((a.block _ (by have:=ac.out;omega)).trans a6.out);obtain⟨x0,x1,x2,x3,x4⟩:=yX ((c.block _ (by have:=A.out;omega)).trans au.out);obtain⟨y0,y1,y2,y3,y4⟩:=yX ((c.block _ (by have:=A.out;omega)).trans ao.out);have am:=za (S.out.trans (c.mono S.out.size));have F:=za c;clear c a;by_cases ax:j<ks.length
   .obtain⟨u,hu⟩:∃u,ks[j]?=some u:=⟨ks[j],zc ax⟩
    have q:=AM hu (x+1);obtain⟨q1,z1,rfl,_,d1⟩:=E.at q;obtain⟨q2,z2,rfl,_,d2⟩:=z.at q;have B:=ai.out.kid hu;have b8:=B.le;have aw:=za B;have HU:=za hu;clear E z q hu B;generalize hY:x+1+T.sizes (ks.take j)=Y at*;have HY:=za hY;clear hY;have Q:yw (Y:Int):=Ci (by omega) (by omega);have f:∀m,(ec 67 (.map (some M1)) (.int .i64 (Y:Int)) true).run Tryz.prog (wr.drewN m)=.ok (.tuple #[.int .i64 ((g Y).getD 0),.bool (g Y).isSome]) (wr.drewN m):=λm=>Am.look_ok (n:=n1) (l.out.one.map.below (yk (n:=m) (zt _ _)) l.out.one.map.lt) Q;have d:∀m,(ec 67 (.map (some M2)) (.int .i64 (Y:Int)) true).run Tryz.prog (wr.drewN m)=.ok (.tuple #[.int .i64 ((g Y).getD 0),.bool (g Y).isSome]) (wr.drewN m):=λm=>Am.look_ok (n:=n2) (l.out.two.map.below (yk (n:=m) (zt _ _)) l.out.two.map.lt) Q;cases hgY:g Y with
    |some o=>
     rw[hgY]at f d;simp only[eE,zaP]at f d;have bt:(o==o)=true:=by simp
     clear hgY;go_wp2;go_quiet (fail);go_wp2;go_quiet (fail);go_wp2;go_roundw
     case rel=>exact⟨j+1,by omega,by first|exact yk F.out|exact yk (yk F.out),by go_num⟩
     case measure=>simp[intOf];omega
    |none=>
     rw[hgY]at f d;simp only[iP,zad]at f d;have al:=za hgY;have HI:eW (∀m,zM Tryz.prog 37 #[JA (some ⟨r1,o1,none⟩) rs.length c1 M1,JA (some ⟨r2,o2,none⟩) rs.length c2 M2,.int .i64 Y,.int .i64 Y] (wr.drewN m) λe w'=>e=.returned (.bool true)/\Below wr.heap.size (wr.drewN m) w'):=za λm=>ih u (zq HU.out) Y x (wr.drewN m) aw.out al.out (l.out.below (yk (n:=m) (zt _ _)));clear hgY;go_wp2;go_quiet (fail);go_wp2;go_quiet (fail);go_wp2;generalize _+nq=mm;obtain⟨i,b⟩:∃i,i=wr.drewN mm:=⟨_,rfl⟩
     have HQ:=HI.out (mm+1);rw[show wr.drewN (mm+1)=i.drew by rw[b];rfl]at HQ;have ar:Below wr.heap.size wr i:=by rw[b];exact yk (zt _ _)
     rw[<-b];have t1:=(show i.cell? ⟨w.heap.size,0,none⟩=wr.cell? ⟨w.heap.size,0,none⟩ by rw[b];rfl).trans A0;have t2:=(show i.cell? ⟨w.heap.size,1,none⟩=wr.cell? ⟨w.heap.size,1,none⟩ by rw[b];rfl).trans A1;have t3:=(show i.cell? ⟨w.heap.size+1,0,none⟩=wr.cell? ⟨w.heap.size+1,0,none⟩ by rw[b];rfl).trans B0;have t4:=(show i.cell? ⟨w.heap.size+1,1,none⟩=wr.cell? ⟨w.heap.size+1,1,none⟩ by rw[b];rfl).trans B1;have t5:=(show i.cell? ⟨r.heap.size,4,none⟩=wr.cell? ⟨r.heap.size,4,none⟩ by rw[b];rfl).trans x4;have t6:=(show i.cell? ⟨r.heap.size+1,4,none⟩=wr.cell? ⟨r.heap.size+1,4,none⟩ by rw[b];rfl).trans y4;have t7:=(show i.cell? ⟨q1,z1+j,none⟩=wr.cell? ⟨q1,z1+j,none⟩ by rw[b];rfl).trans d1;have t8:=(show i.cell? ⟨q2,z2+j,none⟩=wr.cell? ⟨q2,z2+j,none⟩ by rw[b];rfl).trans d2;have av:=za HQ;clear b HQ;go_still_tail 12,(by kernel_rfl)
     go_wp2_with fail;refine av.out.mono ?_;rintro e w9 ⟨rfl,ay⟩;have ap:Below G.heap.size G w9:=F.out.trans (Below.mono (ar.drew.trans ay) I);go_wp2;go_roundw
     case rel=>exact⟨j+1,by omega,ap,by go_num⟩
     case measure=>simp[intOf];omega
   .obtain rfl:j=ks.length:=by omega
    clear E z;go_wp2;go_ret;exact⟨rfl,am.out⟩
noncomputable def gTw(gt:Int->Option Int)(C:List Nat):Int->Option Int:=λi=>if∃c∈C,i=((c:Nat):Int)then some i else gt i
theorem Sb(gt:Int->Option Int)(A B:List Nat)(i:Int):gTw (gTw gt A) B i=gTw gt (A++B) i:=by
 unfold gTw;by_cases b:∃c∈B,i=(c:Int)
 .obtain⟨c,a,e⟩:=b;rw[if_pos ⟨c,a,e⟩,if_pos ⟨c,List.mem_append_right _ a,e⟩]
 .rw[if_neg b];by_cases d:∃c∈A,i=(c:Int)
  .obtain⟨c,a,e⟩:=d;rw[if_pos ⟨c,a,e⟩,if_pos ⟨c,List.mem_append_left _ a,e⟩]
  .rw[if_neg d,if_neg];rintro⟨c,a,e⟩;rcases eZ.1 a with h|h
   .exact d ⟨c,h,e⟩
   .exact b ⟨c,h,e⟩
theorem V7(gt:Int->Option Int)(x:Nat)(i:Int):Wt gt x x i=gTw gt [x] i:=by
 unfold Wt gTw;by_cases e:i=x
 .rw[if_pos e,if_pos ⟨x,by simp,e⟩,e]
 .rw[if_neg e,if_neg];rintro⟨c,a,h⟩;rw[List.mem_singleton]at a;subst a;exact e h
theorem Od(p1:Option oh)(c1 M1 n1:Nat)(p2:Option oh)(c2 M2 n2:Nat)(rs:List An)(g:Int->Option Int)(hn:rs.length<=1000)(M3:Nat)(w0:ze)(h0:GV w0 p1 c1 M1 n1 p2 c2 M2 n2 rs g)(hM3:w0.heap.size<=M3):∀(t:T)(x:Nat)(p:Int)(w:ze)(nT:Nat)(gt:Int->Option Int),Seg rs x p t->g x=none->Below w0.heap.size w0 w->Am w M3 nT gt->nT+t.size<=1000000->zM Tryz.prog 38 #[JA p1 rs.length c1 M1,JA p2 rs.length c2 M2,.int .i64 x,.int .i64 x,.map (some M3)] w λe w'=>e=.returned (.tuple #[])/\Am w' M3 (nT+t.size) (gTw gt (t.comp g x))/\w.grownBy w' (some M3):=by
 refine T.ind λk s ga ks ih x p w nT gt hseg hg hbw O hnT=>?_;rw[T.size]at hnT⊢;have hx:x<rs.length:=by have:=hseg.le;have:=T.size_pos (.mk k s ga ks);omega
 have b3:ks.length<=1000:=by have h1:=hseg.le;have h2:=T.length_sizes ks;rw[T.size]at h1;omega
 have az:=O.lt;obtain⟨v,I,rfl,av,bu,br,e0,e1,e2,e3,e4,B,b⟩:=h0.one.rows.at hseg.row;obtain⟨A,G,rfl,ay,bq,bv,f0,f1,f2,f3,f4,y,a⟩:=h0.two.rows.at hseg.row;simp only at e0 e1 e2 e3 e4 f0 f1 f2 f3 f4 B b y a;obtain⟨af,ab,rfl⟩:=b.slice;obtain⟨ac,U,rfl⟩:=a.slice;rw[yK]at e4 f4 b a;obtain⟨f,c⟩:∃f,f=(w.alloc (.cells #[.slice (some ⟨v,I,none⟩) rs.length c1,.map (some M1)] 87)).alloc (.cells #[.slice (some ⟨A,G,none⟩) rs.length c2,.map (some M2)] 87):=⟨_,rfl⟩
 have r:Below w.heap.size w f:=by rw[c];exact(ya _).trans ((ya _).mono (by simp))
 have V:f.heap.size=w.heap.size+2:=by rw[c];simp
 have hA:f.heap[w.heap.size]?=some (.cells #[.slice (some ⟨v,I,none⟩) rs.length c1,.map (some M1)] 87 (0,0)):=by rw[c];exact((ya _).block _ (by simp)).trans (zx _ _)
 have hB:f.heap[w.heap.size+1]?=some (.cells #[.slice (some ⟨A,G,none⟩) rs.length c2,.map (some M2)] 87 (0,0)):=by have h:=zx (w.alloc (.cells #[.slice (some ⟨v,I,none⟩) rs.length c1,.map (some M1)] 87)) (.cells #[.slice (some ⟨A,G,none⟩) rs.length c2,.map (some M2)] 87);rw[ye]at h;rw[c];exact h
 have ak:yw (x:Int):=Ci (by omega) (by omega);have aq:eW (Am f M3 nT gt):=za (O.below r az);have z:eW (Below w0.heap.size w0 f):=za (hbw.trans (r.mono hbw.size));have HA:=za hA;have ao:=za hB;have al:=za V;have aa:=za hseg;have an:eW (w.grownBy f (some M3)):=za (yM (row:=some M3) r);have H0:=za h0;have bj:=hbw.size;clear r V hA hB O h0;have HC:eW (∀W,f.grownBy W (some M3)->Below w0.heap.size w0 W/\W.heap[w.heap.size]?=some (.cells #[.slice (some ⟨v,I,none⟩) rs.length c1,.map (some M1)] 87 (0,0))/\W.heap[w.heap.size+1]?=some (.cells #[.slice (some ⟨A,G,none⟩) rs.length c2,.map (some M2)] 87 (0,0))/\GV W (some ⟨v,I,none⟩) c1 M1 n1 (some ⟨A,G,none⟩) c2 M2 n2 rs g/\W.cell? ⟨v,I+x*5+4,none⟩=some (.slice af ks.length ab)/\W.cell? ⟨A,G+x*5+4,none⟩=some (.slice ac ks.length U)/\yo W (.slice af ks.length ab) (yO (x+1) ks)/\yo W (.slice ac ks.length U) (yO (x+1) ks)):=za λW hW=>by have N:Below w0.heap.size w0 W:=yd z.out hW (λk e=>by cases e;exact hM3) z.out.size;have:=al.out;exact⟨N,(hW.block _ (by omega) (by simp;omega)).trans HA.out,(hW.block _ (by omega) (by simp;omega)).trans ao.out,H0.out.below N,(N.cell (p:=⟨v,_,none⟩) av).trans e4,(N.cell (p:=⟨A,_,none⟩) ay).trans f4,b.below N,a.below N⟩
 clear e0 e1 e2 e3 e4 f0 f1 f2 f3 f4 B y b a;go_enter Tryz.func38,Tryz.ntmps38;go_wp2_with (at_mapUpdate;rw[<-c];refine yS rfl _ _ _ 67 3 rfl Tryz.underlying67 M3 nT _ rfl aq.out (by simp[maxLen];omega) x rfl ak ?_;intro w2 Z J;obtain⟨_,n,d,_,k1,k2,_,_⟩:=HC.out w2 (ik J);obtain⟨a0,a1⟩:=yD n;obtain⟨b0,b1⟩:=yD d);clear c;have am:=za (ik J);have au:eW (Am w2 M3 (nT+1+T.sizes (ks.take 0)) (gTw gt (x::T.compL g (x+1) (ks.take 0)))):=za (Am.congr (Am.put Z) λi=>by rw[V7];simp[T.compL]);clear Z J n d a0 a1 b0 b1 k1 k2;go_loopw [10,11,12,13,24] (λ_ _ _ _ iv W=>∃j:Nat,j<=ks.length/\Am W M3 (nT+1+T.sizes (ks.take j)) (gTw gt (x::T.compL g (x+1) (ks.take j)))/\f.grownBy W (some M3)/\iv=.int .i64 j) (λ_ _ _ _ iv _=>ks.length-(intOf iv).toNat)
 case atStart=>exact⟨0,by omega,au.out,am.out,rfl⟩
 case round=>
  obtain⟨j,hj,O,H,rfl⟩:=hrel;obtain⟨Q,n,d,m,k1,k2,L,D⟩:=HC.out wr H;obtain⟨a0,a1⟩:=yD n;obtain⟨b0,b1⟩:=yD d;have HT:=za O;have F:=za H;have bw:=za m;have a2:=za Q;clear O H n d Q;by_cases aw:j<ks.length
  .obtain⟨u,M⟩:∃u,ks[j]?=some u:=⟨ks[j],zc aw⟩
   have l:=AM M (x+1);obtain⟨q1,z1,rfl,_,d1⟩:=L.at l;obtain⟨q2,z2,rfl,_,d2⟩:=D.at l;have E:=aa.out.kid M;have bz:=E.le;have ap:=za E;have HU:=za M;have S:=T.sizes_take M;have a7:T.sizes (ks.take (j+1))<=T.sizes ks:=by have:=T.sizes_append (ks.take (j+1)) (ks.drop (j+1));rw[oz]at this;omega
   have R:=za (T.compL_take (g:=g) M (x+1));have C:=za S;clear L D l M E S;generalize hY:x+1+T.sizes (ks.take j)=Y at*;have HY:=za hY;clear hY;have X:yw (Y:Int):=Ci (by omega) (by omega);cases hgY:g Y with
   |some o=>
    have hl:=m.one.map.look_some X hgY;have q:eW (g Y≠none):=za (by rw[hgY];simp);clear hgY m;go_wp2;go_roundw
    case rel=>refine⟨j+1,by omega,?_,F.out,by go_num⟩;rw[R.out,if_neg q.out,List.append_nil,C.out];exact Ae.mono HT.out (by omega)
    case measure=>simp[intOf];omega
   |none=>
    have hl:=m.one.map.look_none X hgY;have q:=za hgY;clear hgY m;have HI:eW (zM Tryz.prog 38 #[JA (some ⟨v,I,none⟩) rs.length c1 M1,JA (some ⟨A,G,none⟩) rs.length c2 M2,.int .i64 Y,.int .i64 Y,.map (some M3)] wr.drew λe w'=>e=.returned (.tuple #[])/\Am w' M3 (nT+1+T.sizes (ks.take j)+u.size) (gTw (gTw gt (x::T.compL g (x+1) (ks.take j))) (u.comp g Y))/\wr.grownBy w' (some M3)):=za (by refine(ih u (zq HU.out) Y x wr.drew (nT+1+T.sizes (ks.take j)) _ ap.out q.out a2.out.drew (Am.below HT.out ((zt _ _).drew) HT.out.lt) (by have:=C.out;omega)).mono ?_;rintro e w' ⟨h1,h2,h3⟩;exact⟨h1,h2,⟨h3.os,h3.tape,h3.output,h3.size,h3.block⟩⟩);go_wp2;go_still_tail 13,(by kernel_rfl)
    go_wp2_with fail;refine HI.out.mono ?_;rintro e w9 ⟨rfl,ae,P⟩;have ar:=za ae;have ax:=za P;clear ae P;go_wp2;go_roundw
    case rel=>refine⟨j+1,by omega,?_,yc F.out ax.out,by go_num⟩;rw[R.out,if_pos q.out,C.out];refine Am.congr (Ae.mono ar.out (by omega)) λi=>?_;rw[Sb];rfl
    case measure=>simp[intOf];omega
  .obtain rfl:j=ks.length:=by omega
   clear L D;go_wp2;go_end0;refine⟨rfl,?_,yc an.out F.out⟩;have h:=HT.out;rw[zY]at h;rw[T.comp,show nT+(1+T.sizes ks)=nT+1+T.sizes ks by omega];exact h
end Go.Proofs
