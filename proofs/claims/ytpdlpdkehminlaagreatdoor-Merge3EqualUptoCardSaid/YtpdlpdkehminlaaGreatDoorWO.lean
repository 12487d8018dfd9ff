/-
  Part of the proof: merge3.Merge: the answers with an error.
-/
import Derived.Test.YtpdlpdkehminlaaGreatDoorWN
import Derived.Test.YtpdlpdkehminlaaGreatDoorRows
import Derived.Deep.Slices
import Derived.Deep.Fields
import Derived.ChangeSame
set_option linter.all false
set_option maxRecDepth 100000
set_option maxHeartbeats 20000000
open Array renaming length_toList->oH
open Bool renaming and_eq_true->zo
open Classical renaming byContradiction->eM
open Go renaming Calls->zM,DataW->l7,MemPlace->oN,Value->zg,World->ze,bodyPost_ret->eG,cell_of_row->zV,frozen_of_row->zk,heap_alloc_new->zx,results_cell_row->zbP
open Go.Addr renaming add->zbF
open Go.DataW renaming trod->l9,trod_int->zbC,trod_slice->zba,trod_string->zcP,trod_struct->zcQ
open Go.Deep renaming add_add->l6
open Go.Lib renaming hid->za
open Go.RowKit renaming Hid->eW
open Go.RowKit.Below renaming refl->zt
open Go.World renaming cell?->zS,cells?_some->za0,ownsRow_nil->ed
open Int renaming toNat_natCast->zbu
open List renaming find?_some->zdv,getD->zbn,getElem?_cons_zero->zW,getElem?_eq_getElem->zc,getElem?_eq_some_iff->zm,getElem_of_mem->zaK,map_cons->iZ,mem_cons->zO,mem_cons_of_mem->eJ,mem_cons_self->eO,mem_of_find?_eq_some->zbS,mem_of_getElem?->zq,mem_reverse->zbf,pairwise_iff_getElem->zbR,range->ev
open Nat renaming add_assoc->iH,add_comm->zbk,le_refl->zn
open Option renaming bind_eq_some_iff->zu,getD_none->iP,getD_some->eE,isSome_iff_exists->lR
open Option.some renaming inj->eF,injEq->zb
namespace Go.Proofs
open Go.RowKit Go.Maps Go.MapKept
open Classical
noncomputable def Bx(tb tl tr:T)(l r:List (Int×Int)):Int:=
 if BD [tb,tl,tr]≠0 then BD [tb,tl,tr]else if Aj tb.k tl.k (tb.rows 0 (-1)) (tl.rows 0 (-1)) l≠0 then Aj tb.k tl.k (tb.rows 0 (-1)) (tl.rows 0 (-1)) l
 else if Aj tb.k tr.k (tb.rows 0 (-1)) (tr.rows 0 (-1)) r≠0 then Aj tb.k tr.k (tb.rows 0 (-1)) (tr.rows 0 (-1)) r else if tb.k≠tl.k\/tb.k≠tr.k then 7 else 0
theorem Ph(tb tl tr:T)(gb kb gl kl gr kr lv rv:zg)(pk:zg)(l r:List (Int×Int))(w:ze)(hb:tb.Lies w gb kb)(hl:tl.Lies w gl kl)(hr:tr.Lies w gr kr)(hS:Bh w)(hlv:Ao w lv l)(hrv:Ao w rv r)(hpk:∃p n c,pk=.slice p n c)(sb:tb.size<=300)(sl:tl.size<=300)(sr:tr.size<=300)(bb:tb.bulk<=1048576)(bl:tl.bulk<=1048576)(br:tr.bulk<=1048576)(nl:l.length<=1000)(nr:r.length<=1000)(he:Bx tb tl tr l r≠0):zM Tryz.prog 8 #[yJ tb.k tb.s gb kb,yJ tl.k tl.s gl kl,yJ tr.k tr.s gr kr,lv,rv,pk] w λe w'=>e=.returned (.tuple #[.agg #[.int .i64 0,.string .empty,.slice none 0 0,.slice none 0 0],.slice none 0 0,.int .i64 (Bx tb tl tr l r)])/\Below w.heap.size w w':=by
 obtain⟨m,j,rfl⟩:=hb.kids.slice;obtain⟨o,i,rfl⟩:=hb.gaps.slice;obtain⟨q,G,rfl⟩:=hl.kids.slice;obtain⟨A,x,rfl⟩:=hl.gaps.slice;obtain⟨t,F,rfl⟩:=hr.kids.slice;obtain⟨H,y,rfl⟩:=hr.gaps.slice;obtain⟨pl,cl,rfl⟩:=hlv.slice;obtain⟨pr,cr,rfl⟩:=hrv.slice;obtain⟨pp,np,cp,rfl⟩:=hpk;obtain⟨P0,P1,P2,L,R⟩:=D9 w (.cells #[.int .i64 tb.k,.string tb.s,.slice o tb.g.length i,.slice m tb.ks.length j] 25) (.cells #[.int .i64 tl.k,.string tl.s,.slice A tl.g.length x,.slice q tl.ks.length G] 25) (.cells #[.int .i64 tr.k,.string tr.s,.slice H tr.g.length y,.slice t tr.ks.length F] 25);obtain⟨D,M⟩:∃D,D=(((w.alloc (.cells #[.int .i64 tb.k,.string tb.s,.slice o tb.g.length i,.slice m tb.ks.length j] 25)).alloc (.cells #[.int .i64 tl.k,.string tl.s,.slice A tl.g.length x,.slice q tl.ks.length G] 25)).alloc (.cells #[.int .i64 tr.k,.string tr.s,.slice H tr.g.length y,.slice t tr.ks.length F] 25)).alloc (.cells #[.int .i64 0,.string ⟨#[]⟩,.slice none 0 0,.slice none 0 0] 25):=⟨_,rfl⟩
 have X:Below w.heap.size w D:=by rw[M];exact L.trans ((ya _).mono (by omega))
 have Z:D.heap.size=w.heap.size+4:=by rw[M,ye,R]
 have P3:D.heap[w.heap.size+3]?=some (.cells #[.int .i64 0,.string ⟨#[]⟩,.slice none 0 0,.slice none 0 0] 25 (0,0)):=by rw[M,<-R];exact zx _ _
 have Q0:=((ya (w:=(((w.alloc (.cells #[.int .i64 tb.k,.string tb.s,.slice o tb.g.length i,.slice m tb.ks.length j] 25)).alloc (.cells #[.int .i64 tl.k,.string tl.s,.slice A tl.g.length x,.slice q tl.ks.length G] 25)).alloc (.cells #[.int .i64 tr.k,.string tr.s,.slice H tr.g.length y,.slice t tr.ks.length F] 25))) (.cells #[.int .i64 0,.string ⟨#[]⟩,.slice none 0 0,.slice none 0 0] 25)).block w.heap.size (by omega)).trans P0;have Q1:=((ya (w:=(((w.alloc (.cells #[.int .i64 tb.k,.string tb.s,.slice o tb.g.length i,.slice m tb.ks.length j] 25)).alloc (.cells #[.int .i64 tl.k,.string tl.s,.slice A tl.g.length x,.slice q tl.ks.length G] 25)).alloc (.cells #[.int .i64 tr.k,.string tr.s,.slice H tr.g.length y,.slice t tr.ks.length F] 25))) (.cells #[.int .i64 0,.string ⟨#[]⟩,.slice none 0 0,.slice none 0 0] 25)).block (w.heap.size+1) (by omega)).trans P1;have Q2:=((ya (w:=(((w.alloc (.cells #[.int .i64 tb.k,.string tb.s,.slice o tb.g.length i,.slice m tb.ks.length j] 25)).alloc (.cells #[.int .i64 tl.k,.string tl.s,.slice A tl.g.length x,.slice q tl.ks.length G] 25)).alloc (.cells #[.int .i64 tr.k,.string tr.s,.slice H tr.g.length y,.slice t tr.ks.length F] 25))) (.cells #[.int .i64 0,.string ⟨#[]⟩,.slice none 0 0,.slice none 0 0] 25)).block (w.heap.size+2) (by omega)).trans P2;rw[<-M]at Q0 Q1 Q2;clear P0 P1 P2 L R;have V:eW (∀W,Below D.heap.size D W->W.heap[w.heap.size]?=some (.cells #[.int .i64 tb.k,.string tb.s,.slice o tb.g.length i,.slice m tb.ks.length j] 25 (0,0))/\W.heap[w.heap.size+1]?=some (.cells #[.int .i64 tl.k,.string tl.s,.slice A tl.g.length x,.slice q tl.ks.length G] 25 (0,0))/\W.heap[w.heap.size+2]?=some (.cells #[.int .i64 tr.k,.string tr.s,.slice H tr.g.length y,.slice t tr.ks.length F] 25 (0,0))/\W.heap[w.heap.size+3]?=some (.cells #[.int .i64 0,.string ⟨#[]⟩,.slice none 0 0,.slice none 0 0] 25 (0,0))):=za λW h=>⟨(h.block _ (by omega)).trans Q0,(h.block _ (by omega)).trans Q1,(h.block _ (by omega)).trans Q2,(h.block _ (by omega)).trans P3⟩
 have be:=za X;have bd:=za Z;have b:eW (∀W,Below D.heap.size D W->Below w.heap.size w W):=za λW h=>X.trans (h.mono (by omega));have ao:eW (∀W,Below D.heap.size D W->zM Tryz.prog 18 #[yJ tb.k tb.s (.slice o tb.g.length i) (.slice m tb.ks.length j),yJ tl.k tl.s (.slice A tl.g.length x) (.slice q tl.ks.length G),yJ tr.k tr.s (.slice H tr.g.length y) (.slice t tr.ks.length F)] W λe w'=>e=.returned (.int .i64 (BD [tb,tl,tr]))/\Below W.heap.size W w'):=za λW h=>by have:=GN tb tl tr _ _ _ _ _ _ W (T.Lies.below (b.out W h) tb hb) (T.Lies.below (b.out W h) tl hl) (T.Lies.below (b.out W h) tr hr) (hS.below (b.out W h)) ⟨T.fine_bulk tb bb,sb⟩ ⟨T.fine_bulk tl bl,sl⟩ ⟨T.fine_bulk tr br,sr⟩;exact this
 have an:eW (∀W,Below D.heap.size D W->zM Tryz.prog 19 #[yJ tb.k tb.s (.slice o tb.g.length i) (.slice m tb.ks.length j),yJ tl.k tl.s (.slice A tl.g.length x) (.slice q tl.ks.length G),.slice pl l.length cl] W λe w'=>e=.returned (.int .i64 (Aj tb.k tl.k (tb.rows 0 (-1)) (tl.rows 0 (-1)) l))/\Below W.heap.size W w'):=za λW h=>by have:=BJ tb tl _ _ _ _ _ l W (T.Lies.below (b.out W h) tb hb) (T.Lies.below (b.out W h) tl hl) (hlv.below (b.out W h)) sb sl bb bl nl;exact this
 have aw:eW (∀W,Below D.heap.size D W->zM Tryz.prog 19 #[yJ tb.k tb.s (.slice o tb.g.length i) (.slice m tb.ks.length j),yJ tr.k tr.s (.slice H tr.g.length y) (.slice t tr.ks.length F),.slice pr r.length cr] W λe w'=>e=.returned (.int .i64 (Aj tb.k tr.k (tb.rows 0 (-1)) (tr.rows 0 (-1)) r))/\Below W.heap.size W w'):=za λW h=>by have:=BJ tb tr _ _ _ _ _ r W (T.Lies.below (b.out W h) tb hb) (T.Lies.below (b.out W h) tr hr) (hrv.below (b.out W h)) sb sr bb br nr;exact this
 obtain⟨E,I⟩:∃E,E=Bx tb tl tr l r:=⟨_,rfl⟩
 rw[<-I]at he⊢;unfold Bx at I;clear hb hl hr hS hlv hrv X Q0 Q1 Q2 P3 Z sb sl sr bb bl br nl nr;generalize BD [tb,tl,tr]=c0 at*;generalize Aj tb.k tl.k (tb.rows 0 (-1)) (tl.rows 0 (-1)) l=c1 at*;generalize Aj tb.k tr.k (tb.rows 0 (-1)) (tr.rows 0 (-1)) r=c2 at*;have B:eW (∀W,Below D.heap.size D W->∀x0 x1 x2 x3,Below w.heap.size w ((((W.setCell ⟨w.heap.size+3,0,none⟩ x0).setCell ⟨w.heap.size+3,1,none⟩ x1).setCell ⟨w.heap.size+3,2,none⟩ x2).setCell ⟨w.heap.size+3,3,none⟩ x3)):=za λW h x0 x1 x2 x3=>yd (b.out W h) (AT W (w.heap.size+3) x0 x1 x2 x3) (λk e=>by cases e;omega) (b.out W h).size;go_enter Tryz.func8,Tryz.ntmps8;go_wp2_with fail;rw[<-M];clear M;refine(ao.out _ (zt _ _)).mono ?_;rintro e Q ⟨rfl,z⟩;obtain⟨N,P,O,a⟩:=V.out Q z;by_cases h0:c0=0
 .subst h0;rw[if_neg (λh=>h rfl)]at I;obtain⟨a0,a1,a2,a3⟩:=yi N;obtain⟨S,d1,d2,d3⟩:=yi P;clear N P O a;go_wp2_with fail;refine(an.out _ z).mono ?_;rintro e U ⟨rfl,L⟩;have d:=z.trans (L.mono z.size);clear a0 a1 a2 a3 S d1 d2 d3;obtain⟨N,P,O,a⟩:=V.out U d;by_cases h1:c1=0
  .subst h1;rw[if_neg (λh=>h rfl)]at I;obtain⟨a0,a1,a2,a3⟩:=yi N;obtain⟨S,d1,d2,d3⟩:=yi O;clear N P O a;go_wp2_with fail;refine(aw.out _ d).mono ?_;rintro e J ⟨rfl,aa⟩;have v:=d.trans (aa.mono d.size);clear a0 a1 a2 a3 S d1 d2 d3 z L d aa;obtain⟨N,P,O,a⟩:=V.out J v;by_cases h2:c2=0
   .subst h2;rw[if_neg (λh=>h rfl)]at I;have h7:tb.k≠tl.k\/tb.k≠tr.k:=by
     by_cases h:tb.k≠tl.k\/tb.k≠tr.k
     .exact h
     .rw[if_neg h]at I;exact absurd I he
    rw[if_pos h7]at I;subst I;obtain⟨a0,a1,a2,a3⟩:=yi N;obtain⟨S,d1,d2,d3⟩:=yi P;obtain⟨g0,g1,g2,g3⟩:=yi O;obtain⟨z0,z1,z2,z3⟩:=yi a;have q0:=zk J (w.heap.size+3) 0 _ _ a;have q1:=zk J (w.heap.size+3) 1 _ _ a;have q2:=zk J (w.heap.size+3) 2 _ _ a;have q3:=zk J (w.heap.size+3) 3 _ _ a;have C:=za a;have f:=za v;clear N P O a v;by_cases Y:tb.k=tl.k
    .have e2:tb.k≠tr.k:=by
      rcases h7 with h|h
      .exact absurd Y h
      .exact h
     have k1:(tb.k !=tl.k)=false:=by simpa using Y
     have k2:(tb.k !=tr.k)=true:=by simpa using e2
     clear Y e2 h7;go_wp2;rw[show w.heap.size+1+1+1=w.heap.size+3 from rfl];exact eG (AI rfl _ _ (w.heap.size+3) _ _ _ rfl (AO J (w.heap.size+3) 25 _ _ _ _ _ _ _ _ C.out) BZ) rfl ⟨rfl,B.out J f.out _ _ _ _⟩
    .have k1:(tb.k !=tl.k)=true:=by simpa using Y
     clear Y h7;go_wp2;rw[show w.heap.size+1+1+1=w.heap.size+3 from rfl];exact eG (AI rfl _ _ (w.heap.size+3) _ _ _ rfl (AO J (w.heap.size+3) 25 _ _ _ _ _ _ _ _ C.out) BZ) rfl ⟨rfl,B.out J f.out _ _ _ _⟩
   .have S:(c2 !=0)=true:=by simpa using h2
    rw[if_pos h2]at I;clear h2 he;subst I;obtain⟨z0,z1,z2,z3⟩:=yi a;have q0:=zk J (w.heap.size+3) 0 _ _ a;have q1:=zk J (w.heap.size+3) 1 _ _ a;have q2:=zk J (w.heap.size+3) 2 _ _ a;have q3:=zk J (w.heap.size+3) 3 _ _ a;have C:=za a;have f:=za v;clear N P O a v;go_wp2;rw[show w.heap.size+1+1+1=w.heap.size+3 from rfl];exact eG (AI rfl _ _ (w.heap.size+3) _ _ _ rfl (AO J (w.heap.size+3) 25 _ _ _ _ _ _ _ _ C.out) BZ) rfl ⟨rfl,B.out J f.out _ _ _ _⟩
  .have S:(c1 !=0)=true:=by simpa using h1
   rw[if_pos h1]at I;clear h1 he z L;subst I;obtain⟨z0,z1,z2,z3⟩:=yi a;have q0:=zk U (w.heap.size+3) 0 _ _ a;have q1:=zk U (w.heap.size+3) 1 _ _ a;have q2:=zk U (w.heap.size+3) 2 _ _ a;have q3:=zk U (w.heap.size+3) 3 _ _ a;have C:=za a;have f:=za d;clear N P O a d;go_wp2;rw[show w.heap.size+1+1+1=w.heap.size+3 from rfl];exact eG (AI rfl _ _ (w.heap.size+3) _ _ _ rfl (AO U (w.heap.size+3) 25 _ _ _ _ _ _ _ _ C.out) BZ) rfl ⟨rfl,B.out U f.out _ _ _ _⟩
 .have S:(c0 !=0)=true:=by simpa using h0
  rw[if_pos h0]at I;subst I;obtain⟨z0,z1,z2,z3⟩:=yi a;have q0:=zk Q (w.heap.size+3) 0 _ _ a;have q1:=zk Q (w.heap.size+3) 1 _ _ a;have q2:=zk Q (w.heap.size+3) 2 _ _ a;have q3:=zk Q (w.heap.size+3) 3 _ _ a;have C:=za a;have ay:=za z;clear N P O a z h0 he;go_wp2;rw[show w.heap.size+1+1+1=w.heap.size+3 from rfl];refine eG (AI rfl _ _ (w.heap.size+3) _ _ _ rfl (AO Q (w.heap.size+3) 25 _ _ _ _ _ _ _ _ C.out) BZ) rfl ⟨rfl,B.out Q ay.out _ _ _ _⟩
structure Nl(A B:List An)(m:List (Int×Int)):Prop where
 rng:∀p∈m,0<=p.1/\p.1<A.length/\0<=p.2/\p.2<B.length
 kind:∀p∈m,(A[p.1.toNat]?).map An.k=(B[p.2.toNat]?).map An.k
 old:m.Pairwise λp q=>p.1<q.1
 new:m.Pairwise λp q=>p.2≠q.2
theorem Qt{A B:List An}:∀(m:List (Int×Int))(last:Int)(used res:List Int),-1<=last->FU A B last used m=some res->Nl A B m/\(∀p∈m,last<p.1/\p.2∉used/\(p.1=0↔p.2=0))/\∀x∈res,x∈used\/∃p∈m,p.2=x
 |[],last,used,res,_,h=>by rw[FU]at h;cases h;exact⟨⟨λp hp=>(by cases hp),λp hp=>(by cases hp),.nil,.nil⟩,λp hp=>(by cases hp),λx hx=>.inl hx⟩
 |(o,n)::m,last,used,res,hl,h=>by
  rw[FU]at h;split at h
  .cases h
  .rename_i h1;split at h
   .cases h
   .rename_i h2;simp only[not_or,Int.not_le,Int.not_lt]at h1;obtain⟨a1,a2,a3,a4,a5⟩:=h1;have f:(A[o.toNat]?).map An.k=(B[n.toNat]?).map An.k:=eM λe=>h2 (.inl e);have c:o=0↔n=0:=eM λe=>h2 (.inr e);obtain⟨a,b,d⟩:=Qt m o (n::used) res (by omega) h;refine⟨⟨λp hp=>?_,λp hp=>?_,?_,?_⟩,λp hp=>?_,λx hx=>?_⟩
    .rcases zO.1 hp with rfl|hp
     .exact⟨by dsimp only;omega,a2,a3,a4⟩
     .exact a.rng p hp
    .rcases zO.1 hp with rfl|hp
     .exact f
     .exact a.kind p hp
    .exact .cons (λp hp=>(b p hp).1) a.old
    .exact .cons (λp hp e=>(b p hp).2.1 (by rw[<-e];exact eO)) a.new
    .rcases zO.1 hp with rfl|hp
     .exact⟨a1,a5,c⟩
     .have:=b p hp;exact⟨by omega,λe=>this.2.1 (eJ _ e),this.2.2⟩
    .rcases d x hx with h|⟨p,hp,e⟩
     .rcases zO.1 h with rfl|h
      .exact .inr ⟨_,eO,rfl⟩
      .exact .inl h
     .exact .inr ⟨p,eJ _ hp,e⟩
theorem M0{ka kb:Int}{A B:List An}{m:List (Int×Int)}(h:Aj ka kb A B m=0):Nl A B m/\(ka=kb->((0:Int),(0:Int))∈m):=by
 unfold Aj at h;cases hm:FU A B (-1) [] m with
 |none=>rw[hm]at h;simp at h
 |some used=>
  rw[hm]at h;obtain⟨f,i,j⟩:=Qt m (-1) [] used (by omega) hm;refine⟨f,λe=>?_⟩;have g:(0:Int)∈used:=eM λc=>by simp only[if_pos (show ka=kb/\(0:Int)∉used from⟨e,c⟩)]at h;cases h
  rcases j 0 g with h|⟨p,d,c⟩
  .cases h
  .have:=(i p d).2.2.2 c;obtain⟨a,b⟩:=p;dsimp only at c this;rw[c,this]at d;exact d
theorem Nk{m:List (Int×Int)}{R:Int×Int->Int×Int->Prop}(h:m.Pairwise R){p q:Int×Int}(hp:p∈m)(hq:q∈m)(h1:¬R p q)(h2:¬R q p):p=q:=by
 obtain⟨i,b,rfl⟩:=zaK hp;obtain⟨j,a,rfl⟩:=zaK hq;rw[zbR]at h;rcases Nat.lt_trichotomy i j with e|e|e
 .exact absurd (h i j b a e) h1
 .subst e;rfl
 .exact absurd (h j i a b e) h2
theorem Nl.base{A B:List An}{m:List (Int×Int)}(h:Nl A B m){i o:Int}:yQ m i=some o↔(o,i)∈m:=by
 unfold yQ;constructor
 .intro e;obtain⟨p,a,rfl⟩:=Option.map_eq_some_iff.1 e;have c:=zbS a;have b:=zdv a;simp only[beq_iff_eq]at b;subst b;exact zbf.1 c
 .intro d;have f:(m.reverse.find? λp=>p.2==i).isSome=true:=by rw[List.find?_isSome];exact⟨(o,i),zbf.2 d,by simp⟩
  obtain⟨p,a⟩:=lR.1 f;have c:=zbf.1 (zbS a);have b:=zdv a;simp only[beq_iff_eq]at b;have:p=(o,i):=Nk h.new c d (λe=>e b) (λe=>e b.symm);rw[a,this];rfl
structure VD(g:Int->Option Int)(nb n:Nat):Prop where
 rng:∀i o,g i=some o->0<=o/\o<nb/\0<=i/\i<n
 inj:∀i j o,g i=some o->g j=some o->i=j
theorem Nl.part{A B:List An}{m:List (Int×Int)}(h:Nl A B m):VD (yQ m) A.length B.length:=by refine⟨λi o hi=>h.rng _ (h.base.1 hi),λi j o hi hj=>?_⟩;have:=Nk h.old (h.base.1 hi) (h.base.1 hj) (λe=>absurd e (by simp)) (λe=>absurd e (by simp));exact congrArg Prod.snd this
theorem Nl.side{A:List An}{t:T}{m:List (Int×Int)}(h:Nl A (t.rows 0 (-1)) m)(ht:t.size<=300):PM (t.rows 0 (-1)) (yQ m) A.length:=⟨by rw[T.length_rows];omega,ET t,λx o hx=>⟨(h.part.rng _ _ hx).1,(h.part.rng _ _ hx).2.1⟩⟩
theorem MH(g:Int->Option Int)(n0:Int){x:Nat}:∀y,x<=y->(BR g n0 x).2<=(BR g n0 y).2
 |0,h=>by
  obtain rfl:x=0:=by omega
  omega
 |y+1,h=>by
  by_cases e:x=y+1
  .subst e;omega
  .have:=MH g n0 (x:=x) y (by omega);cases hg:g y with
   |some o=>rw[CY hg];exact this
   |none=>rw[Cw hg];dsimp only;omega
theorem TZ{g:Int->Option Int}{n0:Int}{x y:Nat}(hx:g x=none)(h:x<y):(BR g n0 x).2+1<=(BR g n0 y).2:=by have:=MH g n0 (x:=x+1) y (by omega);rw[Cw hx]at this;exact this
theorem VP{g:Int->Option Int}{nb cnt n0:Nat}{t:T}(h:VD g nb t.size)(hn:nb<=n0)(hc:(BR g n0 t.size).2=cnt):Cl t (BR g n0 t.size).1 cnt:=by
 have m:=BI g (n0:Int) t.size;have d:∀(x:Nat)(f:x<(BR g n0 t.size).1.length),(BR g n0 t.size).1[x]=(g x).getD (BR g n0 x).2:=λx f=>by have:=Ix g (n0:Int) (y:=x) t.size (by omega);rw[zc f]at this;exact eF this
 have c:∀x:Nat,(n0:Int)<=(BR g n0 x).2:=λx=>(Ct g n0 x).1;refine⟨m,?_,λi k=>?_⟩
 .rw[List.nodup_iff_pairwise_ne,zbR];intro i j k n l e;rw[d i k,d j n]at e;cases h1:g i with
  |some a=>
   cases h2:g j with
   |some b=>rw[h1,h2]at e;dsimp only[eE]at e;subst e;have:=h.inj _ _ _ h1 h2;omega
   |none=>rw[h1,h2]at e;dsimp only[eE,iP]at e;have:=h.rng _ _ h1;have:=c j;omega
  |none=>
   have o:=TZ (n0:=(n0:Int)) h1 l;cases h2:g j with
   |some b=>rw[h1,h2]at e;dsimp only[eE,iP]at e;have:=h.rng _ _ h2;have:=c i;omega
   |none=>rw[h1,h2]at e;dsimp only[iP]at e;omega
 .obtain⟨x,f,rfl⟩:=zaK k;rw[d x f];cases h1:g x with
  |some a=>have:=h.rng _ _ h1;have:=c t.size;dsimp only[eE];omega
  |none=>have o:=TZ (n0:=(n0:Int)) h1 (y:=t.size) (by omega);have:=c x;dsimp only[iP];omega
theorem Tc{g:Int->Option Int}{n0:Int}{n x:Nat}(h:x<n):(BR g n0 n).1.getD x 0=(g x).getD (BR g n0 x).2:=by rw[zbn,Ix g n0 n h];rfl
theorem LE(m:Nat):0<=It m/\It m<=4:=by
 by_cases h:m<27
 .have:∀m,m<27->0<=It m/\It m<=4:=by decide
  exact this m h
 .have:It m=0:=by unfold It;rw[zbn,List.getElem?_eq_none (by simp;omega)];rfl
  omega
theorem T.own_le(t:T):t.own<=4+t.ks.length:=by
 have:=LE 21;have:=LE 20;have:=LE 3;have:=LE t.k.toNat;unfold T.own
 repeat' split
 all_goals omega
theorem T.firstL_zero:∀{ks:List T},T.firstL ks=0->∀t∈ks,t.first=0
 |[],_,t,ht=>by cases ht
 |u::ks,h,t,ht=>by
  rw[T.firstL]at h;split at h
  .rename_i h1;exact absurd h h1
  .rename_i h1;rcases zO.1 ht with rfl|ht
   .exact eM h1
   .exact T.firstL_zero h t ht
theorem T.first_zero{k:Int}{s:ByteArray}{g:List ByteArray}{ks:List T}(h:(T.mk k s g ks).first=0):Bf k=true/\J4 k.toNat ks=true/\NS (.mk k s g ks)=true/\∀t∈ks,t.first=0:=by
 rw[T.first]at h
 repeat' (split at h;·cases h)
 rename_i h1 h2 h3 h4 h5 h6;exact⟨by simpa using h1,by simpa using h2,by simpa using h6,T.firstL_zero h⟩
theorem T.owned_of_first : ∀ t : T, t.first = 0 → t.Owned := by
  refine T.ind fun k s g ks ih h => ?_
  obtain ⟨_, _, a, b⟩ := T.first_zero h
  refine .mk ?_ fun t ht => ih t ht (b t ht)
  unfold NS at a
  split at a
  · rename_i e
    exact .inr (List.eq_nil_of_length_eq_zero e)
  · simp only [zo, decide_eq_true_eq] at a
    exact .inl a.2
theorem T.thin_of_owned:∀t:T,t.Owned->t.size<=300->t.thin:=by
 refine T.ind λk s g ks ih h hs=>?_;cases h with
 |mk h hk=>
  rw[T.size]at hs;refine T.thin_iff.2 ⟨?_,λt ht=>ih t ht (hk t ht) ?_⟩
  .rcases h with h|rfl
   .have a:=T.own_le (.mk k s g ks);have b:=T.length_sizes ks;rw[T.ks]at a;omega
   .simp
  .have:=T.sizes_mem ht;omega
theorem T.check_zero{t:T}(h:t.check=0):t.first=0:=by
 unfold T.check at h;split at h
 .cases h
 .exact h
theorem Ib:∀{ks:List T},BD ks=0->∀t∈ks,t.check=0
 |[],_,t,ht=>by cases ht
 |u::ks,h,t,ht=>by
  rw[BD]at h;split at h
  .rename_i h1;exact absurd h h1
  .rename_i h1;rcases zO.1 ht with rfl|ht
   .exact eM h1
   .exact Ib h t ht
theorem Seg.slim{rs:List An}:∀(t:T)(x:Nat)(p:Int),Seg rs x p t->t.thin->∀i r,x<=i->i<x+t.size->rs[i]?=some r->r.g.length<=1000:=by
 refine T.ind λk s g ks ih x p h ht i r h1 h2 hr=>?_;obtain⟨f,m⟩:=T.thin_iff.1 ht;rcases Nat.eq_or_lt_of_le h1 with rfl|h1
 .have:=h.row;rw[hr]at this;cases this;exact f
 .rw[T.size]at h2;obtain⟨j,u,a,l,d⟩:∃j u,ks[j]?=some u/\x+1+T.sizes (ks.take j)<=i/\i<x+1+T.sizes (ks.take j)+u.size:=by
   have b:∀n,n<=ks.length->i<x+1+T.sizes (ks.take n)->∃j u,ks[j]?=some u/\x+1+T.sizes (ks.take j)<=i/\i<x+1+T.sizes (ks.take j)+u.size:=by
    intro n;induction n with
    |zero=>intro _ h;simp[T.sizes]at h;omega
    |succ n ihn=>
     intro o h;obtain⟨u,a⟩:∃u,ks[n]?=some u:=⟨ks[n],zc (by omega)⟩
     rw[T.sizes_take a]at h;by_cases c:i<x+1+T.sizes (ks.take n)
     .exact ihn (by omega) c
     .exact⟨n,u,a,by omega,by omega⟩
   exact b ks.length (zn _) (by rw[List.take_length];omega)
  exact ih u (zq a) _ x (h.kid a) (m u (zq a)) i r l d hr
theorem Cl.gapsThin{t:T}{ids:List Int}{cnt:Nat}(h:Cl t ids cnt)(hb:t.thin):By (AG t ids):=λi y hy=>by obtain⟨x,r,b,a,rfl,rfl⟩:=(BA h).1 hy;have:=Seg.slim t 0 (-1) (Seg.root t) hb x r (by omega) (by omega) a;show r.g.length<=_;omega
theorem Vj{tb t:T}{idb ids:List Int}{cnt:Nat}{L R:Ver}(hB:idb=(ev tb.size).map λi=>((i:Nat):Int))(h:Cl t ids cnt)(hb:tb.size<=cnt)(hc:cnt<=300)(hroot:ids.getD 0 0=0)(hLR:(L=AG t ids/\R=AG t ids)\/(L=AG tb idb/\R=AG t ids)\/(L=AG t ids/\R=AG tb idb))(hk:∀i y z,AG tb idb i=some z->AG t ids i=some y->z.k=y.k)(cb:tb.check=0)(ct:t.check=0)(sb:tb.size<=300)(st:t.size<=300)(bt:t.bulk<=1048576):FL (AG tb idb) L R (AG t ids) cnt t:=by
 subst hB;have o:=L9 tb hb;have w:=T.owned_of_first tb (T.check_zero cb);have l:=T.owned_of_first t (T.check_zero ct);have g:=o.kidsFine hc;have C:=h.kidsFine hc;have n:=o.gapsThin (T.thin_of_owned tb w sb);have A:=h.gapsThin (T.thin_of_owned t l st);have s:=Sl tb hb sb;generalize H:AG tb ((ev tb.size).map λi=>((i:Nat):Int))=B at*;generalize c:AG t ids=S at*;have j:∀D O:Ver,(D=S/\O=S)\/(D=B/\O=S)\/(D=S/\O=B)->yIO B D O:=λD O hDO x f=>by
  unfold FB at f;simp only[zo,Bool.not_eq_true']at f;obtain⟨y,b⟩:=lR.1 f.1;rcases hDO with⟨q,p⟩|⟨q,p⟩|⟨q,p⟩
  .left;have E:=f.2;rw[q]at E;rw[p];cases hD:S x with
   |none=>rfl
   |some z=>rw[hD]at E;cases E
  .rw[q,b]at f;exact absurd f.2 (by simp)
  .right;exact⟨y,b,by rw[p];exact b,by have:=(g x y b).1;omega⟩
 have a:∀V:Ver,V=S\/V=B->A7 V/\By V:=λV hV=>by
  rcases hV with rfl|rfl
  .exact⟨C,A⟩
  .exact⟨g,n⟩
 have v:L=S\/L=B:=by rcases hLR with h|h|h<;>simp[h.1]
 have F:R=S\/R=B:=by rcases hLR with h|h|h<;>simp[h.2]
 have d:=Seg.root t;refine⟨λi=>?_,s,j R L (by rcases hLR with h|h|h<;>simp[h.1,h.2]),j L R (by rcases hLR with h|h|h<;>simp[h.1,h.2]),g,(a L v).1,(a R F).1,n,(a L v).2,(a R F).2,hc,λi y z b hz=>?_,?_,λi hi=>?_,?_,st,bt,l,ct⟩
 .rcases hLR with⟨rfl,rfl⟩|⟨rfl,rfl⟩|⟨rfl,rfl⟩
  .exact .inl ⟨rfl,rfl⟩
  .exact .inr (.inl ⟨rfl,rfl⟩)
  .exact .inr (.inr ⟨rfl,rfl⟩)
 .rcases v with rfl|rfl
  .rw[b]at hz;cases hz;rfl
  .exact hk i y z hz b
 .intro i y b;have:=h.ver_rng i y (by rw[c];exact b);rwa [c]at this
 .obtain⟨y,b⟩:=lR.1 hi;rw[<-c]at b;obtain⟨x,r,f,J,rfl,rfl⟩:=(BA h).1 b;obtain⟨m,I,G⟩:=h.up x x (zn _) f;rw[c]at G;have:=h.size_le;exact⟨m,by omega,G⟩
 .have:=h.tree t 0 (-1) d;rw[hroot,c]at this;exact this
theorem IL:(Tryz.prog.info? 25).map (·.size)=some 4:=by kernel_rfl
theorem TU{k:Int}(h:Bf k=true):1<=k/\k<=26:=by unfold Bf at h;simp only[decide_eq_true_eq]at h;omega
theorem RR{t:T}(h:t.first=0):(1<=t.k/\t.k<=26)/\(t.k≠14->(Ah t.k.toNat).length<=t.ks.length)/\∀u∈t.ks,u.first=0:=by obtain⟨k,s,g,f⟩:=t;obtain⟨a,c,i,b⟩:=T.first_zero h;have d:=TU a;exact⟨d,λe=>Iv c (λe9=>e (by show k=14;omega)),b⟩
theorem Q9(w0:ze)(b l P:Nat):∀t:T,t.first=0->t.size<=300->t.bulk<=1048576->Qz w0 b l P t:=by
 refine T.ind λk s g ks ih hf hs hb gv kv lead lv c w hP hl hld hlv hc=>?_;obtain⟨hk,H,ai⟩:=RR hf;have bu:(T.mk k s g ks).size=1+T.sizes ks:=by rw[T.size]
 have bq:(T.mk k s g ks).bulk=1+s.size+Ms g+T.bulks ks:=by rw[T.bulk]
 have bp:=T.length_sizes ks;have HN:∀u∈(T.mk k s g ks).ks,Qz w0 b l P u:=λu hu=>ih u hu (ai u hu) (by have:=T.sizes_mem hu;simp only[T.ks]at this;omega) (by have:=T.bulk_mem hu;simp only[T.ks]at this;omega);obtain⟨O,N,rfl⟩:=hl.gaps.slice;obtain⟨Q,M,rfl⟩:=hl.kids.slice;simp only[T.k,T.s,T.g,T.ks]at*;have bw:=hP.lt;have bn:=hP.lo;have Z:=hP.bel.size;obtain⟨a,o⟩:∃a,a=(w.alloc (.cells #[.int .i64 k,.string s,.slice O g.length N,.slice Q ks.length M] 25)).alloc (.cells #[.int .i64 0,.string ⟨#[]⟩,.slice none 0 0,.slice none 0 0] 25):=⟨_,rfl⟩
 have aa:Below w.heap.size w a:=by rw[o];exact(ya _).trans ((ya _).mono (by simp))
 have ak:a.heap.size=w.heap.size+2:=by rw[o];simp
 have al:a.heap[w.heap.size]?=some (.cells #[.int .i64 k,.string s,.slice O g.length N,.slice Q ks.length M] 25 (0,0)):=by rw[o];exact((ya (w:=w.alloc _) _).block w.heap.size (by simp)).trans (zx _ _)
 have aj:a.heap[w.heap.size+1]?=some (.cells #[.int .i64 0,.string ⟨#[]⟩,.slice none 0 0,.slice none 0 0] 25 (0,0)):=by have h:=zx (w.alloc (.cells #[.int .i64 k,.string s,.slice O g.length N,.slice Q ks.length M] 25)) (.cells #[.int .i64 0,.string ⟨#[]⟩,.slice none 0 0,.slice none 0 0] 25);rw[ye]at h;rw[o];exact h
 obtain⟨a0,a1,a2,a3⟩:=yi al;obtain⟨I,Y⟩:∃I,I=a.alloc (.cells (FD P (T.mk k s g ks) (.slice O g.length N) (.slice Q ks.length M) (.slice none 0 0) (.slice none 0 0) (lv:Int)) 192):=⟨_,rfl⟩
 have ab:Below a.heap.size a I:=by rw[Y];exact ya _
 have hX:I.heap[a.heap.size]?=some (.cells (FD P (T.mk k s g ks) (.slice O g.length N) (.slice Q ks.length M) (.slice none 0 0) (.slice none 0 0) (lv:Int)) 192 (0,0)):=by rw[Y];exact zx _ _
 have X:St w0 b l P a a.heap.size (T.mk k s g ks) (.slice O g.length N) (.slice Q ks.length M) (lv:Int) 0 c I:=⟨(hP.below aa).below ab,Fr.new (by omega) (zn _) ab,by omega,zn _,by omega,0,_,_,[],[],by omega,hX,ed _ _ _ _,ed _ _ _ _⟩
 have HW:=za (Xi w0 b l P a a.heap.size (T.mk k s g ks) _ _ lv hl HN (λu hu=>by have:=T.sizes_mem hu;simp only[T.ks]at this;omega) hb hs);have ac:=za (Xi w0 b l P a a.heap.size (T.mk k s g ks) _ _ (lv+1) hl HN (λu hu=>by have:=T.sizes_mem hu;simp only[T.ks]at this;omega) hb hs);have ay:eW (17<=k/\k<=26->zM Tryz.prog 156 #[.pointer (some ⟨a.heap.size,0,none⟩),.string lead] I λe v=>e=.returned (.tuple #[])/\∃j x,x<=c+8*(T.mk k s g ks).size-1/\St w0 b l P a a.heap.size (T.mk k s g ks) (.slice O g.length N) (.slice Q ks.length M) lv j x v):=za λn=>RP w0 b l P a a.heap.size (T.mk k s g ks) _ _ lv c lead I HW.out ac.out X hld (by simp only[T.s];omega) hc (by omega) (by simp only[T.ks];omega) H ⟨_,_,rfl⟩ n;have a5:eW (10<=k/\k<=16/\k≠14->zM Tryz.prog 157 #[.pointer (some ⟨a.heap.size,0,none⟩),.string lead] I λe v=>e=.returned (.tuple #[])/\∃j x,x<=c+8*(T.mk k s g ks).size-1/\St w0 b l P a a.heap.size (T.mk k s g ks) (.slice O g.length N) (.slice Q ks.length M) lv j x v):=za λn=>Rv w0 b l P a a.heap.size (T.mk k s g ks) _ _ lv c lead I HW.out ac.out X hld (by simp only[T.s];omega) hc (by omega) (by simp only[T.ks];omega) H ⟨_,_,rfl⟩ n;have az:eW ((1<=k/\k<=9)\/k=14->zM Tryz.prog 158 #[.pointer (some ⟨a.heap.size,0,none⟩),.string lead] I λe v=>e=.returned (.tuple #[])/\∃j x,x<=c+8*(T.mk k s g ks).size-1/\St w0 b l P a a.heap.size (T.mk k s g ks) (.slice O g.length N) (.slice Q ks.length M) lv j x v):=za λn=>Pl w0 b l P a a.heap.size (T.mk k s g ks) _ _ lv c lead I HW.out ac.out X hld (by simp only[T.s];omega) hc (by omega) (by simp only[T.ks];omega) H ⟨_,_,rfl⟩ n;have S:eW (∀(j x:Nat)(v:ze),x<=c+8*(T.mk k s g ks).size-1->St w0 b l P a a.heap.size (T.mk k s g ks) (.slice O g.length N) (.slice Q ks.length M) lv j x v->∃z D y A E B,v.heap[a.heap.size]?=some (.cells (FD P (T.mk k s g ks) (.slice O g.length N) (.slice Q ks.length M) (.slice z D y) (.slice A E B) (lv:Int)) 192 (0,0))/\v.heap[w.heap.size+1]?=some (.cells #[.int .i64 0,.string ⟨#[]⟩,.slice none 0 0,.slice none 0 0] 25 (0,0))/\∀w9,v.grownBy w9 (some (w.heap.size+1))->PrS w0 b l P (c+8*(T.mk k s g ks).size-1) w9/\Fr w0.heap.size b l w.heap.size w w9):=za λj x v F G=>by
  obtain⟨ng,og,ok,xs,ys,q1,q2,q3,q4⟩:=G.wr;obtain⟨z,y,rfl⟩:=yq q3;obtain⟨A,B,rfl⟩:=yq q4;have hR:v.heap[w.heap.size+1]?=some (.cells #[.int .i64 0,.string ⟨#[]⟩,.slice none 0 0,.slice none 0 0] 25 (0,0)):=G.fr.box aj (by decide) (by omega) (by omega);refine⟨z,_,y,A,_,B,q2,hR,λw9 hg=>?_⟩;have hz:=G.fr.bel.size;have L:Below w.heap.size v w9:=yd (zt _ _) hg (λk e=>by cases e;omega) (by omega);have h1:PrS w0 b l P x w9:=G.pr.of (L.mono Z) λk hk hc9=>by
   rcases hc9 with rfl|rfl|rfl|⟨bt,fz,e⟩
   .exact L.block _ (by omega)
   .exact L.block _ (by omega)
   .exact L.block _ (by omega)
   .refine hg.block k hk λe2=>?_;cases e2;rw[hR]at e;injection e with e
    injection e with _ e
    exact absurd e (by decide)
  exact⟨h1.mono F,(Fr.new (by omega) (zn _) aa).trans ((G.fr.mono (by omega)).trans ⟨L.mono Z,λk hk _ _ _=>L.block k hk⟩)⟩
 have ae:I.cell? ⟨w.heap.size,0,none⟩=some (.int .i64 k):=(ab.cell (p:=⟨w.heap.size,0,none⟩) (by show w.heap.size<_;omega)).trans a0;have ap:=DT k;have J:=za ap;have bm:=za ak;have a4:(Dp k=3/\17<=k/\k<=26)\/(Dp k=2/\10<=k/\k<=16/\k≠14)\/(Dp k≠3/\Dp k≠2/\((1<=k/\k<=9)\/k=14)):=by
  unfold Dp;split
  .right;right;exact⟨by decide,by decide,by omega⟩
  .split
   .right;left;exact⟨rfl,by omega⟩
   .split
    .left;exact⟨rfl,by omega⟩
    .right;right;exact⟨by decide,by decide,by omega⟩
 generalize an:Dp k=q at*;have bj:=za an;clear ap an X hX al aj hP hl HN ih H ai hf aa;have r:I=a.alloc (.cells #[.pointer (some ⟨P,0,none⟩),.int .i64 k,.string s,.slice O g.length N,.slice Q ks.length M,.int .i64 k,.string s,.slice none 0 0,.slice none 0 0,.int .i64 lv] 192):=Y;have HX:eW (w.heap.size+1+1=a.heap.size):=za (by omega);have HB:eW (I.cell? ⟨w.heap.size,0,none⟩=some (.int .i64 k)/\w.heap.size+1≠a.heap.size):=za ⟨ae,by omega⟩;clear Y a0 a1 a2 a3 ae ak;rcases a4 with⟨rfl,n⟩|⟨rfl,n⟩|⟨bx,bs,n⟩
 .go_enter Tryz.func123,Tryz.ntmps123;go_wp2_with fail;rw[<-o];rw[<-r,HX.out];clear r o;refine(J.out _).mono ?_;rintro e v ⟨rfl,m⟩;rw[m];have b1:=HB.out.1;have b5:=HB.out.2;go_wp2_with (first|(go_at_call 128;refine(J.out _).mono ?_;rintro e v ⟨rfl,m⟩;rw[m]));refine(ay.out n).mono ?_;rintro e f ⟨rfl,j,x,F,G⟩;obtain⟨z,D,y,A,E,B,i,d,C⟩:=S.out j x f F G;clear G b1 b5;have q5:f.cell? ⟨a.heap.size,5,none⟩=some (.int .i64 k):=zV f a.heap.size 5 _ _ _ i;have q6:f.cell? ⟨a.heap.size,6,none⟩=some (.string s):=zV f a.heap.size 6 _ _ _ i;have q7:f.cell? ⟨a.heap.size,7,none⟩=some (.slice z D y):=zV f a.heap.size 7 _ _ _ i;have q8:f.cell? ⟨a.heap.size,8,none⟩=some (.slice A E B):=zV f a.heap.size 8 _ _ _ i;obtain⟨z0,z1,z2,z3⟩:=yi d;have au:=zk f (w.heap.size+1) 0 _ _ d;have am:=zk f (w.heap.size+1) 1 _ _ d;have af:=zk f (w.heap.size+1) 2 _ _ d;have ar:=zk f (w.heap.size+1) 3 _ _ d;have W:=za d;have U:=za C;clear d C i;go_wp2;have R:=AT f (w.heap.size+1) (.int .i64 k) (.string s) (.slice z D y) (.slice A E B);have V:=AO f (w.heap.size+1) 25 _ _ _ _ (.int .i64 k) (.string s) (.slice z D y) (.slice A E B) W.out;obtain⟨f1,f2⟩:=U.out _ R;exact eG (zbP rfl _ _ (w.heap.size+1) _ _ _ _ rfl V Tryz.underlying25 rfl IL) rfl ⟨z,D,y,A,E,B,rfl,f1,f2⟩
 .go_enter Tryz.func123,Tryz.ntmps123;go_wp2_with fail;rw[<-o];rw[<-r,HX.out];clear r o;refine(J.out _).mono ?_;rintro e v ⟨rfl,m⟩;rw[m];have b1:=HB.out.1;have b5:=HB.out.2;go_wp2_with (first|(go_at_call 128;refine(J.out _).mono ?_;rintro e v ⟨rfl,m⟩;rw[m]));refine(a5.out n).mono ?_;rintro e f ⟨rfl,j,x,F,G⟩;obtain⟨z,D,y,A,E,B,i,d,C⟩:=S.out j x f F G;clear G b1 b5;have q5:f.cell? ⟨a.heap.size,5,none⟩=some (.int .i64 k):=zV f a.heap.size 5 _ _ _ i;have q6:f.cell? ⟨a.heap.size,6,none⟩=some (.string s):=zV f a.heap.size 6 _ _ _ i;have q7:f.cell? ⟨a.heap.size,7,none⟩=some (.slice z D y):=zV f a.heap.size 7 _ _ _ i;have q8:f.cell? ⟨a.heap.size,8,none⟩=some (.slice A E B):=zV f a.heap.size 8 _ _ _ i;obtain⟨z0,z1,z2,z3⟩:=yi d;have au:=zk f (w.heap.size+1) 0 _ _ d;have am:=zk f (w.heap.size+1) 1 _ _ d;have af:=zk f (w.heap.size+1) 2 _ _ d;have ar:=zk f (w.heap.size+1) 3 _ _ d;have W:=za d;have U:=za C;clear d C i;go_wp2;have R:=AT f (w.heap.size+1) (.int .i64 k) (.string s) (.slice z D y) (.slice A E B);have V:=AO f (w.heap.size+1) 25 _ _ _ _ (.int .i64 k) (.string s) (.slice z D y) (.slice A E B) W.out;obtain⟨f1,f2⟩:=U.out _ R;exact eG (zbP rfl _ _ (w.heap.size+1) _ _ _ _ rfl V Tryz.underlying25 rfl IL) rfl ⟨z,D,y,A,E,B,rfl,f1,f2⟩
 .go_enter Tryz.func123,Tryz.ntmps123;go_wp2_with fail;rw[<-o];rw[<-r,HX.out];clear r o;refine(J.out _).mono ?_;rintro e v ⟨rfl,m⟩;rw[m];have b1:=HB.out.1;have b5:=HB.out.2;go_wp2_with (first|(go_at_call 128;refine(J.out _).mono ?_;rintro e v ⟨rfl,m⟩;rw[m]));refine(az.out n).mono ?_;rintro e f ⟨rfl,j,x,F,G⟩;obtain⟨z,D,y,A,E,B,i,d,C⟩:=S.out j x f F G;clear G b1 b5;have q5:f.cell? ⟨a.heap.size,5,none⟩=some (.int .i64 k):=zV f a.heap.size 5 _ _ _ i;have q6:f.cell? ⟨a.heap.size,6,none⟩=some (.string s):=zV f a.heap.size 6 _ _ _ i;have q7:f.cell? ⟨a.heap.size,7,none⟩=some (.slice z D y):=zV f a.heap.size 7 _ _ _ i;have q8:f.cell? ⟨a.heap.size,8,none⟩=some (.slice A E B):=zV f a.heap.size 8 _ _ _ i;obtain⟨z0,z1,z2,z3⟩:=yi d;have au:=zk f (w.heap.size+1) 0 _ _ d;have am:=zk f (w.heap.size+1) 1 _ _ d;have af:=zk f (w.heap.size+1) 2 _ _ d;have ar:=zk f (w.heap.size+1) 3 _ _ d;have W:=za d;have U:=za C;clear d C i;go_wp2;have R:=AT f (w.heap.size+1) (.int .i64 k) (.string s) (.slice z D y) (.slice A E B);have V:=AO f (w.heap.size+1) 25 _ _ _ _ (.int .i64 k) (.string s) (.slice z D y) (.slice A E B) W.out;obtain⟨f1,f2⟩:=U.out _ R;exact eG (zbP rfl _ _ (w.heap.size+1) _ _ _ _ rfl V Tryz.underlying25 rfl IL) rfl ⟨z,D,y,A,E,B,rfl,f1,f2⟩
theorem UQ:G3:=λt gv kv w hl hS hs hb=>by
 obtain⟨pk,ck,rfl⟩:=hl.kids.slice;obtain⟨pg,cg,rfl⟩:=hl.gaps.slice;obtain⟨w1,hw1⟩:∃w1,w1=w.alloc (.cells #[.int .i64 t.k,.string t.s,.slice pg t.g.length cg,.slice pk t.ks.length ck] 25):=⟨_,rfl⟩
 have hb1:Below w.heap.size w w1:=by rw[hw1];exact ya _
 have r:w1.heap.size=w.heap.size+1:=by rw[hw1];simp
 have m:w1.heap[w.heap.size]?=some (.cells #[.int .i64 t.k,.string t.s,.slice pg t.g.length cg,.slice pk t.ks.length ck] 25 (0,0)):=by rw[hw1];exact zx _ _
 have Y:=za (FT t _ _ w1 (T.Lies.below hb1 t hl) (hS.below hb1) (T.fine_bulk t hb) hs);have HZ:=za (Q9 (t:=t));have R:=za (T.Lies.below hb1 t hl);have f:=za hb1;have M:=za m;have x:=za r;obtain⟨I,D,G,S⟩:=yi m;clear hl hS hb1 m r;by_cases d:t.check=0
 .have A:=T.check_zero d;have N:=za d;have P:=za A;clear d A;go_enter Tryz.func81,Tryz.ntmps81;go_wp2_with fail;rw[<-hw1];clear hw1;refine Y.out.mono ?_;rintro e b ⟨rfl,c⟩;rw[N.out];clear I D G S;have p:=(c.block w.heap.size (by have:=x.out;omega)).trans M.out;obtain⟨W,X,V,h,L⟩:=D9 b (.cells #[.pointer none,.slice none 0 0] 156) (.cells #[.string ⟨#[]⟩] 9) (.cells #[.func (.func 118) #[] #[.pointer (some ⟨b.heap.size+1,0,none⟩),.pointer (some ⟨b.heap.size,0,none⟩)]] 166);have U:=yz p;obtain⟨I,D,G,S⟩:=yi ((h.block w.heap.size U).trans p);have J:=za c;obtain⟨y,i⟩:∃y,y=((b.alloc (.cells #[.pointer none,.slice none 0 0] 156)).alloc (.cells #[.string ⟨#[]⟩] 9)).alloc (.cells #[.func (.func 118) #[] #[.pointer (some ⟨b.heap.size+1,0,none⟩),.pointer (some ⟨b.heap.size,0,none⟩)]] 166):=⟨_,rfl⟩
  have Z:PrS b b.heap.size (b.heap.size+1) (b.heap.size+2) 0 y:=by subst i;refine⟨⟨zn _,by omega,by omega⟩,h,⟨[],by simp,.inl ⟨zn _,.slice none 0 0,W,ed _ _ _ _,by simp[Value.ownBlock]⟩⟩,⟨⟨#[]⟩,by decide,X⟩,V⟩
  have HN:=za (HZ.out b b.heap.size (b.heap.size+1) (b.heap.size+2) P.out hs hb _ _ ⟨#[]⟩ 0 0 y Z (T.Lies.below c t R.out) (by decide) (by omega) (by omega));have C:eW (Below w.heap.size w y):=za (by subst i;exact f.out.trans ((c.mono f.out.size).trans (h.mono (by omega))));clear c p Z W X V h L;go_wp2_with fail;rw[<-i];clear i I D G S;refine HN.out.mono ?_;rintro e H ⟨po,no,co,pq,nq,cq,rfl,j,z⟩;obtain⟨B,af,n⟩:=j.bld;have o:=za (Tryz.Builder_Len b.heap.size b.heap.size _ H n);have F:=za (Tryz.Builder_String_any b.heap.size b.heap.size B H n j.bel.size);have l:eW (Below w.heap.size w H):=za (C.out.trans (z.bel.mono (by omega)));have ae:=j.bel.size;have aa:=l.out.size;clear j z n;have v:=Lib.byteCells_length B;rw[v]at o;clear v;by_cases E:(B.length:Int)>65536
  .go_wp2_with fail;refine o.out.mono ?_;rintro e w5 ⟨rfl,q⟩;rw[q];go_wp2;go_ret2;exact⟨_,_,rfl,by decide,l.out⟩
  .have Q:=za E;go_wp2_with fail;refine o.out.mono ?_;rintro e w5 ⟨rfl,q⟩;rw[q];go_wp2_with fail;refine F.out.mono ?_;rintro e w6 ⟨rfl,O⟩;go_wp2;go_ret2;refine⟨_,_,rfl,?_,l.out.trans (O.mono (by have:=J.out.size;have:=x.out;omega))⟩;have:=Q.out;show B.toArray.size<=1000000;rw[List.size_toArray];omega
 .have ac:(t.check !=0)=true:=by simpa using d
  have ag:=za d;clear d;go_enter Tryz.func81,Tryz.ntmps81;go_wp2_with fail;rw[<-hw1];clear hw1;refine Y.out.mono ?_;rintro e b ⟨rfl,c⟩;go_wp2;go_ret2;exact⟨_,_,rfl,by decide,f.out.trans (c.mono f.out.size)⟩
open Go.RowKit
theorem Mi{tb tl tr:T}{l r:List (Int×Int)}(h:Bx tb tl tr l r=0):BD [tb,tl,tr]=0/\Aj tb.k tl.k (tb.rows 0 (-1)) (tl.rows 0 (-1)) l=0/\Aj tb.k tr.k (tb.rows 0 (-1)) (tr.rows 0 (-1)) r=0/\tb.k=tl.k/\tb.k=tr.k:=by
 unfold Bx at h;split at h
 .rename_i h1;exact absurd h h1
 .rename_i h1;split at h
  .rename_i h2;exact absurd h h2
  .rename_i h2;split at h
   .rename_i h3;exact absurd h h3
   .rename_i h3;split at h
    .cases h
    .rename_i h4;exact⟨eM h1,eM h2,eM h3,eM λe=>h4 (.inl e),eM λe=>h4 (.inr e)⟩
theorem Uo{tb t:T}{l:List (Int×Int)}(n0:Nat)(hn:tb.size<=n0)(c:Aj tb.k t.k (tb.rows 0 (-1)) (t.rows 0 (-1)) l=0)(e:tb.k=t.k):∃cnt:Nat,(BR (yQ l) n0 t.size).2=cnt/\n0<=cnt/\cnt<=n0+t.size/\Cl t (BR (yQ l) n0 t.size).1 cnt/\(BR (yQ l) n0 t.size).1.getD 0 0=0/\∀i y z,AG tb ((ev tb.size).map λi=>((i:Nat):Int)) i=some z->AG t (BR (yQ l) n0 t.size).1 i=some y->z.k=y.k:=by
 obtain⟨b,s⟩:=M0 c;have g:=b.part;rw[T.length_rows,T.length_rows]at g;obtain⟨w,A⟩:=Ct (yQ l) (n0:Int) t.size;obtain⟨cnt,m⟩:∃cnt:Nat,(BR (yQ l) n0 t.size).2=cnt:=⟨(BR (yQ l) n0 t.size).2.toNat,by omega⟩
 have j:=VP g hn m;refine⟨cnt,m,by omega,by omega,j,?_,λi y z hz hy=>?_⟩
 .have p:yQ l ((0:Nat):Int)=some 0:=b.base.2 (s e);rw[Tc (T.size_pos t),p];rfl
 .obtain⟨x,r,q,n,rfl,rfl⟩:=(BA (L9 tb (zn _))).1 hz;obtain⟨h,B,d,f,a,rfl⟩:=(BA j).1 hy;have v:((ev tb.size).map λi=>((i:Nat):Int)).getD x 0=x:=by simp[zbn,q]
  rw[v,Tc d]at a;cases hg:yQ l h with
  |some o=>rw[hg]at a;dsimp only[eE]at a;subst a;have:=b.kind _ (b.base.1 hg);dsimp only at this;rw[zbu,zbu,n,f]at this;exact eF this
  |none=>rw[hg]at a;dsimp only[iP]at a;have:=(Ct (yQ l) (n0:Int) h).1;omega
theorem Sv(t:T)(h:t.size<=300):((ev t.size).map λi=>((i:Nat):Int)).length=t.size/\∀x∈(ev t.size).map λi=>((i:Nat):Int),yw x:=by refine⟨by simp,λx hx=>?_⟩;obtain⟨a,b,rfl⟩:=List.mem_map.1 hx;have:=List.mem_range.1 b;exact Bg (by omega) (by omega)
theorem Pd(tb ts:T)(gb kb gs ks lv pk:zg)(l:List (Int×Int))(w:ze)(hb:tb.Lies w gb kb)(hs:ts.Lies w gs ks)(hlv:Ao w lv l)(hS:Bh w)(hpk:∃p n c,pk=.slice p n c)(sb:tb.size<=60)(ss:ts.size<=60)(bb:tb.bulk<=1048576)(bs:ts.bulk<=1048576)(nl:l.length<=80)(fl:∀p∈l,yw p.2)(he:Bx tb ts ts l l=0):zM Tryz.prog 8 #[yJ tb.k tb.s gb kb,yJ ts.k ts.s gs ks,yJ ts.k ts.s gs ks,lv,lv,pk] w λe w'=>∃gv kv,e=.returned (.tuple #[yJ ts.k ts.s gv kv,.slice none 0 0,.int .i64 0])/\ts.Lies w' gv kv/\Below w.heap.size w w':=by
 obtain⟨o,b,_,g,_⟩:=Mi he;obtain⟨m,P,i,z,j,B,S⟩:=Uo (l:=l) tb.size (zn _) b g;have f:=Ib o;have v:tb.check=0:=f tb (by simp);have q:ts.check=0:=f ts (by simp);have N:=Vj (L:=AG ts (BR (yQ l) tb.size ts.size).1) (R:=AG ts (BR (yQ l) tb.size ts.size).1) rfl j i (by omega) B (.inl ⟨rfl,rfl⟩) S v q (by omega) (by omega) bs;have d:PM (ts.rows 0 (-1)) (yQ l) tb.size:=by have:=(M0 b).1.side (by omega);rwa [T.length_rows]at this
 have a:(BR (yQ l) tb.size ts.size).1.length=ts.size/\∀x∈(BR (yQ l) tb.size ts.size).1,yw x:=⟨j.len,j.fits (by omega)⟩
 refine OM UQ tb ts ts ts gb kb gs ks gs ks lv lv pk l l _ _ _ m _ w hb hs hs hS hlv hlv hpk (by omega) (by omega) (by omega) bb bs bs (by omega) (by omega) o b b g g (Sv tb (by omega)) a a (Ov tb (by omega)) (Ov ts (by omega)) (Ov ts (by omega)) ?_ N (T.thin_of_owned ts (T.owned_of_first ts (T.check_zero q)) (by omega));intro W gb kb C J y H lv A E r O M D;refine(MW tb ts ts gb kb C J y H lv A l l W E r O M D sb (by omega) (by omega) bb bs bs (by omega) (by omega) fl fl b b d d (.inl ⟨rfl,rfl⟩)).mono ?_;rintro e w' ⟨u1,u2,u3,R,U,rfl,G,F,I,Q,t⟩;rcases Q with⟨_,_,rfl,rfl⟩|⟨h,_⟩
 .exact⟨u1,u2,u3,by rw[P],G,F,I,t⟩
 .exact absurd ⟨rfl,rfl⟩ h
theorem Lx(tb ts:T)(gb kb gs ks mv:zg)(m:List (Int×Int))(w:ze)(hb:tb.Lies w gb kb)(hs:ts.Lies w gs ks)(hmv:Ao w mv m)(hS:Bh w)(bb:tb.bulk<=1048576)(bs:ts.bulk<=1048576)(fm:∀p∈m,yw p.2)(hm:m.length<=1048576)(HA:∀W,Below w.heap.size w W->zM Tryz.prog 7 #[] W λe w'=>e=.returned (.bool true)/\Below W.heap.size W w'):zM Tryz.prog 4 #[yJ tb.k tb.s gb kb,yJ ts.k ts.s gs ks,mv] w λe w'=>e=.returned (.bool true)/\Below w.heap.size w w':=by
 obtain⟨x,v,rfl⟩:=hb.kids.slice;obtain⟨y,t,rfl⟩:=hb.gaps.slice;obtain⟨f,i,rfl⟩:=hs.kids.slice;obtain⟨j,l,rfl⟩:=hs.gaps.slice;obtain⟨pm,cm,rfl⟩:=hmv.slice;obtain⟨d,A⟩:∃d,d=(w.alloc (.cells #[.int .i64 tb.k,.string tb.s,.slice y tb.g.length t,.slice x tb.ks.length v] 25)).alloc (.cells #[.int .i64 ts.k,.string ts.s,.slice j ts.g.length l,.slice f ts.ks.length i] 25):=⟨_,rfl⟩
 have R:Below w.heap.size w d:=by rw[A];exact(ya _).trans ((ya _).mono (by simp))
 have ad:d.heap.size=w.heap.size+2:=by rw[A];simp
 have ac:d.heap[w.heap.size]?=some (.cells #[.int .i64 tb.k,.string tb.s,.slice y tb.g.length t,.slice x tb.ks.length v] 25 (0,0)):=by rw[A];exact((ya (w:=w.alloc _) _).block w.heap.size (by simp)).trans (zx _ _)
 have Y:d.heap[w.heap.size+1]?=some (.cells #[.int .i64 ts.k,.string ts.s,.slice j ts.g.length l,.slice f ts.ks.length i] 25 (0,0)):=by have h:=zx (w.alloc (.cells #[.int .i64 tb.k,.string tb.s,.slice y tb.g.length t,.slice x tb.ks.length v] 25)) (.cells #[.int .i64 ts.k,.string ts.s,.slice j ts.g.length l,.slice f ts.ks.length i] 25);rw[ye]at h;rw[A];exact h
 have L:eW (∀W,Below d.heap.size d W->(W.cell? ⟨w.heap.size,0,none⟩=some (.int .i64 tb.k)/\W.cell? ⟨w.heap.size,1,none⟩=some (.string tb.s)/\W.cell? ⟨w.heap.size,2,none⟩=some (.slice y tb.g.length t)/\W.cell? ⟨w.heap.size,3,none⟩=some (.slice x tb.ks.length v))/\(W.cell? ⟨w.heap.size+1,0,none⟩=some (.int .i64 ts.k)/\W.cell? ⟨w.heap.size+1,1,none⟩=some (.string ts.s)/\W.cell? ⟨w.heap.size+1,2,none⟩=some (.slice j ts.g.length l)/\W.cell? ⟨w.heap.size+1,3,none⟩=some (.slice f ts.ks.length i))):=za λW h=>⟨yi ((h.block _ (by omega)).trans ac),yi ((h.block _ (by omega)).trans Y)⟩
 have a:eW (∀W,Below d.heap.size d W->Below w.heap.size w W):=za λW h=>R.trans (h.mono (by omega));have B:eW (∀W,Below d.heap.size d W->zM Tryz.prog 7 #[] W λe w'=>e=.returned (.bool true)/\Below W.heap.size W w'):=za λW h=>HA W (a.out W h);have an:eW (∀W,Below d.heap.size d W->zM Tryz.prog 6 #[yJ tb.k tb.s (.slice y tb.g.length t) (.slice x tb.ks.length v)] W λe w'=>∃b:Bool,e=.returned (.bool b)/\(b=true->tb.size<=60/\tb.tall<=16)/\Below W.heap.size W w'):=za λW h=>IX tb _ _ W (T.Lies.below (a.out W h) tb hb);have ar:eW (∀W,Below d.heap.size d W->zM Tryz.prog 6 #[yJ ts.k ts.s (.slice j ts.g.length l) (.slice f ts.ks.length i)] W λe w'=>∃b:Bool,e=.returned (.bool b)/\(b=true->ts.size<=60/\ts.tall<=16)/\Below W.heap.size W w'):=za λW h=>IX ts _ _ W (T.Lies.below (a.out W h) ts hs);have ao:eW (∀W,Below d.heap.size d W->tb.size<=60->ts.size<=60->m.length<=80->Bx tb ts ts m m=0->zM Tryz.prog 8 #[yJ tb.k tb.s (.slice y tb.g.length t) (.slice x tb.ks.length v),yJ ts.k ts.s (.slice j ts.g.length l) (.slice f ts.ks.length i),yJ ts.k ts.s (.slice j ts.g.length l) (.slice f ts.ks.length i),.slice pm m.length cm,.slice pm m.length cm,.slice none 0 0] W λe w'=>∃O N,e=.returned (.tuple #[yJ ts.k ts.s O N,.slice none 0 0,.int .i64 0])/\ts.Lies w' O N/\Below W.heap.size W w'):=za λW h V S q3 q4=>Pd tb ts _ _ _ _ _ _ m W (T.Lies.below (a.out W h) tb hb) (T.Lies.below (a.out W h) ts hs) (hmv.below (a.out W h)) (hS.below (a.out W h)) ⟨_,_,_,rfl⟩ V S bb bs q3 fm q4;have a5:eW (∀W,Below d.heap.size d W->tb.size<=60->ts.size<=60->m.length<=80->Bx tb ts ts m m≠0->zM Tryz.prog 8 #[yJ tb.k tb.s (.slice y tb.g.length t) (.slice x tb.ks.length v),yJ ts.k ts.s (.slice j ts.g.length l) (.slice f ts.ks.length i),yJ ts.k ts.s (.slice j ts.g.length l) (.slice f ts.ks.length i),.slice pm m.length cm,.slice pm m.length cm,.slice none 0 0] W λe w'=>e=.returned (.tuple #[.agg #[.int .i64 0,.string .empty,.slice none 0 0,.slice none 0 0],.slice none 0 0,.int .i64 (Bx tb ts ts m m)])/\Below W.heap.size W w'):=za λW h V S q3 q4=>Ph tb ts ts _ _ _ _ _ _ _ _ _ m m W (T.Lies.below (a.out W h) tb hb) (T.Lies.below (a.out W h) ts hs) (T.Lies.below (a.out W h) ts hs) (hS.below (a.out W h)) (hmv.below (a.out W h)) (hmv.below (a.out W h)) ⟨_,_,_,rfl⟩ (by omega) (by omega) (by omega) bb bs bs (by omega) (by omega) q4;have ax:eW (∀W(O N:zg),Below d.heap.size d W->ts.size<=60->ts.Lies W O N->zM Tryz.prog 10 #[yJ ts.k ts.s O N,yJ ts.k ts.s (.slice j ts.g.length l) (.slice f ts.ks.length i)] W λe w'=>e=.returned (.bool true)/\Below W.heap.size W w'):=za λW O N h V S=>by have:=OG ts ts O N _ _ W S (T.Lies.below (a.out W h) ts hs) V (T.fine_bulk ts bs);rwa [decide_eq_true (rfl:ts=ts)]at this
 have aw:=za R;have aq:=za ad;obtain⟨⟨a0,a1,a2,a3⟩,b0,b1,b2,b3⟩:=L.out d (zt _ _);clear hb hs hmv hS R ac Y ad HA fm;go_enter Tryz.func4,Tryz.ntmps4;go_wp2_with fail;rw[<-A];clear A;refine(an.out d (zt _ _)).mono ?_;rintro e w2 ⟨V,rfl,Z,H⟩;obtain⟨⟨a0,a1,a2,a3⟩,b0,b1,b2,b3⟩:=L.out w2 H;have br:=aw.out.size;have ab:=H.size;have J:=za H;clear H;cases V with
 |false=>go_wp2_with fail;refine(B.out w2 J.out).mono ?_;rintro e U ⟨rfl,I⟩;go_wp2;go_ret;exact⟨rfl,a.out _ (J.out.trans (I.mono ab))⟩
 |true=>
  obtain⟨ae,_⟩:=Z rfl;clear Z;go_wp2_with fail;refine(ar.out w2 J.out).mono ?_;rintro e U ⟨S,rfl,aa,I⟩;have z:=J.out.trans (I.mono ab);obtain⟨⟨c0,c1,c2,c3⟩,d0,d1,d2,d3⟩:=L.out U z;have G:=z.size;have r:=za z;clear I z a0 a1 a2 a3 b0 b1 b2 b3;cases S with
  |false=>go_wp2_with fail;refine(B.out U r.out).mono ?_;rintro e M ⟨rfl,o⟩;go_wp2;go_ret;exact⟨rfl,a.out _ (r.out.trans (o.mono G))⟩
  |true=>
   obtain⟨Q,_⟩:=aa rfl;clear aa;by_cases af:m.length<=80
   .have X:¬((m.length:Int)>80):=by omega
    by_cases he:Bx tb ts ts m m=0
    .have HM:=za (ao.out U r.out ae Q af he);go_wp2_with fail;refine HM.out.mono ?_;rintro e M ⟨O,N,rfl,F,o⟩;have c:=r.out.trans (o.mono G);obtain⟨a4,am,rfl⟩:=F.kids.slice;obtain⟨az,al,rfl⟩:=F.gaps.slice;obtain⟨⟨e0,e1,e2,e3⟩,f0,f1,f2,f3⟩:=L.out M c;have E:=c.size;have D:=za c;have ay:=za F;have bv:w.heap.size+1<M.heap.size:=by have:=aq.out;omega
     have b4:M.heap.size≠w.heap.size+1:=by omega
     have bi:w.heap.size+1≠M.heap.size:=by omega
     clear o c F c0 c1 c2 c3 d0 d1 d2 d3;go_wp2_with fail;have n:=ya (w:=M) (.cells #[.int .i64 ts.k,.string ts.s,.slice az ts.g.length al,.slice a4 ts.ks.length am] 25);refine(ax.out _ _ _ (D.out.trans (n.mono E)) Q (T.Lies.below n ts ay.out)).mono ?_;rintro e w6 ⟨rfl,ag⟩;have C:=D.out.trans ((n.trans (ag.mono n.size)).mono E);have ah:=za C;have au:=C.size;clear n ag C e0 e1 e2 e3 f0 f1 f2 f3;go_wp2_with fail;refine(B.out w6 ah.out).mono ?_;rintro e w7 ⟨rfl,P⟩;go_wp2;go_ret;exact⟨rfl,a.out _ (ah.out.trans (P.mono au))⟩
    .have HM:=za (a5.out U r.out ae Q af he);generalize Bx tb ts ts m m=q at*;have hq:(q !=0)=true:=by simpa using he
     clear he;go_wp2_with fail;refine HM.out.mono ?_;rintro e M ⟨rfl,o⟩;have c:=r.out.trans (o.mono G);have E:=c.size;have D:=za c;clear o c c0 c1 c2 c3 d0 d1 d2 d3;go_wp2_with fail;have n:=ya (w:=M) (.cells #[.int .i64 0,.string .empty,.slice none 0 0,.slice none 0 0] 25);refine(B.out _ (D.out.trans (n.mono E))).mono ?_;rintro e w7 ⟨rfl,P⟩;go_wp2;go_ret;exact⟨rfl,a.out _ (D.out.trans ((n.trans (P.mono n.size)).mono E))⟩
   .have X:(m.length:Int)>80:=by omega
    go_wp2_with fail;refine(B.out U r.out).mono ?_;rintro e M ⟨rfl,o⟩;go_wp2;go_ret;exact⟨rfl,a.out _ (r.out.trans (o.mono G))⟩
open Go.ChangeShapes Go.WideShapes Go.Deep Go.RowKit
open Go.Proofs.YtpdlpdkehminlaaGreatDoor.Rows (uptoBulk uptoBulkAll)
theorem Jj(b o n:Nat):(⟨b,o,none⟩:Addr).add n=⟨b,o+n,none⟩:=by
 unfold zbF;split
 .subst_vars;rfl
 .rfl
theorem Jp{w:ze}{a:Addr}{v:zg}(h:w.cell? a=some v):a=⟨a.block,a.off,none⟩:=by
 obtain⟨b,o,s⟩:=a;cases s with
 |none=>rfl
 |some s=>exfalso;unfold zS at h;split at h<;>simp_all
theorem Hn{w:ze}{a:Addr}{v:zg}(h:w.cell? a=some v):a.block<w.heap.size:=by
 unfold zS at h;split at h
 .rename_i h';exact(Array.getElem?_eq_some_iff.1 h').1
 .cases h
section
variable{H:Type} {enc:TypeId×zg->H} {W:ze} {base:Nat} {spare:Nat->Bool} {held:Bool}
theorem PS(b:Nat):∀(elems:List (l7 H×List oN))(o:Nat),(∀i y,elems[i]?=some y->∃s:ByteArray,W.cell? ⟨b,o+i,none⟩=some (.string s)/\y.1=.lit (.string s.data.toList))->∃l:List ByteArray,l.length=elems.length/\(∀i s,l[i]?=some s->W.cell? ⟨b,o+i,none⟩=some (.string s))/\Ms l<=uptoBulkAll (elems.map (·.1))
 |[],o,_=>⟨[],rfl,λi s h=>by simp at h,by simp[Ms]⟩
 |y::r,o,h=>by
  obtain⟨s,h1,h2⟩:=h 0 y rfl;obtain⟨l,a,f,g⟩:=PS b r (o+1) λi z hz=>by obtain⟨s,d,c⟩:=h (i+1) z (by simpa using hz);exact⟨s,by rw[iH,zbk 1 i];exact d,c⟩
  refine⟨s::l,by simp[a],λi u hu=>?_,?_⟩
  .cases i with
   |zero=>simp only[zW,zb]at hu;subst hu;exact h1
   |succ i=>have:=f i u (by simpa using hu);rwa [iH,zbk 1 i]at this
  .rw[iZ,uptoBulkAll,h2,Ms,uptoBulk,oH];have:s.data.size=s.size:=rfl;omega
theorem Ty(b:Nat):∀(elems:List (l7 H×List oN))(o:Nat),(∀i y,elems[i]?=some y->∃t:T,Hu W b (o+i*4) t/\t.bulk<=uptoBulk y.1)->∃l:List T,l.length=elems.length/\(∀i t,l[i]?=some t->Hu W b (o+i*4) t)/\T.bulks l<=uptoBulkAll (elems.map (·.1))
 |[],o,_=>⟨[],rfl,λi s h=>by simp at h,by simp[T.bulks]⟩
 |y::r,o,h=>by
  obtain⟨s,h1,h2⟩:=h 0 y rfl;obtain⟨l,a,f,g⟩:=Ty b r (o+4) λi z hz=>by obtain⟨s,d,c⟩:=h (i+1) z (by simpa using hz);exact⟨s,by rw[show o+4+i*4=o+(i+1)*4 by omega];exact d,c⟩
  refine⟨s::l,by simp[a],λi u hu=>?_,?_⟩
  .cases i with
   |zero=>simp only[zW,zb]at hu;subst hu;exact h1
   |succ i=>have:=f i u (by simpa using hu);rwa [show o+4+i*4=o+(i+1)*4 by omega]at this
  .rw[iZ,uptoBulkAll,T.bulks];omega
theorem QC(b:Nat):∀(elems:List (l7 H×List oN))(o:Nat),(∀i y,elems[i]?=some y->∃p:Int×Int,W.cell? ⟨b,o+i*2,none⟩=some (.int .i64 p.1)/\W.cell? ⟨b,o+i*2+1,none⟩=some (.int .i64 p.2)/\yw p.2)->∃l:List (Int×Int),l.length=elems.length/\(∀i p,l[i]?=some p->W.cell? ⟨b,o+i*2,none⟩=some (.int .i64 p.1)/\W.cell? ⟨b,o+i*2+1,none⟩=some (.int .i64 p.2))/\∀p∈l,yw p.2
 |[],o,_=>⟨[],rfl,λi s h=>by simp at h,by simp⟩
 |y::r,o,h=>by
  obtain⟨s,h1,h2,h3⟩:=h 0 y rfl;obtain⟨l,a,j,d⟩:=QC b r (o+2) λi z hz=>by obtain⟨s,g,c,f⟩:=h (i+1) z (by simpa using hz);exact⟨s,by rw[show o+2+i*2=o+(i+1)*2 by omega];exact g,by rw[show o+2+i*2=o+(i+1)*2 by omega];exact c,f⟩
  refine⟨s::l,by simp[a],λi u hu=>?_,λp hp=>?_⟩
  .cases i with
   |zero=>simp only[zW,zb]at hu;subst hu;exact⟨h1,h2⟩
   |succ i=>have:=j i u (by simpa using hu);rwa [show o+2+i*2=o+(i+1)*2 by omega]at this
  .rcases zO.1 hp with rfl|hp
   .exact h3
   .exact d p hp
theorem O7(l:List (l7 H)):l.length<=uptoBulkAll l:=by
 induction l with
 |nil=>simp
 |cons d l ih=>
  have:1<=uptoBulk d:=by
   cases d with
   |lit x=>cases x<;>simp[uptoBulk]
   |_=>simp[uptoBulk]
  rw[uptoBulkAll,List.length_cons];omega
set_option maxRecDepth 100000
theorem MD{fuel:Nat}{v:zg}{x:l7 H×List oN}(h:l9 enc Tryz.prog W base spare held fuel 22 [v]=some x):∃l,yI W v l/\Ms l<=uptoBulk x.1:=by
 rcases zba Tryz.underlying22 h with⟨q,w⟩|⟨a,g,r,b,j,n,_,d,w,O,M,N,c,p,_,_⟩
 .injection q with q
  subst q;exact⟨[],.inl ⟨⟨_,_,rfl⟩,rfl⟩,by simp[Ms]⟩
 .injection d with d
  subst d;have L:Tryz.prog.cellsOf 9=1:=by kernel_rfl
  have f:∀i y,b[i]?=some y->∃s:ByteArray,W.cell? (a.add i)=some (.string s)/\y.1=.lit (.string s.data.toList):=λi y hy=>by
   have J:i<g:=by rw[<-c];exact(zm.1 hy).1
   have t:=p i J;rw[hy]at t;obtain⟨I,A,E⟩:=zu.1 t;rw[L]at A;obtain⟨_,_,m⟩:=za0 A;obtain⟨s,rfl,rfl,_⟩:=zcP Tryz.underlying9 E;have:=m 0 (by omega);rw[l6]at this;exact⟨s,by simpa using this,rfl⟩
  by_cases D:g=0
  .subst D;exact⟨[],.inl ⟨⟨_,_,rfl⟩,rfl⟩,by simp[Ms]⟩
  .obtain⟨Q,o,_⟩:=f 0 (b[0]'(by omega)) (zc (by omega));have k:a.add 0=a:=by unfold zbF;simp
   rw[k]at o;have B:=Jp o;obtain⟨l,G,F,P⟩:=PS a.block b a.off λi y hy=>by obtain⟨s,z,C⟩:=f i y hy;rw[B,Jj]at z;exact⟨s,z,C⟩
   refine⟨l,.inr ⟨a.block,a.off,r,by rw[G,c,<-B],by omega,Hn o,F⟩,?_⟩;rw[w];show Ms l<=uptoBulk (.slice (b.map (·.1)) (j.map (·.1)));rw[uptoBulk];omega
theorem TW:∀(fuel:Nat)(cs:List zg)(x:l7 H×List oN),l9 enc Tryz.prog W base spare held fuel 25 cs=some x->∃(t:T)(gv kv:zg),cs=[.int .i64 t.k,.string t.s,gv,kv]/\t.Lies W gv kv/\t.bulk<=uptoBulk x.1:=by
 intro fuel;induction fuel using Nat.strongRecOn with
 |_ fuel ih=>
  intro cs x h;obtain⟨O,n,hn,rfl,r,L,A⟩:=zcQ Tryz.underlying25 h;have P:Tryz.prog.cellsOf 25=4:=by kernel_rfl
  rw[P]at r;match cs,r with
  |[c0,c1,c2,c3],_=>
   have B:O.length=4:=L;match O,B with
   |[y0,y1,y2,y3],_=>
    have V:l9 enc Tryz.prog W base spare held n 3 [c0]=some y0:=A 0 _ rfl;have t1:l9 enc Tryz.prog W base spare held n 9 [c1]=some y1:=A 1 _ rfl;have t2:l9 enc Tryz.prog W base spare held n 22 [c2]=some y2:=A 2 _ rfl;have X:l9 enc Tryz.prog W base spare held n 23 [c3]=some y3:=A 3 _ rfl;obtain⟨k,I,_,_⟩:=zbC Tryz.underlying3 V;obtain⟨s,D,f1,_⟩:=zcP Tryz.underlying9 t1;injection I with I
    injection D with D
    subst I D f1;obtain⟨g,U,al⟩:=MD t2;obtain⟨v,hk,ac⟩:∃v:List T,Bq W c3 v/\T.bulks v<=uptoBulk y3.1:=by
     rcases zba Tryz.underlying23 X with⟨j,_⟩|⟨a,p,G,b,q,m,hm,f,Z,hb,hl,ak,d,F,_,_⟩
     .injection j with j
      subst j;exact⟨[],.inl ⟨⟨_,_,rfl⟩,rfl⟩,by simp[T.bulks]⟩
     .injection f with f
      subst f;have o:∀i y,b[i]?=some y->∃t:T,(∃gv kv,W.cell? (a.add (i*4))=some (.int .i64 t.k)/\W.cell? (a.add (i*4+1))=some (.string t.s)/\W.cell? (a.add (i*4+2))=some gv/\W.cell? (a.add (i*4+3))=some kv/\t.Lies W gv kv)/\t.bulk<=uptoBulk y.1:=λi y hy=>by
       have hi:i<p:=by rw[<-d];exact(zm.1 hy).1
       have M:=F i hi;rw[hy]at M;obtain⟨J,Q,h3⟩:=zu.1 M;rw[P]at Q;obtain⟨_,_,c⟩:=za0 Q;obtain⟨t,gv,kv,rfl,z,w⟩:=ih m (by omega) J y h3;refine⟨t,⟨gv,kv,?_,?_,?_,?_,z⟩,w⟩
       .have:=c 0 (by omega);rw[l6]at this;exact this
       .have:=c 1 (by omega);rw[l6]at this;exact this
       .have:=c 2 (by omega);rw[l6]at this;exact this
       .have:=c 3 (by omega);rw[l6]at this;exact this
      by_cases Y:p=0
      .subst Y;exact⟨[],.inl ⟨⟨_,_,rfl⟩,rfl⟩,by simp[T.bulks]⟩
      .obtain⟨_,⟨_,_,E,_⟩,_⟩:=o 0 (b[0]'(by omega)) (zc (by omega));have C:a.add (0*4)=a:=by unfold zbF;simp
       rw[C]at E;have S:=Jp E;obtain⟨l,i1,i2,i3⟩:=Ty a.block b a.off λi y hy=>by obtain⟨t,⟨gv,kv,N,z,w,R,q4⟩,q5⟩:=o i y hy;rw[S,Jj]at N z w R;exact⟨t,⟨gv,kv,N,by rw[iH];exact z,by rw[iH];exact w,by rw[iH];exact R,q4⟩,q5⟩
       refine⟨l,.inr ⟨a.block,a.off,G,by rw[i1,d,<-S],Hn E,i2⟩,?_⟩;rw[Z];show T.bulks l<=uptoBulk (.slice (b.map (·.1)) (q.map (·.1)));rw[uptoBulk];omega
    refine⟨.mk k s g v,c2,c3,rfl,T.lies_iff.2 ⟨U,hk⟩,?_⟩;show(T.mk k s g v).bulk<=uptoBulk (.agg [y0.1,(.lit (.string s.data.toList)),y2.1,y3.1]);rw[T.bulk,uptoBulk,uptoBulkAll,uptoBulkAll,uptoBulkAll,uptoBulkAll,uptoBulkAll,uptoBulk,oH];have:s.data.size=s.size:=rfl;omega
theorem RI{fuel:Nat}{v:zg}{x:l7 H×List oN}(h:l9 enc Tryz.prog W base spare held fuel 26 [v]=some x):∃l,Ao W v l/\l.length<=uptoBulk x.1/\∀p∈l,yw p.2:=by
 rcases zba Tryz.underlying26 h with⟨t,F⟩|⟨a,j,w,b,k,n,_,d,F,hb,hl,hm,c,s,_,_⟩
 .injection t with t
  subst t;exact⟨[],.inl ⟨⟨_,_,rfl⟩,rfl⟩,by simp,by simp⟩
 .injection d with d
  subst d;have U:Tryz.prog.cellsOf 51=2:=by kernel_rfl
  have g:∀i y,b[i]?=some y->∃p:Int×Int,W.cell? (a.add (i*2))=some (.int .i64 p.1)/\W.cell? (a.add (i*2+1))=some (.int .i64 p.2)/\yw p.2:=λi y hy=>by
   have hi:i<j:=by rw[<-c];exact(zm.1 hy).1
   have D:=s i hi;rw[hy]at D;obtain⟨B,L,T⟩:=zu.1 D;rw[U]at L;obtain⟨_,r,f⟩:=za0 L;obtain⟨G,J,_,_,_,C,M⟩:=zcQ Tryz.underlying51 T;match B,r with
   |[d0,d1],_=>
    have z:G.length=2:=C;match G,z with
    |[y0,y1],_=>
     have P:l9 enc Tryz.prog W base spare held J 3 [d0]=some y0:=M 0 _ rfl;have S:l9 enc Tryz.prog W base spare held J 3 [d1]=some y1:=M 1 _ rfl;obtain⟨p0,A,_,_⟩:=zbC Tryz.underlying3 P;obtain⟨R,o,_,V⟩:=zbC Tryz.underlying3 S;injection A with A
     injection o with o
     subst A o;refine⟨(p0,R),?_,?_,?_⟩
     .have:=f 0 (by omega);rw[l6]at this;exact this
     .have:=f 1 (by omega);rw[l6]at this;exact this
     .exact V
  by_cases Q:j=0
  .subst Q;exact⟨[],.inl ⟨⟨_,_,rfl⟩,rfl⟩,by simp,by simp⟩
  .obtain⟨_,q,_⟩:=g 0 (b[0]'(by omega)) (zc (by omega));have m:a.add (0*2)=a:=by unfold zbF;simp
   rw[m]at q;have N:=Jp q;obtain⟨l,Y,X,Z⟩:=QC a.block b a.off λi y hy=>by obtain⟨p,E,I,O⟩:=g i y hy;rw[N,Jj]at E I;exact⟨p,E,by rw[iH];exact I,O⟩
   refine⟨l,.inr ⟨a.block,a.off,w,by rw[Y,c,<-N],Hn q,X⟩,?_,Z⟩;rw[F];show l.length<=uptoBulk (.slice (b.map (·.1)) (k.map (·.1)));have:=O7 (b.map (·.1));rw[List.length_map]at this;rw[uptoBulk];omega
end
end Go.Proofs
