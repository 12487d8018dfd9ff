/-
  Part of the proof: merge3.build: what is said of it.
-/
import Derived.Test.YtpdlpdkehminlaaGreatDoorWK
import Derived.Test.YtpdlpdkehminlaaGreatDoorWL
import Derived.Deep.DeepCutAuto
set_option linter.all false
set_option maxRecDepth 100000
set_option maxHeartbeats 20000000
open Go renaming Calls->zM,Value->zg,World->ze,frozen_of_row->zk,heap_alloc_new->zx,heap_setCell_same->zA,wpAnyH_ready->zG
open Go.Act renaming put->z8
open Go.AllReadyH renaming cons->zv,nil->zC
open Go.Instr renaming lookup->ec,makeMap->za2
open Go.Lib renaming hid->za
open Go.RowKit renaming Hid->eW
open Go.RowKit.Below renaming refl->zt
open Go.Value renaming oneCell'->ej,ownBlock->eP
open Go.World renaming news_of_block->lw,ownsRow_nil->ed
open Go.World.mapTurned renaming grown->ik
open Go.World.ownsRow renaming alloc->zy,drew->zc1,kept->zF,lt->zE
open Int renaming eq_ofNat_of_zero_le->zb9
open List renaming getD->zbn,getElem?_eq_getElem->zc,idxOf_lt_length_iff->zbY,length_map->l8,mem_filter->ie,mem_of_getElem?->zq,setIfInBounds_toArray->zf,set_cons_succ->zj,set_cons_zero->zi,take_add_one->z6,take_length->zY
open List.Pairwise renaming filter->zbl
open Nat renaming le_refl->zn,le_trans->zI
open Ne renaming symm->zap
open Option renaming isSome_iff_exists->lR
open Option.some renaming inj->eF
namespace Go.Proofs
open Go.RowKit Go.Maps Go.MapKept
open Classical
def A5(w:ze)(b lo n:Nat)(N:Int->Option T):Prop:=∃F:Int->Option zg,Ae w b n F/\∀k t,N k=some t->∃gv kv,F k=some (yJ t.k t.s gv kv)/\BL w lo w.heap.size t gv kv
theorem A5.at{w:ze}{b lo n:Nat}{N:Int->Option T}(h:A5 w b lo n N):FF w b n N:=by obtain⟨F,a,f⟩:=h;refine⟨F,a,λk t hk=>?_⟩;obtain⟨d,g,e,c⟩:=f k t hk;exact⟨d,g,e,c.lies (zn _)⟩
theorem A5.below{w w':ze}{b lo n:Nat}{N:Int->Option T}(h:A5 w b lo n N)(hb:Below w.heap.size w w'):A5 w' b lo n N:=by obtain⟨F,a,f⟩:=h;refine⟨F,a.below hb a.lt,λk t hk=>?_⟩;obtain⟨d,g,e,c⟩:=f k t hk;exact⟨d,g,e,(c.keep λk _ hk=>hb.block k hk).mono (zn _) hb.size⟩
theorem A5.made(w:ze)(lo:Nat):A5 (w.alloc (.map #[] 0)) w.heap.size lo 0 λ_=>none:=⟨_,B6 w,λ_ _ h=>by cases h⟩
theorem A5.congr{w:ze}{b lo n n':Nat}{N N':Int->Option T}(h:A5 w b lo n N)(e:∀k,N' k=N k)(hn:n<=n'):A5 w b lo n' N':=by have:N'=N:=funext e;subst this;obtain⟨F,a,c⟩:=h;exact⟨F,a.mono hn,c⟩
theorem A5.put{w W:ze}{b lo n:Nat}{F:Int->Option zg}{N:Int->Option T}{k:Int}{t:T}{gv kv:zg}(hF:∀k t,N k=some t->∃gv kv,F k=some (yJ t.k t.s gv kv)/\BL w lo w.heap.size t gv kv)(hm:Ae W b n (upd F k (yJ t.k t.s gv kv)))(ht:w.mapTurned W b)(hl:BL w lo w.heap.size t gv kv)(hb:b<lo):A5 W b lo n λi=>if i=k then some t else N i:=by
 have f:∀{t:T}{gv kv:zg},BL w lo w.heap.size t gv kv->BL W lo W.heap.size t gv kv:=λh=>by rw[yU ht];exact h.keep λk d _=>yu ht (by omega)
 refine⟨_,hm,λi u hi=>?_⟩;dsimp only at hi;unfold upd;by_cases e:i=k
 .rw[if_pos e]at hi⊢;cases hi;exact⟨gv,kv,rfl,f hl⟩
 .rw[if_neg e]at hi⊢;obtain⟨a,c,d,g⟩:=hF i u hi;exact⟨a,c,d,f g⟩
theorem A5.look{w:ze}{b lo n:Nat}{N:Int->Option T}(h:A5 w b lo n N){k:Int}{t:T}(hk:N k=some t)(hi:yw k){W:ze}(hW:Below w.heap.size w W):∃gv kv,(ec 122 (.map (some b)) (.int .i64 k) false).run Tryz.prog W=.ok (yJ t.k t.s gv kv) W/\BL W lo w.heap.size t gv kv:=by obtain⟨F,a,d⟩:=h;obtain⟨gv,kv,e,c⟩:=d k t hk;refine⟨gv,kv,?_,c.keep λk _ hk=>hW.block k hk⟩;have:=(a.below hW a.lt).look (t:=122) (e:=25) Tryz.underlying122 (PZ W) k hi;rw[this,e];rfl
theorem Uh{w:ze}{base lo X:Nat}{A:Nat->Prop}{u:zg}{ts:List T}{xs:List (List zg)}(hN:AF w lo A ts xs)(hr:w.ownsRow base 25 4 u ts.length xs.flatten)(hb:lo<=base)(hA:A X)(hu:u.ownBlock≠some X):∀W:ze,(∀k,lo<=k->k<w.heap.size->k≠X->W.heap[k]?=w.heap[k]?)->w.heap.size<=W.heap.size->Bq W u ts:=by
 intro W y M;have n:∀vs∈xs,vs.length=4:=λvs hvs=>by
  obtain⟨i,C,e⟩:=List.getElem_of_mem hvs;have o:i<ts.length:=by have:=hN.1;omega
  obtain⟨D,B,_,_,G,_⟩:=hN.2 i ts[i] vs (zc o) (by rw[zc C,e]);rw[G];rfl
 rcases hr.2 with⟨rfl,E⟩|⟨g,r,s,rfl,L,d,O,z,I,x⟩
 .exact .inl ⟨⟨_,_,rfl⟩,List.length_eq_zero_iff.1 E⟩
 .have p:=(Array.getElem?_eq_some_iff.1 d).1;have q:g≠X:=λe=>hu (by simp[eP,e]);refine .inr ⟨g,0,r,rfl,by omega,λi t ht=>?_⟩;have C:i<ts.length:=(List.getElem?_eq_some_iff.1 ht).1;have f:xs[i]?=some (xs[i]'(by have:=hN.1;omega)):=zc _;obtain⟨D,B,l,h,e,J,N,H,m⟩:=hN.2 i t _ ht f;have c:∀j,j<4->W.cell? ⟨g,0+i*4+j,none⟩=(xs[i]'(by have:=hN.1;omega))[j]?:=by intro j F;have v:=(y g (by omega) p q).trans d;rw[cell_of_row W g (0+i*4+j) s 25 (0,0) v];have m:=V9 n f F;rw[<-x]at m;rw[<-m,List.getElem?_take_of_lt (by omega),Nat.zero_add];simp
  rw[e]at c;refine⟨D,B,c 0 (by omega),c 1 (by omega),c 2 (by omega),c 3 (by omega),H W (λk a b=>y k (by omega) (by omega) (λe=>m X hA ⟨by omega,by omega⟩)) (by omega)⟩
theorem T.sizes_mem{ks:List T}{t:T}(h:t∈ks):t.size<=T.sizes ks:=by
 induction ks with
 |nil=>cases h
 |cons u l ih=>
  rcases List.mem_cons.1 h with rfl|h
  .simp[T.sizes]
  .have:=ih h;simp[T.sizes];omega
inductive Jk(S:Ver):T->Int->Prop
 |mk {k:Int} {s:ByteArray} {g:List ByteArray} {ks:List T} {id:Int} (y:Dl) (h:S id=some y) (hk:y.k=k) (hs:y.s=s) (hg:y.g=g) (hl:y.kids.length=ks.length) (hc:∀(i:Nat)(t:T)(c:Int),ks[i]?=some t->y.kids[i]?=some c->Jk S t c):Jk S (.mk k s g ks) id
inductive T.Owned:T->Prop
 |mk {k:Int} {s:ByteArray} {g:List ByteArray} {ks:List T} (h:(g.length:Int)=(T.mk k s g ks).own\/g=[]) (hk:∀t∈ks,T.Owned t):T.Owned (.mk k s g ks)
def FQ(w:ze)(b n:Nat)(D:Int->List Int):Prop:=∃F:Int->Option zg,Ae w b n F/\∀i,∃v,(F i=some v\/F i=none/\v=.slice none 0 0)/\yo w v (D i)
theorem FQ.below{w w':ze}{b n:Nat}{D:Int->List Int}(h:FQ w b n D)(hb:Below w.heap.size w w'):FQ w' b n D:=by obtain⟨F,a,d⟩:=h;refine⟨F,a.below hb a.lt,λi=>?_⟩;obtain⟨v,f,c⟩:=d i;exact⟨v,f,c.below hb⟩
theorem PU(w:ze):(zeroValue 55).run Tryz.prog w=.ok (.slice none 0 0) w:=by kernel_rfl
theorem FQ.look{w:ze}{b n:Nat}{D:Int->List Int}(h:FQ w b n D){i:Int}(hi:yw i):∃p c,(∀W,Below w.heap.size w W->(ec 97 (.map (some b)) (.int .i64 i) false).run Tryz.prog W=.ok (.slice p (D i).length c) W)/\yo w (.slice p (D i).length c) (D i):=by
 obtain⟨F,a,f⟩:=h;obtain⟨v,g,d⟩:=f i;obtain⟨p,c,rfl⟩:=d.slice;refine⟨p,c,λW hW=>?_,d⟩;have:=(a.below hW a.lt).look (t:=97) (e:=55) Tryz.underlying97 (PU W) i hi;rw[this];rcases g with h|⟨h,e⟩
 .rw[h];rfl
 .rw[h,e];rfl
theorem SY.look{w:ze}{b n:Nat}{G:Int->Option ByteArray}(h:SY w b n G){i:Int}{s:ByteArray}(hs:G i=some s)(hi:yw i){W:ze}(hW:Below w.heap.size w W):(ec 66 (.map (some b)) (.int .i64 i) false).run Tryz.prog W=.ok (.string s) W:=by have:=(Ae.below h hW (Ae.lt h)).look (t:=66) (e:=9) Tryz.underlying66 (Tx W) i hi;rw[this,hs];rfl
structure W4(w:ze)(M b l r s0 s1 kb tb pb bb nb nl nr nt nd cnt:Nat)(B L R:Ver)(G:Int->Option ByteArray)(D:Int->List Int)(pk:zg):Prop where
 m:w.heap[M]?=some (.cells (BV b l r s0 s1 cnt pk (.map (some kb)) (.map (some tb)) (.map (some pb))) 69 (0,0))
 vb:yV w b nb B
 vl:yV w l nl L
 vr:yV w r nr R
 t:SY w tb nt G
 d:FQ w bb nd D
 s:Bh w
theorem W4.below{w w':ze}{M b l r s0 s1 kb tb pb bb nb nl nr nt nd cnt:Nat}{B L R:Ver}{G:Int->Option ByteArray}{D:Int->List Int}{pk:zg}(h:W4 w M b l r s0 s1 kb tb pb bb nb nl nr nt nd cnt B L R G D pk)(hb:Below w.heap.size w w'):W4 w' M b l r s0 s1 kb tb pb bb nb nl nr nt nd cnt B L R G D pk:=⟨(hb.block _ (yz h.m)).trans h.m,h.vb.below hb,h.vl.below hb,h.vr.below hb,Ae.below h.t hb (Ae.lt h.t),h.d.below hb,h.s.below hb⟩
structure P8(B L R S:Ver)(G:Int->Option ByteArray)(D:Int->List Int)(cnt:Nat):Prop where
 win:Win B L R S
 kB:A7 B
 kL:A7 L
 kR:A7 R
 gB:By B
 gL:By L
 gR:By R
 cle:cnt<=1000
 kind:∀i y z,S i=some y->L i=some z->z.k=y.k
 text:∀i y,S i=some y->G i=some y.s
 kids:∀i y,S i=some y->y.kids.Nodup/\(D i).length<=300/\(D i).Nodup/\(∀k,k∈D i↔k∈y.kids)/\∀k∈D i,0<=k/\k<cnt
 fit:∀i y,S i=some y->yw i
theorem P8.right{B L R S:Ver}{G:Int->Option ByteArray}{D:Int->List Int}{cnt:Nat}(h:P8 B L R S G D cnt){i:Int}{y:Dl}(hy:S i=some y)(hl:L i=none):R i=some y:=by
 rcases h.win i with⟨b,a⟩|⟨b,a⟩|⟨b,a⟩
 .rw[<-a,hy]
 .rw[<-a,hy]
 .rw[hy,hl]at a;cases a
theorem U8{S:Ver}{k:Int}{s:ByteArray}{g:List ByteArray}{ks:List T}{id:Int}(h:Jk S (.mk k s g ks) id):∃y,S id=some y/\y.k=k/\y.s=s/\y.g=g/\y.kids.length=ks.length/\∀(i:Nat)(t:T)(c:Int),ks[i]?=some t->y.kids[i]?=some c->Jk S t c:=by cases h;exact⟨_,by assumption,by assumption,by assumption,by assumption,by assumption,by assumption⟩
theorem TA{k:Int}{s:ByteArray}{g:List ByteArray}{ks:List T}(h:(T.mk k s g ks).Owned):(if(g.length:Int)=(T.mk k s g ks).own then g else[])=g/\∀t∈ks,t.Owned:=by
 cases h with
 |mk h hk=>
  refine⟨?_,hk⟩;rcases h with h|rfl
  .rw[if_pos h]
  .simp
theorem OD (HPr : G3) (M b l r s0 s1 kb tb pb bb nb nl nr nt nd cnt : Nat) (B L R S : Ver) (G : Int → Option ByteArray) (D : Int → List Int) (pk : zg) (hF : P8 B L R S G D cnt) :
    ∀ (t : T) (id : Int) (w : ze), Jk S t id → t.size ≤ 300 → t.bulk ≤ 1048576 → t.Owned → W4 w M b l r s0 s1 kb tb pb bb nb nl nr nt nd cnt B L R G D pk →
      zM Tryz.prog 43 #[.pointer (some ⟨M, 0, none⟩), .int .i64 id, .map (some bb)] w fun e w' => ∃ gv kv, e = .returned (yJ t.k t.s gv kv) ∧ BL w' w.heap.size w'.heap.size t gv kv ∧ Below w.heap.size w w' := by
  refine T.ind fun k s g ks ih id w hT hs hb ho hA => ?_
  obtain ⟨y, hy, rfl, rfl, rfl, a2, fd⟩ := U8 hT
  obtain ⟨d7, fk⟩ := TA ho
  obtain ⟨ds, gf, gm, fi, gs⟩ := hF.kids id y hy
  have C := hF.fit id y hy
  have gc := hF.text id y hy
  simp only [T.k, T.s]
  rw [T.size] at hs
  rw [T.bulk] at hb
  obtain ⟨m0, m1, m2, m3, m4, m5, m6, m7, m8, m9, j3⟩ := yY hA.m
  have j5 := yz hA.m
  obtain ⟨Z, q1, q2, q3, q4, fw, -, -, -⟩ := hA.vb.look_all C
  obtain ⟨il, q5, q6, q7, q8, gi, -, -, fx⟩ := hA.vl.look_all C
  obtain ⟨ir, q9, jc, h7, hn, ff, -, -, fp⟩ := hA.vr.look_all C
  have dv := hA.vb.lt
  have d3 := hA.vl.lt
  have dq := hA.vr.lt
  obtain ⟨w1, ax⟩ : ∃ w1, w1 = (w.alloc (.cells #[.int .i64 0, .string ⟨#[]⟩, .slice none 0 0, .slice none 0 0] 25)).alloc (.cells #[.int .i64 Z.k, .string Z.s, .slice q1 Z.g.length q2, .int .i64 Z.parent, .slice q3 Z.kids.length q4] 94) := ⟨_, rfl⟩
  have gu : Below w.heap.size w w1 := by rw [ax]; exact (ya _).trans ((ya _).mono (by simp))
  have cv : w1.heap.size = w.heap.size + 2 := by rw [ax]; simp
  have gl : w1.heap[w.heap.size]? = some (.cells #[.int .i64 0, .string ⟨#[]⟩, .slice none 0 0, .slice none 0 0] 25 (0, 0)) := by rw [ax]; exact ((ya (w := w.alloc _) _).block w.heap.size (by simp)).trans (zx _ _)
  have fu : w1.heap[w.heap.size + 1]? = some (.cells #[.int .i64 Z.k, .string Z.s, .slice q1 Z.g.length q2, .int .i64 Z.parent, .slice q3 Z.kids.length q4] 94 (0, 0)) := by
    have h := zx (w.alloc (.cells #[.int .i64 0, .string ⟨#[]⟩, .slice none 0 0, .slice none 0 0] 25)) (.cells #[.int .i64 Z.k, .string Z.s, .slice q1 Z.g.length q2, .int .i64 Z.parent, .slice q3 Z.kids.length q4] 94)
    rw [ye] at h
    rw [ax]
    exact h
  have dw := za gl
  have dx := za fu
  have ge : eW (∀ W, Below w.heap.size w W → (ec 62 (.map (some b)) (.int .i64 id) false).run Tryz.prog W = .ok (Dh Z q1 q2 q3 q4) W) := za fun W hW => (fw W (hW.block _ dv)).1
  have fe : eW (∀ W, Below w.heap.size w W → (ec 62 (.map (some l)) (.int .i64 id) false).run Tryz.prog W = .ok (Dh il q5 q6 q7 q8) W) := za fun W hW => (gi W (hW.block _ d3)).1
  have fv : eW (∀ W, Below w.heap.size w W → (ec 62 (.map (some r)) (.int .i64 id) false).run Tryz.prog W = .ok (Dh ir q9 jc h7 hn) W) := za fun W hW => (ff W (hW.block _ dq)).1
  have hv := ge.out (w.alloc (.cells #[.int .i64 0, .string ⟨#[]⟩, .slice none 0 0, .slice none 0 0] 25)) (ya _)
  have b7 := za cv
  have cj := za gu
  have HA := za hA
  have HF := za hF
  have jd := za ih
  have j2 := za fd
  have jt := za fk
  have HY := za hy
  have f : eW (((if (y.g.length : Int) = (T.mk y.k y.s y.g ks).own then y.g else []) = y.g) ∧ y.kids.length = ks.length ∧ 1 + T.sizes ks ≤ 300 ∧ T.bulks ks ≤ 1048576 ∧ y.kids.Nodup ∧ (D id).length ≤ 300 ∧ (D id).Nodup ∧ (∀ k, k ∈ D id ↔ k ∈ y.kids) ∧ (∀ k ∈ D id, 0 ≤ k ∧ k < cnt) ∧ G id = some y.s) := za ⟨d7, a2, hs, by omega, ds, gf, gm, fi, gs, gc⟩
  have gt : eW (∀ W, Below w.heap.size w W → zM Tryz.prog 74 #[.map (some l), .int .i64 id] W fun e w' => e = .returned (.bool (L id).isSome) ∧ Below W.heap.size W w') := za fun W hW => DG l nl L id W (hA.vl.below hW) C
  have fm : eW (∀ W, Below w.heap.size w W → zM Tryz.prog 74 #[.map (some r), .int .i64 id] W fun e w' => e = .returned (.bool (R id).isSome) ∧ Below W.heap.size W w') := za fun W hW => DG r nr R id W (hA.vr.below hW) C
  have gr : eW ((L id).isSome = true → il.k = y.k) := za fun h => by
    cases hl : L id with
    | none => rw [hl] at h; cases h
    | some z => rw [fx, hl]; exact hF.kind id y z hy hl
  have d6 : eW ((L id).isSome = false → (R id).isSome = true ∧ ir.k = y.k) := za fun h => by
    cases hl : L id with
    | some z => rw [hl] at h; cases h
    | none =>
      have := hF.right hy hl
      rw [fp, this]
      exact ⟨rfl, rfl⟩
  generalize (L id).isSome = ql at *
  generalize (R id).isSome = qr at *
  clear hT ho d7 fk ds gf gm fi gs gc hy a2 fd hs hb fw gi ff fx fp hA hF ih cv gu gl fu
  go_enter Tryz.func43, Tryz.ntmps43
  go_upto_if 25 with (first
    | (go_at_call 74; rw [← ax]; refine (gt.out w1 cj.out).mono ?_; rintro e w2 ⟨rfl, ao⟩))
  have Y := za (cj.out.trans (ao.mono cj.out.size))
  have au := ao.size
  have cp : ∀ i v, w.cell? ⟨M, i, none⟩ = some v → w2.cell? ⟨M, i, none⟩ = some v := fun i v h => (Y.out.cell (p := ⟨M, i, none⟩) j5).trans h
  have v1 := cp 1 _ m1
  have v2 := cp 2 _ m2
  have U := (ao.block (w.heap.size + 1) (by have := b7.out; omega)).trans dx.out
  have ft := (ao.block w.heap.size (by have := b7.out; omega)).trans dw.out
  obtain ⟨b0, b1, b2, b3, b4⟩ := yX U
  have f0 := zk w2 (w.heap.size + 1) 0 _ _ U
  have f1 := zk w2 (w.heap.size + 1) 1 _ _ U
  have f2 := zk w2 (w.heap.size + 1) 2 _ _ U
  have f3 := zk w2 (w.heap.size + 1) 3 _ _ U
  have f4 := zk w2 (w.heap.size + 1) 4 _ _ U
  have b5 := za U
  have b8 := za ft
  have g7 := fe.out w2 Y.out
  have f6 := za ao
  clear U ft ax cp ao
  go_cut [7] (fun s7 W => s7 = .pointer (some ⟨w.heap.size + 1, 0, none⟩) ∧ Below w.heap.size w W ∧ w1.heap.size ≤ W.heap.size ∧ W.heap[w.heap.size]? = some (.cells #[.int .i64 0, .string ⟨#[]⟩, .slice none 0 0, .slice none 0 0] 25 (0, 0)) ∧ ∃ v1 v2 v3 v4, W.heap[w.heap.size + 1]? = some (.cells #[.int .i64 y.k, v1, v2, v3, v4] 94 (0, 0)))
  case first =>
    have ca : eW (∀ W (z0 z1 z2 z3 z4 y1 y2 y3 y4 : zg), Below w.heap.size w W → w1.heap.size ≤ W.heap.size → W.heap[w.heap.size]? = some (.cells #[.int .i64 0, .string ⟨#[]⟩, .slice none 0 0, .slice none 0 0] 25 (0, 0)) → W.heap[w.heap.size + 1]? = some (.cells #[z0, z1, z2, z3, z4] 94 (0, 0)) →
        Below w.heap.size w (((((W.setCell ⟨w.heap.size + 1, 0, none⟩ (.int .i64 y.k)).setCell ⟨w.heap.size + 1, 1, none⟩ y1).setCell ⟨w.heap.size + 1, 2, none⟩ y2).setCell ⟨w.heap.size + 1, 3, none⟩ y3).setCell ⟨w.heap.size + 1, 4, none⟩ y4) ∧
        w1.heap.size ≤ (((((W.setCell ⟨w.heap.size + 1, 0, none⟩ (.int .i64 y.k)).setCell ⟨w.heap.size + 1, 1, none⟩ y1).setCell ⟨w.heap.size + 1, 2, none⟩ y2).setCell ⟨w.heap.size + 1, 3, none⟩ y3).setCell ⟨w.heap.size + 1, 4, none⟩ y4).heap.size ∧
        (((((W.setCell ⟨w.heap.size + 1, 0, none⟩ (.int .i64 y.k)).setCell ⟨w.heap.size + 1, 1, none⟩ y1).setCell ⟨w.heap.size + 1, 2, none⟩ y2).setCell ⟨w.heap.size + 1, 3, none⟩ y3).setCell ⟨w.heap.size + 1, 4, none⟩ y4).heap[w.heap.size]? = some (.cells #[.int .i64 0, .string ⟨#[]⟩, .slice none 0 0, .slice none 0 0] 25 (0, 0)) ∧
        ∃ v1 v2 v3 v4, (((((W.setCell ⟨w.heap.size + 1, 0, none⟩ (.int .i64 y.k)).setCell ⟨w.heap.size + 1, 1, none⟩ y1).setCell ⟨w.heap.size + 1, 2, none⟩ y2).setCell ⟨w.heap.size + 1, 3, none⟩ y3).setCell ⟨w.heap.size + 1, 4, none⟩ y4).heap[w.heap.size + 1]? = some (.cells #[.int .i64 y.k, v1, v2, v3, v4] 94 (0, 0))) := za fun W z0 z1 z2 z3 z4 y1 y2 y3 y4 h1 h2 h3 h4 => by
      have hg : W.grownBy (((((W.setCell ⟨w.heap.size + 1, 0, none⟩ (.int .i64 y.k)).setCell ⟨w.heap.size + 1, 1, none⟩ y1).setCell ⟨w.heap.size + 1, 2, none⟩ y2).setCell ⟨w.heap.size + 1, 3, none⟩ y3).setCell ⟨w.heap.size + 1, 4, none⟩ y4) (some (w.heap.size + 1)) :=
        yc (yc (yc (yc (yn _ _ _ _) (yn _ _ _ _)) (yn _ _ _ _)) (yn _ _ _ _)) (yn _ _ _ _)
      have cv := b7.out
      exact ⟨yd h1 hg (fun k e => by cases e; omega) h1.size, zI h2 hg.size, (hg.block _ (by omega) (by simp)).trans h3, _, _, _, _,
        zA _ _ 4 _ _ _ (zA _ _ 3 _ _ _ (zA _ _ 2 _ _ _ (zA _ _ 1 _ _ _ (zA W _ 0 _ _ _ h4))))⟩
    cases ql with
    | true =>
      have a := gr.out rfl
      go_wp2
      go_meet
      exact ⟨rfl, ca.out _ _ _ _ _ _ _ _ _ _ Y.out au b8.out b5.out⟩
    | false =>
      obtain ⟨rfl, a⟩ := d6.out rfl
      have hw := za au
      clear au b0 b1 b2 b3 b4 f0 f1 f2 f3 f4
      go_wp2_with (first
        | (go_at_call 74; refine (fm.out w2 Y.out).mono ?_; rintro e w3 ⟨rfl, av⟩
           have v2 := (av.cell (p := ⟨M, 2, none⟩) (by show M < w2.heap.size; have := Y.out.size; omega)).trans v2
           have fl := za (Y.out.trans (av.mono Y.out.size))
           have X := (av.block (w.heap.size + 1) (yz b5.out)).trans b5.out
           have hp := za ((av.block w.heap.size (yz b8.out)).trans b8.out)
           have mi := fv.out w3 fl.out
           have je := za (zI hw.out av.size)
           obtain ⟨b0, b1, b2, b3, b4⟩ := yX X
           have f0 := zk w3 (w.heap.size + 1) 0 _ _ X
           have f1 := zk w3 (w.heap.size + 1) 1 _ _ X
           have f2 := zk w3 (w.heap.size + 1) 2 _ _ X
           have f3 := zk w3 (w.heap.size + 1) 3 _ _ X
           have f4 := zk w3 (w.heap.size + 1) 4 _ _ X
           have h0 := za X
           clear X av))
      go_meet
      exact ⟨rfl, ca.out _ _ _ _ _ _ _ _ _ _ fl.out je.out hp.out h0.out⟩
  case rest =>
    rename ze => wa
    obtain ⟨rfl, E, hd, f7, ko, ma, ku, mm, bm⟩ := hcut
    clear gt fm gr d6 ge fe fv hv g7 b0 b1 b2 b3 b4 f0 f1 f2 f3 f4 b5 b8 dw dx f6 Y au v1 v2 m0 m1 m2 m3 m4 m5 m6 m7 m8 m9 j3 dv d3 dq
    have hmk : ∀ W : ze, (za2 122 none).run Tryz.prog W = .ok (.map (some W.heap.size)) (W.alloc (.map #[] 0)) := fun W => run_makeMap _ W
    have q := HA.out.below E
    obtain ⟨pd, cd, da, d1⟩ := q.d.look C
    have a3 := da (wa.alloc (.map #[] 0)) (ya _)
    have kx := za da
    have h6 := za d1
    have f8 := za E
    have mh := za q
    have dr := za f7
    have d4 := za bm
    have ki : w.heap.size + 2 ≤ wa.heap.size := by have := b7.out; omega
    obtain ⟨w5, bw⟩ : ∃ w5, w5 = wa.alloc (.map #[] 0) := ⟨_, rfl⟩
    have fg : Below wa.heap.size wa w5 := by rw [bw]; exact ya _
    have fz : w5.heap.size = wa.heap.size + 1 := by rw [bw]; simp
    have gn : A5 w5 wa.heap.size w5.heap.size 0 fun _ => none := by rw [bw]; exact A5.made wa _
    have jp := za fg
    have bi := za fz
    have jg := za gn
    obtain ⟨N, hN⟩ : ∃ N : Nat → Int → Option T, N = fun j k => if k ∈ (D id).take j then ks[y.kids.idxOf k]? else none := ⟨_, rfl⟩
    have HN := za hN
    clear da d1 E q f7 bm fg fz gn hN hd
    go_wp2
    rw [← bw]
    clear a3
    go_loopw [10, 49] (fun _ iv V => ∃ j : Nat, j ≤ (D id).length ∧ iv = .int .i64 j ∧ A5 V wa.heap.size w5.heap.size j (N j) ∧ w5.grownBy V (some wa.heap.size)) (fun _ iv _ => (D id).length - (intOf iv).toNat)
    case atStart => exact ⟨0, by omega, rfl, jg.out.congr (fun k => by rw [HN.out]; simp) (zn _), ⟨rfl, rfl, rfl, zn _, fun _ _ _ => rfl⟩⟩
    case round =>
      obtain ⟨j, hj, rfl, cm, x⟩ := hrel
      have ai := x.size
      have ar : Below wa.heap.size wa wr := yd jp.out x (fun k e => by cases e; exact zn _) (by have := bi.out; omega)
      have a9 : Below w.heap.size w wr := f8.out.trans (ar.mono f8.out.size)
      have bt := za x
      have fq := za ar
      have b6 := za a9
      by_cases aw : j < (D id).length
      · obtain ⟨k, a⟩ : ∃ k, (D id)[j]? = some k := ⟨(D id)[j], zc aw⟩
        have db := zq a
        obtain ⟨bh, af, bf, a4, ak, an, bl, H, Q, a6⟩ := f.out
        have jw := Q k db
        have kn : j < 300 := by omega
        have cl := HF.out.cle
        have ch : yw k := WalkArith.wf_i64 (by omega)
        have bx := (H k).1 db
        have br : y.kids.idxOf k < ks.length := by rw [← af]; exact zbY.2 bx
        obtain ⟨t, ht⟩ : ∃ t, ks[y.kids.idxOf k]? = some t := ⟨ks[y.kids.idxOf k], zc br⟩
        have a5 := zq ht
        have gp : y.kids[y.kids.idxOf k]? = some k := by
          rw [zc (by omega)]
          simp
        obtain ⟨F, fa, gj⟩ := cm
        have HI := za (jd.out t a5 k wr (j2.out _ t k ht gp) (by have := T.sizes_mem a5; omega) (by have := T.bulk_mem a5; omega) (jt.out t a5) (HA.out.below a9))
        obtain ⟨bd, od, df, hi, ck⟩ := (h6.out.below ar).at a
        subst df
        have d0 := za fa
        have hc := za gj
        have HT := za ht
        have ja := za a
        clear a db bh af bf a4 ak an bl H Q a6 jw cl bx br ht a5 gp fa gj x ar a9
        go_wp2_with (first
          | (go_at_call 43; refine HI.out.mono ?_; rintro e w7 ⟨k9, k1, rfl, gx, fc⟩; have j1 := za gx; have bv := za fc; clear gx fc)
          | (at_mapUpdate; refine yS rfl _ _ _ 122 25 rfl Tryz.underlying122 wa.heap.size j F rfl (Ae.below d0.out bv.out d0.out.lt) (by simp only [maxLen]; omega) k rfl ch ?_; intro w8 jm fb))
        have g9 : ∀ k t, N j k = some t → ∃ gv kv, F k = some (yJ t.k t.s gv kv) ∧ BL w7 w5.heap.size w7.heap.size t gv kv := fun k t h => by
          obtain ⟨gv, kv, h1, h2⟩ := hc.out k t h
          exact ⟨gv, kv, h1, (h2.keep fun k _ a => bv.out.block k a).mono (zn _) bv.out.size⟩
        go_roundw
        case rel =>
          refine ⟨j + 1, by omega, by go_num, (A5.put (w := w7) g9 jm fb (j1.out.mono ai (zn _)) (by have := bi.out; omega)).congr (fun i => ?_) (zn _), yc (yc bt.out (yM bv.out)) (ik fb)⟩
          rw [HN.out]
          dsimp only
          rw [z6, ja.out]
          by_cases e : i = k
          · subst e
            rw [if_pos (by simp), if_pos rfl, HT.out]
          · rw [if_neg e]
            simp [e]
        case measure => simp [intOf]; omega
      · rename ze => wq
        obtain rfl : j = (D id).length := by omega
        have d5 := (ar.block (w.heap.size + 1) (by omega)).trans d4.out
        have bs := HA.out.below a9
        obtain ⟨x0, -, -, -, -⟩ := yX d5
        obtain ⟨-, -, -, -, -, -, -, -, -, m8, -⟩ := yY bs.m
        have j0 : w.heap.size + 1 < wq.heap.size ∧ M < wq.heap.size := by have := bi.out; omega
        have f5 := za cm
        have jo := za bs
        clear x ar a9 cm d5
        go_upto_region 12 with fail
        have a2 := bs.t.look f.out.2.2.2.2.2.2.2.2.2 C (zt _ _)
        have am : eW (∀ V, Below wq.heap.size wq V → V.cell? ⟨w.heap.size + 1, 0, none⟩ = some (.int .i64 y.k) ∧ V.cell? ⟨M, 9, none⟩ = some (.map (some tb)) ∧ (ec 66 (.map (some tb)) (.int .i64 id) false).run Tryz.prog V = .ok (.string y.s) V) := za fun V hV =>
          ⟨(hV.cell (p := ⟨w.heap.size + 1, 0, none⟩) (by show w.heap.size + 1 < _; omega)).trans x0, (hV.cell (p := ⟨M, 9, none⟩) (by show M < _; omega)).trans m8, jo.out.t.look f.out.2.2.2.2.2.2.2.2.2 C hV⟩
        have b0 : Below wq.heap.size wq wq.drew := (zt _ _).drew
        have b1 : Below wq.heap.size wq (wq.alloc (.cells #[.int .i64 0, .string ⟨#[]⟩, .slice none 0 0, .slice none 0 0] 25)).drew := (ya _).drew
        have b2 : Below wq.heap.size wq (wq.drew.alloc (.cells #[.int .i64 0, .string ⟨#[]⟩, .slice none 0 0, .slice none 0 0] 25)) := b0.trans ((ya _).mono (zn _))
        have b3 : Below wq.heap.size wq (wq.drew.alloc (.cells #[.int .i64 y.k, .string y.s, .slice none 0 0, .slice none 0 0] 25)) := b0.trans ((ya _).mono (zn _))
        have b4 : Below wq.heap.size wq (wq.alloc (.cells #[.int .i64 y.k, .string y.s, .slice none 0 0, .slice none 0 0] 25)).drew := (ya _).drew
        have c0 := am.out _ b0
        have c1 := am.out _ b1
        have c2 := am.out _ b2
        have c3 := am.out _ b3
        have c4 := am.out _ b4
        go_cut [11] (fun s11 W => s11 = .pointer (some ⟨wq.heap.size, 0, none⟩) ∧ Below wq.heap.size wq W ∧ W.heap[wq.heap.size]? = some (.cells #[.int .i64 y.k, .string y.s, .slice none 0 0, .slice none 0 0] 25 (0, 0)))
        case first =>
          go_region_held3 (fun V => V.cell? ⟨w.heap.size + 1, 0, none⟩ = some (.int .i64 y.k) ∧ V.cell? ⟨M, 9, none⟩ = some (.map (some tb)) ∧ (ec 66 (.map (some tb)) (.int .i64 id) false).run Tryz.prog V = .ok (.string y.s) V) (assumption) (fail)
          all_goals
            go_wp2_with fail
            go_meet
            exact ⟨rfl, b4, zx _ _⟩
        case rest =>
          obtain ⟨rfl, E, gh⟩ := hcut
          clear b0 b1 b2 b3 b4 c0 c1 c2 c3 c4 x0 am a2
          have f9 := za (b6.out.trans (E.mono b6.out.size))
          have q := HA.out.below f9.out
          obtain ⟨k6, k2, cg, cf⟩ := q.d.look C
          have jj := cg wc (zt _ _)
          obtain ⟨bh, af, bf, a4, ak, an, bl, H, Q, a6⟩ := f.out
          have cc := (f5.out.below E).at
          have HK := za (OS HPr M b l r s0 s1 nb nl nr cnt wa.heap.size (D id).length B L R S (N (D id).length) pk _ _ _ id y.k y (D id) _ wc q.m q.vb q.vl q.vr HF.out.win HY.out HF.out.kB HF.out.kL HF.out.kR q.s HF.out.cle C cf an H Q cc (fun k a => by
            have bx := (H k).1 a
            have br : y.kids.idxOf k < ks.length := by rw [← af]; exact zbY.2 bx
            have ht : ks[y.kids.idxOf k]? = some ks[y.kids.idxOf k] := zc br
            refine ⟨_, by rw [HN.out]; dsimp only; rw [if_pos (by rw [zY]; exact a)]; exact ht, ?_, ?_⟩
            · have := T.sizes_mem (zq ht); omega
            · have := T.bulk_mem (zq ht); omega))
          have bm := (E.block (w.heap.size + 1) j0.1).trans (((fq.out.block (w.heap.size + 1) (by omega)).trans d4.out))
          obtain ⟨x0, -, -, -, -⟩ := yX bm
          have cr := za gh
          have jb := za E
          have jr := za (show w5.heap.size ≤ wq.heap.size from ai)
          clear cg cf q cc bm gh E bh af bf a4 ak an bl H Q a6 bs m8 hj aw ai
          go_wp2_with fail
          refine HK.out.mono ?_
          rintro e wk ⟨u, rfl, A, bj⟩
          obtain ⟨pu, cu, rfl⟩ := yq A
          have ad := za A
          have mr := za bj
          have ga := (bj.block wq.heap.size (yz cr.out)).trans cr.out
          have h5 := za ga
          have md := yz cr.out
          have mq := bj.size
          have b9 : eW (Below wq.heap.size wq wk) := za (jb.out.trans (bj.mono (by omega)))
          obtain ⟨hf, jq, hr, jv, jx⟩ := info_parts Mn
          have O := f.out.2.1
          have ci : ks.length ≤ 300 := by
            have h1 := T.length_sizes ks
            have h2 := f.out.2.2.1
            omega
          clear A bj ga HK x0 jj
          go_wp2
          go_loopw [13, 79] (fun _ iv V => ∃ (j : Nat) (u : zg) (xs : List (List zg)), j ≤ y.kids.length ∧ iv = .int .i64 j ∧ V.heap[wq.heap.size]? = some (.cells #[.int .i64 y.k, .string y.s, .slice none 0 0, u] 25 (0, 0)) ∧ V.ownsRow wk.heap.size 25 4 u j xs.flatten ∧
              AF V w5.heap.size (fun b => wq.heap.size ≤ b) (ks.take j) xs ∧ wk.grownBy V (some wq.heap.size)) (fun _ iv _ => y.kids.length - (intOf iv).toNat)
          case atStart => exact ⟨0, .slice none 0 0, [], by omega, rfl, h5.out, ed _ _ _ _, by simpa using AF.nil _ _ _, ⟨rfl, rfl, rfl, zn _, fun _ _ _ => rfl⟩⟩
          case round =>
            obtain ⟨j, u, xs, hj, rfl, hX, A, gg, x⟩ := hrel
            obtain ⟨ap, aq, rfl⟩ := yq A
            have ai := x.size
            have ab : Below wq.heap.size wq wr := yd b9.out x (fun k e => by cases e; exact zn _) (by have := b9.out.size; omega)
            have fs : yo wr (.slice pu y.kids.length cu) y.kids := yj.ints (zF ad.out x (.inr fun e => by have := yf ad.out _ e; omega))
            have cq := za hX
            have c := za A
            have bp := za gg
            have bt := za x
            have kz := za ab
            have d9 := za fs
            have dy := yz hX
            clear A gg x fs
            by_cases aw : j < y.kids.length
            · obtain ⟨k, a⟩ : ∃ k, y.kids[j]? = some k := ⟨y.kids[j], zc aw⟩
              obtain ⟨t, ht⟩ : ∃ t, ks[j]? = some t := ⟨ks[j], zc (by omega)⟩
              obtain ⟨bh, af, bf, a4, ak, an, bl, H, Q, a6⟩ := f.out
              have co := (H k).2 (zq a)
              have cl := HF.out.cle
              have ch : yw k := by have := Q k co; exact Bg (by omega) (by omega)
              have fj : N (D id).length k = some t := by
                rw [HN.out]
                dsimp only
                rw [if_pos (by rw [zY]; exact co)]
                have e : y.kids[j] = k := by rw [zc aw] at a; exact eF a
                rw [← e, ak.idxOf_getElem j aw]
                exact ht
              obtain ⟨gv, kv, a2, de⟩ := f5.out.look fj ch ab
              obtain ⟨bd, od, df, hi, ck⟩ := d9.out.at a
              subst df
              have a3 := de.lies (by have := ab.size; omega)
              obtain ⟨cy, c6, rfl⟩ := a3.gaps.slice
              obtain ⟨c7, dg, rfl⟩ := a3.kids.slice
              obtain ⟨-, -, -, x3⟩ := yi hX
              have h8 := za de
              have HT := za ht
              have HJ := za (show j < 300 by omega)
              clear bh af bf a4 ak an bl H Q a6 co cl fj a3 de hX ab a ht
              go_wp2_with (at_builtin; refine wpList_append_own _ rfl _ _ 23 rfl wk.heap.size 25 hf _ 4 72 Tryz.underlying23 jq hr jv jx rfl (by decide) _ j xs.flatten rfl (zy c.out _) ⟨wr.heap.size, 0, none⟩ 1 1 [.int .i64 t.k, .string t.s, .slice cy t.g.length c6, .slice c7 t.ks.length dg] rfl rfl (lw (cs := #[.int .i64 t.k, .string t.s, .slice cy t.g.length c6, .slice c7 t.ks.length dg]) (t := 25) (fr := (0, 0)) (zx wr _)) (by simp [ej]) (by simp [maxLen]; have := HJ.out; omega) (by have := HJ.out; omega) (by simp; omega) ?_; intro v' w2 ah n ha; obtain ⟨g2, a7, rfl, _, _⟩ := ah.form (by omega); have dd := (n.block wq.heap.size (by simp; omega) (fun e => by have := (zE c.out _ e.symm).1; omega)).trans (((ya _).block wq.heap.size dy).trans cq.out); obtain ⟨y0, y1, y2, y3⟩ := yi dd; have g3 := zk w2 wq.heap.size 3 _ _ dd)
              go_roundw
              case rel =>
                have I := yn w2 wq.heap.size 3 (.slice (some ⟨g2, 0, none⟩) (j + 1) a7)
                have au := n.size
                rw [ye] at au
                have bc : ∀ k, k < wq.heap.size → (w2.setCell ⟨wq.heap.size, 3, none⟩ (.slice (some ⟨g2, 0, none⟩) (j + 1) a7)).heap[k]? = wr.heap[k]? := fun k a =>
                  (I.block k (by omega) (by simp; omega)).trans ((n.block k (by simp; omega) (fun e => by have := yf c.out k e.symm; omega)).trans ((ya _).block k (by omega)))
                have hm : g2 ≠ wq.heap.size := fun e => by
                  have := yf ah g2 rfl
                  omega
                refine ⟨j + 1, _, xs ++ [[.int .i64 t.k, .string t.s, .slice cy t.g.length c6, .slice c7 t.ks.length dg]], by omega, by go_num, zA w2 _ 3 _ _ _ dd, ?_, ?_, ?_⟩
                · have h := zF ah I (.inr (by simp [eP]; exact hm))
                  simpa using h
                · rw [z6, HT.out]
                  refine (bp.out.keep (by rw [show (w2.setCell ⟨wq.heap.size, 3, none⟩ (.slice (some ⟨g2, 0, none⟩) (j + 1) a7)).heap.size = w2.heap.size by simp]; omega) (fun k a hnA => bc k (by omega)) (fun k a => .inl a)).snoc (l := w5.heap.size) (h := wq.heap.size) (zn _) (by have := I.size; omega) (h8.out.keep fun k h1 h2 => bc k h2) (fun k a => by omega)
                · exact yc (Ag bt.out (yc (World.grownBy_alloc _ _ _) n) (.inr fun k a => yf c.out k a)) I
              case measure => simp [intOf]; omega
            · obtain rfl : j = y.kids.length := by omega
              rw [O, zY] at bp
              rw [O] at c
              have cz : Below w.heap.size w wr := b6.out.trans (ab.mono b6.out.size)
              have cn : (Value.slice ap y.kids.length aq).ownBlock ≠ some wq.heap.size := fun e => by have := yf c.out _ (by rw [← O]; exact e); omega
              have ac : eW (∀ W : ze, (∀ k, w5.heap.size ≤ k → k < wr.heap.size → k ≠ wq.heap.size → W.heap[k]? = wr.heap[k]?) → wr.heap.size ≤ W.heap.size → Bq W (.slice ap y.kids.length aq) ks) := za (by
                rw [O] at cn ⊢
                exact Uh bp.out c.out (by have := jr.out; omega) (zn _) cn)
              obtain ⟨c9, cx⟩ : ∃ o, eW ((T.mk y.k y.s [] ks).own = o) := ⟨_, za rfl⟩
              have jl : eW ((if (y.g.length : Int) = c9 then y.g else []) = y.g) := za (by
                have h1 := f.out.1
                rwa [show (T.mk y.k y.s y.g ks).own = c9 from cx.out] at h1)
              have be := za (Nj (T.mk y.k y.s [] ks) (.slice none 0 0) (.slice ap y.kids.length aq) wr (T.lies_iff.2 ⟨.inl ⟨⟨_, _, rfl⟩, rfl⟩, ac.out wr (fun _ _ _ _ => rfl) (zn _)⟩) ci (HA.out.below cz).s)
              obtain ⟨y0, y1, y2, y3⟩ := yi hX
              have aj := za cz
              clear cz hX cn bp c bt d9 ad
              have gb := (ab.block w.heap.size (by omega)).trans ((fq.out.block w.heap.size (by omega)).trans dr.out)
              have hq := za gb
              rw [O] at ac be y3 cq
              clear gb ab
              go_wp2_with fail
              refine be.out.mono ?_
              rintro e wo ⟨rfl, c8⟩
              rw [cx.out]
              have ce : Below w.heap.size w wo := aj.out.trans (c8.mono aj.out.size)
              have bk := HA.out.below ce
              have fh := za (OJ M b l r s0 s1 nb nl nr cnt B L R S pk _ _ _ id c9 y wo bk.m bk.vb bk.vl bk.vr HF.out.win HY.out HF.out.gB HF.out.gL HF.out.gR C)
              rw [jl.out] at fh
              have ba := za c8
              clear ce bk c8 cx be y0 y1 y2 y3
              go_wp2_with fail
              refine fh.out.mono ?_
              rintro e wg ⟨ug, rfl, dc, a8⟩
              obtain ⟨P, J, rfl⟩ := yq dc
              have k7 := ba.out.size
              have mn := a8.size
              have bz := (a8.block wq.heap.size (by omega)).trans ((ba.out.block wq.heap.size dy).trans cq.out)
              have ag := (a8.block w.heap.size (by omega)).trans ((ba.out.block w.heap.size (by omega)).trans hq.out)
              obtain ⟨x0, x1, x2, x3⟩ := yi bz
              obtain ⟨z0, z1, z2, z3⟩ := yi ag
              have f2 := zk wg wq.heap.size 2 _ _ bz
              have q0 := zk wg w.heap.size 0 _ _ ag
              have q1 := zk wg w.heap.size 1 _ _ ag
              have q2 := zk wg w.heap.size 2 _ _ ag
              have q3 := zk wg w.heap.size 3 _ _ ag
              have mv := za bz
              have g8 := za ag
              have jy := za dc
              have gq := za a8
              have d2 : w.heap.size ≠ wq.heap.size := by omega
              have j9 : wq.heap.size ≠ w.heap.size := by omega
              clear bz ag dc a8
              go_wp2
              have cw := yn wg wq.heap.size 2 (.slice P y.g.length J)
              have mp : (wg.setCell ⟨wq.heap.size, 2, none⟩ (.slice P y.g.length J)).heap.size = wg.heap.size := by simp
              have hh := (cw.block w.heap.size (by omega) (by simp; omega)).trans g8.out
              have ji : ∀ k, k < wg.heap.size → k ≠ wq.heap.size → (wg.setCell ⟨wq.heap.size, 2, none⟩ (.slice P y.g.length J)).heap[k]? = wg.heap[k]? := fun k a d2 => cw.block k a (by simp; exact d2)
              have gk : Below w.heap.size w (wg.setCell ⟨wq.heap.size, 2, none⟩ (.slice P y.g.length J)) := yd ((aj.out.trans (ba.out.mono aj.out.size)).trans (gq.out.mono (by omega))) cw (fun k e => by cases e; omega) (by omega)
              generalize (wg.setCell ⟨wq.heap.size, 2, none⟩ (.slice P y.g.length J)) = w8 at *
              have I := AT w8 w.heap.size (.int .i64 y.k) (.string y.s) (.slice P y.g.length J) (.slice ap ks.length aq)
              have gw := AO w8 w.heap.size 25 _ _ _ _ (.int .i64 y.k) (.string y.s) (.slice P y.g.length J) (.slice ap ks.length aq) hh
              obtain ⟨w9, g6⟩ : ∃ w9, w9 = ((((w8.setCell ⟨w.heap.size, 0, none⟩ (.int .i64 y.k)).setCell ⟨w.heap.size, 1, none⟩ (.string y.s)).setCell ⟨w.heap.size, 2, none⟩ (.slice P y.g.length J)).setCell ⟨w.heap.size, 3, none⟩ (.slice ap ks.length aq)) := ⟨_, rfl⟩
              rw [← g6] at I gw ⊢
              have mu := I.size
              have dt : ∀ k, k < wg.heap.size → k ≠ wq.heap.size → k ≠ w.heap.size → w9.heap[k]? = wg.heap[k]? := fun k a h1 h2 => (I.block k (by omega) (by simp; exact h2)).trans (ji k a h1)
              refine bodyPost_ret (results_cell_row rfl _ _ w.heap.size _ _ _ _ rfl gw Tryz.underlying25 rfl BZ) rfl ⟨_, _, rfl, ?_, ?_⟩
              · intro W hW hz
                refine T.lies_iff.2 ⟨(jy.out.on (W := W) (fun k h1 h2 => ?_) (by omega)).lines, ac.out W (fun k h1 h2 h3 => ?_) (by omega)⟩
                · exact (hW k (by omega) (by omega)).trans (dt k h2 (by omega) (by omega))
                · exact (hW k (by have := bi.out; omega) (by omega)).trans ((dt k (by omega) h3 (by have := bi.out; omega)).trans ((gq.out.block k (by omega)).trans (ba.out.block k h2)))
              · exact yd gk I (fun k e => by cases e; omega) gk.size
def Dd(w:ze)(lo:Nat)(F:Int->Option zg)(D:Int->List Int):Prop:=(∀i,∃v,(F i=some v\/F i=none/\v=.slice none 0 0)/\yj w lo v (D i))/\∀i j v v' g,i≠j->F i=some v->F j=some v'->v.ownBlock=some g->v'.ownBlock≠some g
def BT(w:ze)(b lo n:Nat)(D:Int->List Int):Prop:=∃F:Int->Option zg,Ae w b n F/\Dd w lo F D
theorem Dd.block{w w':ze}{lo:Nat}{F:Int->Option zg}{D:Int->List Int}(h:Dd w lo F D)(hb:Below w.heap.size w w'):Dd w' lo F D:=by refine⟨λi=>?_,h.2⟩;obtain⟨v,a,b⟩:=h.1 i;exact⟨v,a,yy b hb⟩
theorem BT.made(w:ze){lo:Nat}:BT (w.alloc (.map #[] 0)) w.heap.size lo 0 λ_=>[]:=⟨_,B6 w,λ_=>⟨_,.inr ⟨rfl,rfl⟩,ed _ _ _ _⟩,λ_ _ _ _ _ _ h=>by cases h⟩
theorem BT.at{w:ze}{b lo n:Nat}{D:Int->List Int}(h:BT w b lo n D):FQ w b n D:=by obtain⟨F,a,d,_⟩:=h;refine⟨F,a,λi=>?_⟩;obtain⟨v,f,c⟩:=d i;exact⟨v,f,c.ints⟩
theorem BT.congr{w:ze}{b lo n:Nat}{D D':Int->List Int}(h:BT w b lo n D)(e:∀i,D' i=D i):BT w b lo n D':=by have:D'=D:=funext e;rwa [this]
theorem Dd.put{w w7 w8:ze}{b lo n:Nat}{F:Int->Option zg}{D:Int->List Int}{p x:Int}{v v7:zg}(h:Dd w lo F D)(hb:b<lo)(hv:F p=some v\/F p=none/\v=.slice none 0 0)(hg:w.grownBy w7 v.ownBlock)(h7:yj w7 lo v7 (D p++[x]))(hat:∀g,v7.ownBlock=some g->v.ownBlock=some g\/w.heap.size<=g)(hm:Ae w8 b n (upd F p v7))(ht:w7.mapTurned w8 b):BT w8 b lo n λi=>if i=p then D p++[x]else D i:=by
 have q:∀{u:zg}{l:List Int},yj w7 lo u l->yj w8 lo u l:=λ{u l} hu=>zF hu (ik ht) (by
  cases e:u.ownBlock with
  |none=>exact .inl rfl
  |some k=>have:=yf hu k e;exact .inr λe'=>by cases e';omega)
 have d:∀i u,i≠p->F i=some u->u.ownBlock=none\/u.ownBlock≠v.ownBlock:=λi u hi hu=>by
  cases e:u.ownBlock with
  |none=>exact .inl rfl
  |some g=>
   right;rcases hv with hv|⟨_,rfl⟩
   .exactλe'=>h.2 i p u v g hi hu hv e e'.symm
   .simp[eP]
 refine⟨_,hm,λi=>?_,λi j u u' g hij hu hu' hg1 hg2=>?_⟩
 .by_cases e:i=p
  .subst e;exact⟨v7,.inl (by unfold upd;rw[if_pos rfl]),by dsimp only;rw[if_pos rfl];exact q h7⟩
  .obtain⟨u,a,c⟩:=h.1 i;refine⟨u,by unfold upd;rw[if_neg e];exact a,?_⟩;dsimp only;rw[if_neg e];refine q (zF c hg ?_);rcases a with a|⟨_,rfl⟩
   .exact d i u e a
   .exact .inl rfl
 .have f:∀i u,i≠p->F i=some u->∀g,u.ownBlock=some g->g<w.heap.size:=λi u _ hu g hg=>by
   obtain⟨u2,a,c⟩:=h.1 i;rcases a with a|⟨a,_⟩
   .rw[hu]at a;cases a;exact(zE c g hg).2
   .rw[hu]at a;cases a
  unfold upd at hu hu';by_cases m:i=p
  .subst m;rw[if_pos rfl]at hu;cases hu;rw[if_neg (zap hij)]at hu';rcases hat g hg1 with a|a
   .rcases d j u' (zap hij) hu' with c|c
    .rw[c]at hg2;cases hg2
    .exact c (by rw[hg2,a])
   .have:=f j u' (zap hij) hu' g hg2;omega
  .rw[if_neg m]at hu;by_cases o:j=p
   .subst o;rw[if_pos rfl]at hu';cases hu';rcases hat g hg2 with a|a
    .rcases d i u m hu with c|c
     .rw[c]at hg1;cases hg1
     .exact c (by rw[hg1,a])
    .have:=f i u m hu g hg1;omega
   .rw[if_neg o]at hu';exact h.2 i j u u' g hij hu hu' hg1 hg2
structure FL(B L R S:Ver)(cnt:Nat)(t:T):Prop where
 win:Win B L R S
 base:Eg B cnt
 sp1:yIO B R L
 sp2:yIO B L R
 kB:A7 B
 kL:A7 L
 kR:A7 R
 gB:By B
 gL:By L
 gR:By R
 cle:cnt<=300
 kind:∀i y z,S i=some y->L i=some z->z.k=y.k
 rng:∀i y,S i=some y->0<=i/\i<cnt/\-1<=y.parent/\y.parent<cnt/\y.kids.Nodup/\∀k,k∈y.kids↔∃z,S k=some z/\z.parent=i
 up:∀i,(S i).isSome->∃n,n<=cnt/\Up (λj=>(S j).isSome) (λj=>(S j).map Dl.parent) i n
 tree:Jk S t 0
 size:t.size<=300
 bulk:t.bulk<=1048576
 owned:t.Owned
 check:t.check=0
def NP(S:Ver)(cnt:Nat):Int->Prop:=λi=>0<=i/\i<cnt/\(S i).isSome
theorem Vl {B L R S : Ver} {cnt : Nat} {t : T} (h : FL B L R S cnt t) : NP S cnt = fun j => (S j).isSome = true := funext fun i => propext ⟨fun h => h.2.2, fun hi => by
  obtain ⟨y, a⟩ := lR.1 hi
  have := h.rng i y a
  exact ⟨this.1, this.2.1, hi⟩⟩
theorem Qh {α : Type} {B L R S : Ver} {cnt : Nat} {t : T} (h : FL B L R S cnt t) (f : Dl → α) : (fun i : Int => if 0 ≤ i ∧ i < (cnt : Int) then (S i).map f else none) = fun i => (S i).map f := funext fun i => by
  cases hi : S i with
  | none => simp
  | some y =>
    have := h.rng i y hi
    rw [if_pos ⟨this.1, this.2.1⟩]
def DD(S:Ver)(k:Int):Int:=((S k).map Dl.parent).getD 0
noncomputable def Dc(S:Ver)(l:List Int)(i:Int):List Int:=l.filter λk=>decide (DD S k=i)
theorem Rd(S:Ver)(i:Int):Dc S [] i=[]:=rfl
theorem Ol(S:Ver)(l:List Int)(x i:Int):Dc S (l++[x]) i=if i=DD S x then Dc S l (DD S x)++[x]else Dc S l i:=by
 unfold Dc;rw[List.filter_append];by_cases e:i=DD S x
 .rw[if_pos e,e];simp
 .rw[if_neg e];simp[zap e]
theorem Hm{K:Int->Prop}{n:Nat}{i:Int}:i∈Cs K n↔(0<=i/\i<n)/\K i:=by unfold Cs;rw[ie];simp only[List.mem_map,List.mem_range,decide_eq_true_eq];refine and_congr_left λ_=>⟨λ⟨a,h1,h2⟩=>by omega,λh=>⟨i.toNat,by omega,by omega⟩⟩
theorem Nc(K:Int->Prop)(n:Nat):(Cs K n).Nodup:=by
 unfold Cs;refine zbl _ ?_;rw[List.pairwise_map];have:=(List.nodup_range (n:=n))
 rw[List.nodup_iff_pairwise_ne]at this;exact this.imp λh e=>h (by omega)
theorem FL.fine{B L R S:Ver}{cnt:Nat}{t:T}(h:FL B L R S cnt t):P8 B L R S (λi=>(S i).map Dl.s) (Dc S (Cs (NP S cnt) cnt)) cnt:=by
 refine⟨h.win,h.kB,h.kL,h.kR,h.gB,h.gL,h.gR,by have:=h.cle;omega,h.kind,λi y hy=>by rw[hy];rfl,λi y hy=>?_,λi y hy=>?_⟩
 .obtain⟨l,o,r,n,j,f⟩:=h.rng i y hy;have d:∀k,k∈Dc S (Cs (NP S cnt) cnt) i↔k∈y.kids:=λk=>by
   unfold Dc;rw[ie,Hm,f,decide_eq_true_eq];constructor
   .rintro⟨⟨_,_,_,g⟩,b⟩;obtain⟨z,a⟩:=lR.1 g;refine⟨z,a,?_⟩;unfold DD at b;rw[a]at b;exact b
   .rintro⟨z,a,b⟩;have c:=h.rng k z a;refine⟨⟨⟨c.1,c.2.1⟩,c.1,c.2.1,by rw[a];rfl⟩,?_⟩;unfold DD;rw[a];exact b
  refine⟨j,?_,zbl _ (Nc _ _),d,λk hk=>?_⟩
  .have m:=List.length_filter_le (λk=>decide (DD S k=i)) (Cs (NP S cnt) cnt);have q:=G0 (NP S cnt) cnt;have p:=h.cle;unfold Dc;omega
  .have:=(ie.1 hk).1;exact(Hm.1 this).1
 .have:=h.rng i y hy;have:=h.cle;exact Bg (by omega) (by omega)
theorem getD_some{l:List Int}{i:Nat}(h:i<l.length):l[i]?=some (l.getD i 0):=by rw[zc h];simp[zbn,zc h]
structure NK(rs:List An):Prop where
 par:∀(x:Nat)(r:An),rs[x]?=some r->-1<=r.parent/\r.parent<rs.length
 kid:∀(x:Nat)(r:An),rs[x]?=some r->∀k∈r.kids,0<=k/\k<rs.length
 few:∀(x:Nat)(r:An),rs[x]?=some r->r.kids.length<=300
theorem Ho(t:T)(gv kv iv:zg)(ids:List Int)(w:ze)(hl:t.Lies w gv kv)(hi:yo w iv ids)(hs:t.size<=300)(hb:t.bulk<=1048576)(hn:ids.length=t.size)(hf:∀x∈ids,yw x)(hr:NK (t.rows 0 (-1))):
  zM Tryz.prog 21 #[yJ t.k t.s gv kv,iv] w λe w'=>∃M,e=.returned (.map (some M))/\w.heap.size<=M/\yV w' M t.size (AG t ids)/\Below w.heap.size w w':=by
 obtain⟨pk,ck,rfl⟩:=hl.kids.slice
 obtain⟨pg,cg,rfl⟩:=hl.gaps.slice
 obtain⟨pi,ci,rfl⟩:=hi.slice
 obtain⟨is,cl,cq,b0,ca⟩:=info_parts Br
 have H:(t.rows 0 (-1)).length=t.size:=T.length_rows _ _ _
 obtain⟨w1,I⟩:∃w1,w1=(w.alloc (.cells #[.int .i64 t.k,.string t.s,.slice pg t.g.length cg,.slice pk t.ks.length ck] 25)).alloc (.map #[] 0):=⟨_,rfl⟩
 have aq:Below w.heap.size w w1:=by rw[I];exact(ya _).trans ((ya _).mono (by simp))
 have bd:w1.heap.size=w.heap.size+2:=by rw[I];simp
 have a7:yV w1 (w.heap.size+1) 0 (IW (t.rows 0 (-1)) ids 0):=by
  have:=yV.made (w.alloc (.cells #[.int .i64 t.k,.string t.s,.slice pg t.g.length cg,.slice pk t.ks.length ck] 25))
  rw[ye]at this
  rw[I]
  exact this
 have HR:=za (Hc t _ _ w1 (T.Lies.below aq t hl) (by omega) hb)
 have a9:=za aq
 have a0:=za bd
 have ax:=za a7
 have HI:=za hi
 have av:=za hr
 have hmk:∀W:ze,(za2 62 none).run Tryz.prog W=.ok (.map (some W.heap.size)) (W.alloc (.map #[] 0)):=λW=>run_makeMap _ W
 clear hl hi hr aq bd a7
 unfold AG
 generalize t.rows 0 (-1)=rs at*
 rw[<-H]at hn⊢
 rw[<-H]at hs
 clear H
 go_enter Tryz.func21,Tryz.ntmps21
 go_wp2_with fail
 rw[<-I]
 clear I
 refine HR.out.mono ?_
 rintro e w2 ⟨u2,rfl,aa,V⟩
 have bc:=aa.val
 obtain⟨pr,cr,rfl⟩:=bc.slice
 obtain⟨M,hM⟩:∃M,M=w.heap.size+1:=⟨_,rfl⟩
 rw[<-hM]at ax
 have b6:=V.size
 have ce:=za (ax.out.below V)
 have bi:eW (Below w.heap.size w w2):=za (a9.out.trans (V.mono a9.out.size))
 have cm:=za aa
 rw[a0.out]at b6
 have a1:w.heap.size<=M:=by omega
 have fc:M<w2.heap.size:=by omega
 have cd:eW (∀W,w2.grownBy W (some M)->C8 W (.slice pr rs.length cr) rs):=za λW h=>(aa.low h (by rw[a0.out];omega)).val
 clear aa V bc ax HR cm
 rw[<-hM]
 clear hM
 go_wp2
 go_loopw [15] (λiv W=>∃j:Nat,j<=rs.length/\iv=.int .i64 j/\yV W M j (IW rs ids j)/\w2.grownBy W (some M)) (λiv _=>rs.length-(intOf iv).toNat)
 case atStart=>exact⟨0,by omega,rfl,ce.out,⟨rfl,rfl,rfl,zn _,λ_ _ _=>rfl⟩⟩
 case round=>
  obtain⟨j,hj,rfl,ah,F⟩:=hrel
  have af:=za ah
  have cb:=za F
  have c7:=F.size
  have am:Below w.heap.size w wr:=yd bi.out F (λk e=>by cases e;exact a1) bi.out.size
  have ct:=za am
  have a3:=cd.out wr F
  have aw:=HI.out.below am
  clear ah F am
  by_cases cf:j<rs.length
  .obtain⟨⟨R,rk,U,O,a⟩,z⟩:∃r,rs[j]?=some r:=⟨rs[j],zc cf⟩
   obtain⟨b,df,rfl,dg,gv,kv,c0,c1,c2,c3,c4,Y,ac⟩:=a3.at z
   have bg:=av.out.par j _ z
   have E:=av.out.kid j _ z
   have a6:=av.out.few j _ z
   simp only at c0 c1 c2 c3 c4 Y ac bg E a6
   obtain⟨i,l,rfl⟩:=Y.slice
   obtain⟨bf,a5,rfl⟩:=ac.slice
   obtain⟨Z,oI,rfl,a4,cj⟩:=aw.at (getD_some (show j<ids.length by omega))
   have ak:∀q,q<ids.length->wr.cell? ⟨Z,oI+q,none⟩=some (.int .i64 (ids.getD q 0)):=λq hq=>by
    obtain⟨b',o',e,_,c⟩:=aw.at (getD_some hq)
    cases e
    exact c
   have bz:yw (ids.getD j 0):=hf _ (zq (getD_some (show j<ids.length by omega)))
   generalize bj:ids.getD j 0=idj at*
   have G:=za ak
   have b2:=za ac
   have b4:=za Y
   have b8:=za z
   have ba:=za E
   clear a3 aw ak ac Y z E
   obtain⟨P,hP⟩:∃P,P=(if 0<=R then ids.getD R.toNat 0 else-1):=⟨_,rfl⟩
   obtain⟨X,hX⟩:∃X,X=wr.heap.size+1:=⟨_,rfl⟩
   obtain⟨S,B⟩:∃S,S=(wr.alloc (.cells #[.int .i64 R,.int .i64 rk,.string U,.slice i O.length l,.slice bf a.length a5] 85)).alloc (.cells #[.int .i64 rk,.string U,.slice i O.length l,.int .i64 P,.slice none 0 0] 94):=⟨_,rfl⟩
   have bh:S.heap[X]?=some (.cells #[.int .i64 rk,.string U,.slice i O.length l,.int .i64 P,.slice none 0 0] 94 (0,0)):=by
    have h:=zx (wr.alloc (.cells #[.int .i64 R,.int .i64 rk,.string U,.slice i O.length l,.slice bf a.length a5] 85)) (.cells #[.int .i64 rk,.string U,.slice i O.length l,.int .i64 P,.slice none 0 0] 94)
    rwa [ye,<-hX,<-B]at h
   have a8:Below wr.heap.size wr S:=by rw[B];exact(ya _).trans ((ya _).mono (by simp))
   have be:S.heap.size=X+1:=by rw[B,hX];simp
   have bv:=za bh
   have bn:=za a8
   have b1:=za be
   have ch:wr.heap.size<=X:=by omega
   have cz:Z≠X:=by omega
   clear bh a8 be
   have HT:eW (∀W,S.grownBy W (some X)->Below wr.heap.size wr W):=za λW h=>yd bn.out h (λk e=>by cases e;exact ch) bn.out.size
   have HQ:eW (∀q,q<a.length->∃c:Nat,a[q]?=some (c:Int)/\c<ids.length):=za λq hq=>by
    have h:=ba.out a[q] (List.getElem_mem hq)
    obtain⟨c,hc⟩:=zb9 h.1
    exact⟨c,by rw[zc hq,hc],by omega⟩
   have au:eW (0<=R->∃p:Nat,R=p/\p<ids.length/\P=ids.getD p 0):=za λh=>by
    obtain⟨p,rfl⟩:=zb9 h
    exact⟨p,rfl,by omega,by rw[hP,if_pos h];rfl⟩
   have an:eW (¬0<=R->P=-1):=za λh=>by rw[hP,if_neg h]
   obtain⟨it,ae⟩:∃it,it=Bl ids ⟨R,rk,U,O,a⟩:=⟨_,rfl⟩
   have HE:eW (∀N Q,Dh it i l N Q=.agg #[.int .i64 rk,.string U,.slice i O.length l,.int .i64 P,.slice N a.length Q]):=za (λN Q=>by
    rw[ae,hP]
    simp only[Dh,Bl,l8])
   have HU:eW (IW rs ids (j+1)=Ww (IW rs ids j) idj it):=za (by
    rw[IW,bj,ae]
    simp[zbn,b8.out])
   have ag:eW (it.g=O/\it.kids=a.map λk=>ids.getD k.toNat 0):=za (by rw[ae];exact⟨rfl,rfl⟩)
   clear hP ae
   obtain⟨W0,h0⟩:∃W0:ze,W0=wr:=⟨_,rfl⟩
   subst h0
   by_cases hp:0<=R
   case' pos=>
    obtain⟨p,rfl,d6,bb⟩:=au.out hp
    have cp:=G.out p (by omega)
    rw[<-bb]at cp
    clear au an bb
    go_wp2
   case' neg=>
    have dp:decide (R>=0)=false:=by simpa using hp
    rw[an.out hp]at B
    clear au an
    go_wp2
   all_goals
    rw[<-B,<-hX]
    clear B hX
    go_loopw [39] (λiv W=>∃(q:Nat)(u:zg),q<=a.length/\iv=.int .i64 q/\W.heap[X]?=some (.cells #[.int .i64 rk,.string U,.slice i O.length l,.int .i64 P,u] 94 (0,0))/\yj W S.heap.size u ((a.take q).map λk=>ids.getD k.toNat 0)/\S.grownBy W (some X)) (λiv _=>a.length-(intOf iv).toNat)
    case atStart=>exact⟨0,.slice none 0 0,by omega,rfl,bv.out,ed _ _ _ _,⟨rfl,rfl,rfl,zn _,λ_ _ _=>rfl⟩⟩
    case round=>
     obtain⟨q,u,hq,rfl,J,o,n⟩:=hrel
     obtain⟨N,Q,rfl⟩:=yq o
     have v:=HT.out _ n
     have ao:=n.size
     have c9:=b1.out
     by_cases bw:q<a.length
     .obtain⟨c,hc,d1⟩:=HQ.out q bw
      have c8:c<rs.length:=by omega
      obtain⟨bk,ok,rfl,dk,d8⟩:=(b2.out.below v).at hc
      have dl:=(v.cell (p:=⟨Z,_,none⟩) a4).trans (G.out c (by omega))
      have HL:eW ((a.take (q+1)).map (λk=>ids.getD k.toNat 0)=(a.take q).map (λk=>ids.getD k.toNat 0)++[ids.getD c 0]):=za (by rw[z6,hc];simp)
      have m:((a.take q).map λk=>ids.getD k.toNat 0).length=q:=by simp;omega
      generalize ids.getD c 0=idc at*
      generalize((a.take q).map λk=>ids.getD k.toNat 0)=L at*
      obtain⟨x0,x1,x2,x3,x4⟩:=yX J
      have cc:=za J
      have y:=za o
      have az:=za n
      clear J o n
      go_wp2
      refine Cut.wp_region_cut_reads 8 6 (λw'=>w'.cell? ⟨Z,oI+c,none⟩=some (.int .i64 idc)/\w'.cell? ⟨X,4,none⟩=some (.slice N q Q)) (by kernel_rfl) (by kernel_rfl) (λ_ _ _ _ _ h=>h) (by go_keep) (λhHeld=>?_)
      simp only[List.take_succ_cons,List.take_zero,List.drop_succ_cons,List.drop_zero]
      iterate 6
       refine⟨?_,.inl ⟨by rfl,?_⟩,?_⟩
       rotate_left
       .intro w b5;(try dsimp only at b5);go_simp;(try with_reducible rfl)
       try simp only[z8,zf,zi,zj]
      refine zG (rs:=[6]) (by kernel_rfl) (by simp) ?_
      refine zv rfl (λK hK=>?_) zC
      go_simp
      refine hK.out _ _ (by go_keep) (λhHeld2=>?_)
      clear hK K hHeld
      refine zG (rs:=[7]) (by kernel_rfl) (by simp) ?_
      refine zv rfl (λK hK=>?_) zC
      refine step_append_lies _ (by rfl) _ _ _ (by rfl) S.heap.size 3 is _ 1 8 Tryz.underlying55 cl cq b0 ca rfl (by omega) (.slice N q Q) q (L.map (Value.int .i64)) (by rfl) (by rw[<-m];exact zc1 (zy y.out _))
         ⟨wr.heap.size,0,none⟩ 1 1 [.int .i64 idc] (by rfl) (by rfl) (lw (cs:=#[.int .i64 idc]) (t:=3) (fr:=(0,0)) (zx wr _)) (by simp[ej])
         (by omega) (by simp[maxLen];omega) (by omega) (zI ao (ya (w:=wr) _).size) _ rfl ?_
      intro gg b7 w7 ap f dz c6
      have ar:(wr.alloc (.cells #[.int .i64 idc] 3)).drew.heap[X]?=some (.cells #[.int .i64 rk,.string U,.slice i O.length l,.int .i64 P,.slice N q Q] 94 (0,0)):=by
       rw[<-m]
       exact((ya (w:=wr) (.cells #[.int .i64 idc] 3)).block X (by omega)).trans cc.out
      have ad:=(f.block X (yz ar) (λe=>by have:=yf y.out X (by rw[m];exact e.symm);omega)).trans ar
      obtain⟨y0,y1,y2,y3,y4⟩:=yX ad
      have f4:=zk w7 X 4 _ _ ad
      have cv:w7.cell? ⟨Z,oI+c,none⟩=some (.int .i64 idc):=(f.cell_far ⟨Z,oI+c,none⟩ (by show Z<(wr.alloc _).heap.size;simp;omega) (λe=>by have:=yf y.out Z (by rw[m];exact e.symm);omega)).trans hHeld2.1
      refine hK.out _ _ ⟨cv,y4⟩ (λ_=>?_)
      clear hK K hHeld2
      refine wpAnyH_done (by kernel_rfl) ?_ _
      dsimp only[Exit.then]
      try simp only[z8,zf,zi,zj]
      have co:=za ad
      clear ad ar
      go_wp2
      go_roundw
      case rel=>
       obtain⟨h1,h2⟩:=Dn (W:=w7.setCell ⟨X,4,none⟩ (.slice (some ⟨gg,0,none⟩) (q+1) b7)) az.out y.out ap (by rw[m]) (A:=.cells #[.int .i64 idc] 3) ⟨f.os,f.tape,f.output,f.size,by rw[m];exact f.block⟩ (by omega) (yn _ _ _ _)
       exact⟨q+1,_,by omega,by go_num,zA w7 _ 4 _ _ _ co.out,by rw[HL.out];exact h1,h2⟩
      case measure=>simp[intOf];omega
     .obtain rfl:q=a.length:=by omega
      have cj:=(v.cell (p:=⟨Z,_,none⟩) a4).trans (G.out j (by omega))
      rw[bj]at cj
      obtain⟨x0,x1,x2,x3,x4⟩:=yX J
      have m:((a.take a.length).map λk=>ids.getD k.toNat 0).length=a.length:=by simp
      have aj:yo wr (.slice N a.length Q) (a.map λk=>ids.getD k.toNat 0):=by
       have:=o.ints
       rw[m]at this
       rwa [zY]at this
      rw[m]at x4
      have C:=(af.out.below v).below (zt _ _).drew
      have bl:GC wr.drew (Dh it i l N Q) it:=by
       refine⟨i,l,N,Q,rfl,?_,?_⟩
       .rw[ag.out.1]
        exact(b4.out.below v).below (zt _ _).drew
       .rw[ag.out.2,l8]
        exact aj.below (zt _ _).drew
      have al:=za C
      have bm:=za bl
      have bu:=za v
      rw[HE.out]at bm
      clear C bl aj o J n m v
      go_wp2
      go_still_tail 6,(by kernel_rfl)
      go_wp2_with (at_mapUpdate;refine Im rfl _ _ _ rfl M j _ rfl al.out (by simp[maxLen];omega) idj rfl bz _ bm.out ?_;intro w9 b3 cn)
      go_roundw
      case rel=>
       have D:=ik cn
       refine⟨j+1,by omega,by go_num,by rw[HU.out];exact b3,yc (yc cb.out (yM bu.out)) ⟨D.os,D.tape,D.output,D.size,D.block⟩⟩
      case measure=>simp[intOf];omega
  .obtain rfl:j=rs.length:=by omega
   go_wp2
   go_ret
   exact⟨M,rfl,a1,af.out,ct.out⟩
end Go.Proofs
