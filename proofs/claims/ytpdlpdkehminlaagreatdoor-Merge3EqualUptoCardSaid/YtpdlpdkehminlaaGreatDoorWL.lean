/-
  Part of the proof: merge3.copiedTree: the walk.
-/
import Derived.Test.YtpdlpdkehminlaaGreatDoorWJ
import Derived.WideKeyEntry
set_option linter.all false
set_option maxRecDepth 100000
set_option maxHeartbeats 20000000
open Array renaming ext'->iq,getElem?_eq_some_iff->eh,toList_modify->lX,toList_push->zaZ
open Go renaming Calls->zM,MapEntry->iM,Value->zg,World->ze,frozen_of_row->zk,heap_alloc_new->zx,heap_setCell_same->zA,run_underlying->eT,undef->zl,wpAnyH_ready->zG
open Go.Act renaming put->z8
open Go.AllReadyH renaming cons->zv,nil->zC
open Go.ChangeMaps renaming heap_setBlock_same->zaS,heap_setBlock_same->zdL,modify_eq_set->zcF
open Go.Exit renaming «then»->ef
open Go.Instr renaming entryStore->oD,mapEntry->oy,mapUpdate->o7
open Go.Lib renaming hid->za
open Go.MapKept renaming run_getObj_map->lj,run_setObj_map->lk
open Go.Result renaming andThen->oq
open Go.RowKit renaming Hid->eW
open Go.RowKit.Below renaming refl->zt
open Go.Value renaming int->zX,map->zc8,oneCell'->ej,ownBlock->eP,pointer->iT,slice->eU,string->im
open Go.World renaming cell?->zS,grownBy_alloc->eQ,ownsRow_nil->ed
open Go.World.grownBy renaming cell_far->oE
open Go.World.ownsRow renaming alloc->zy,kept->zF,lt->zE
open List renaming map_append->ip,mem_of_getElem?->zq,range->ev,setIfInBounds_toArray->zf,set_cons_succ->zj,set_cons_zero->zi
open Nat renaming le_refl->zn,le_trans->zI
open Ne renaming symm->zap
open Option renaming isSome_iff_exists->lR,isSome_iff_ne_none->zbA
namespace Go.Proofs
open Go.RowKit Go.Maps Go.MapKept
open Classical
theorem BZ:(Tryz.prog.info? 25).map (·.size)=some 4:=by kernel_rfl
@[reducible]def WO (k:Int) (s:ByteArray) (pg:Option Addr) (gl cg:Nat) (pk:Option Addr) (kl ck n0 X:Nat) (pu:Option Addr) (cu:Nat):Act:={tmps:=#[yJ k s (.slice pg gl cg) (.slice pk kl ck),.pointer (some ⟨n0,0,none⟩),.pointer (some ⟨n0+1,0,none⟩),.pointer (some ⟨X,0,none⟩),zl,zl,.pointer (some ⟨n0,0,none⟩),.int .i64 k,.pointer (some ⟨n0,1,none⟩),.string s,.pointer (some ⟨n0,2,none⟩),.slice pg gl cg,.slice pu gl cu,.agg #[.int .i64 k,.string s,.slice pu gl cu,.slice none 0 0],zl,zl,zl,zl,zl,zl,zl,zl,zl,zl,zl,zl,zl,zl,zl,zl],defers:=[]}
structure VZ(w1 W:ze)(A:Nat)(k:Int)(s:ByteArray)(g:List ByteArray)(X:Nat)(pu:Option Addr)(cu:Nat):Prop where
 box:W.heap[X]?=some (.cells #[.int .i64 k,.string s,.slice pu g.length cu,.slice none 0 0] 25 (0,0))
 lo:A<=X
 row:Cd W A (.slice pu g.length cu) g
 bel:Below A w1 W
 ne:(eU pu g.length cu).ownBlock≠some X
theorem Cd.on{w W:ze}{base:Nat}{v:zg}{l:List ByteArray}(h:Cd w base v l)(hk:∀k,base<=k->k<w.heap.size->W.heap[k]?=w.heap[k]?)(hz:base<=W.heap.size):Cd W base v l:=by
 refine⟨h.1,?_⟩;rcases h.2 with h0|⟨g,d,c,i,f,a,b⟩
 .exact .inl h0
 .exact .inr ⟨g,d,c,i,f,(hk g f (eh.1 a).1).trans a,b⟩
theorem My:∀(t:T)(gv kv:zg)(w:ze),t.Lies w gv kv->t.size<=300->t.thin->
    zM Tryz.prog 27 #[yJ t.k t.s gv kv] w λe w'=>∃gv' kv',e= .returned (yJ t.k t.s gv' kv')/\BL w' w.heap.size w'.heap.size t gv' kv'/\Below w.heap.size w w':=by
  refine T.ind λk s g ks ih gv kv w hl hs hb=>?_
  obtain ⟨hg,n⟩:=T.lies_iff.1 hl
  obtain ⟨pk,ck,rfl⟩:=n.slice
  obtain ⟨L,H,rfl⟩:=hg.slice
  simp only [T.k,T.s]
  rw [T.size]at hs
  obtain ⟨d6,a8⟩:=T.thin_iff.1 hb
  have dx:=T.length_sizes ks
  obtain ⟨f,M⟩:∃f,f=(w.alloc (.cells #[.int .i64 k, .string s, .slice L g.length H, .slice pk ks.length ck] 25)).alloc (.cells #[.int .i64 0, .string ⟨#[]⟩, .slice none 0 0, .slice none 0 0] 25):=⟨_,rfl⟩
  have bf:Below w.heap.size w f:=by rw [M];exact (ya _).trans ((ya _).mono (by simp))
  have b1:f.heap.size=w.heap.size+2:=by rw [M];simp
  have a9:f.heap[w.heap.size]?=some (.cells #[.int .i64 k, .string s, .slice L g.length H, .slice pk ks.length ck] 25 (0,0)):=by rw [M];exact ((ya (w:=w.alloc _) _).block w.heap.size (by simp)).trans (zx _ _)
  have br:f.heap[w.heap.size+1]?=some (.cells #[.int .i64 0, .string ⟨#[]⟩, .slice none 0 0, .slice none 0 0] 25 (0,0)):=by
    have h:=zx (w.alloc (.cells #[.int .i64 k, .string s, .slice L g.length H, .slice pk ks.length ck] 25)) (.cells #[.int .i64 0, .string ⟨#[]⟩, .slice none 0 0, .slice none 0 0] 25)
    rw [ye]at h
    rw [M]
    exact h
  have ch:eW (∀W,Below f.heap.size f W->zM Tryz.prog 52 #[.slice L g.length H] W λe w'=>∃u,e= .returned u/\Cd w' f.heap.size u g/\Below f.heap.size f w'/\Below W.heap.size W w'):=za λW hW=>(Di (.slice L g.length H) g W ((hg.below bf).below hW) (by omega)).mono λe w' ⟨u,h1,h2,h3⟩=>⟨u,h1,Au h2 hW.size,hW.trans (h3.mono hW.size),h3⟩
  have ct:=za a9
  have cy:=za br
  have G:=za bf
  have db:=za n
  have cv:=za ih
  obtain ⟨A,hA⟩:∃A,A=f.heap.size:=⟨_,rfl⟩
  have lA:w.heap.size<A:=by omega
  have N:eW (∀W,Below A f W->W.cell? ⟨w.heap.size,0,none⟩=some (.int .i64 k)/\W.cell? ⟨w.heap.size,1,none⟩=some (.string s)/\W.cell? ⟨w.heap.size,2,none⟩=some (.slice L g.length H)):=za λW hW=>by
    obtain ⟨a,b,c,_⟩:=yi ((hW.block _ lA).trans a9)
    exact ⟨a,b,c⟩
  clear hl n hg a9 br bf ih
  go_enter Tryz.func27,Tryz.ntmps27
  go_wp2
  rw [<-M]
  have bk:=za b1
  clear M b1
  have bo:Below A f f.drew:=(zt _ _).drew
  have ap:=N.out _ bo
  have aw:Below A f (f.alloc (.cells #[.int .i64 0, .string ⟨#[]⟩, .slice none 0 0, .slice none 0 0] 25)).drew:=((ya _).mono (by omega)).drew
  have cp:(f.alloc (.cells #[.int .i64 0, .string ⟨#[]⟩, .slice none 0 0, .slice none 0 0] 25)).drew.cell? ⟨w.heap.size,0,none⟩=some (.int .i64 k)/\(f.alloc (.cells #[.int .i64 0, .string ⟨#[]⟩, .slice none 0 0, .slice none 0 0] 25)).drew.cell? ⟨w.heap.size,1,none⟩=some (.string s)/\(f.alloc (.cells #[.int .i64 0, .string ⟨#[]⟩, .slice none 0 0, .slice none 0 0] 25)).drew.cell? ⟨w.heap.size,2,none⟩=some (.slice L g.length H):=N.out _ aw
  refine Cut.wp_via (λa' W=>∃X pu cu,a'=WO k s L g.length H pk ks.length ck w.heap.size X pu cu/\VZ f W A k s g X pu cu) ?_ ?_
  case refine_1=>
   go_region_held3 (λw'=>w'.cell? ⟨w.heap.size,0,none⟩=some (.int .i64 k)/\w'.cell? ⟨w.heap.size,1,none⟩=some (.string s)/\w'.cell? ⟨w.heap.size,2,none⟩=some (.slice L g.length H)) (assumption)
     ((go_at_call 52
       refine (ch.out _ (by rw [<-hA];assumption)).mono ?_
       rintro e q ⟨u2,rfl,I,r,bt⟩
       obtain ⟨m,i,rfl⟩:=yq I
       rw [<-hA]at r I
       have d9:q.cell? ⟨w.heap.size,0,none⟩=some (.int .i64 k)/\q.cell? ⟨w.heap.size,1,none⟩=some (.string s)/\q.cell? ⟨w.heap.size,2,none⟩=some (.slice L g.length H):=N.out _ r
       have d4:(q.alloc (.cells #[.int .i64 0, .string ⟨#[]⟩, .slice none 0 0, .slice none 0 0] 25)).cell? ⟨w.heap.size,0,none⟩=some (.int .i64 k)/\(q.alloc (.cells #[.int .i64 0, .string ⟨#[]⟩, .slice none 0 0, .slice none 0 0] 25)).cell? ⟨w.heap.size,1,none⟩=some (.string s)/\(q.alloc (.cells #[.int .i64 0, .string ⟨#[]⟩, .slice none 0 0, .slice none 0 0] 25)).cell? ⟨w.heap.size,2,none⟩=some (.slice L g.length H):=N.out _ (r.trans ((ya _).mono (by rw [hA];exact r.size)))
       have fh:(q.alloc (.cells #[.int .i64 k, .string s, .slice m g.length i, .slice none 0 0] 25)).cell? ⟨w.heap.size,0,none⟩=some (.int .i64 k)/\(q.alloc (.cells #[.int .i64 k, .string s, .slice m g.length i, .slice none 0 0] 25)).cell? ⟨w.heap.size,1,none⟩=some (.string s)/\(q.alloc (.cells #[.int .i64 k, .string s, .slice m g.length i, .slice none 0 0] 25)).cell? ⟨w.heap.size,2,none⟩=some (.slice L g.length H):=N.out _ (r.trans ((ya _).mono (by rw [hA];exact r.size)))
       have J:Below A f ((((q.setCell ⟨f.heap.size,0,none⟩ (.int .i64 k)).setCell ⟨f.heap.size,1,none⟩ (.string s)).setCell ⟨f.heap.size,2,none⟩ (.slice m g.length i)).setCell ⟨f.heap.size,3,none⟩ (.slice none 0 0)):=r.trans (yd (B:=A) (zt A q) (yc (yc (yc (yn _ _ _ _) (yn _ _ _ _)) (yn _ _ _ _)) (yn _ _ _ _)) (λk e=>by cases e;omega) (by rw [hA];exact r.size))
       have a5:((((q.setCell ⟨f.heap.size,0,none⟩ (.int .i64 k)).setCell ⟨f.heap.size,1,none⟩ (.string s)).setCell ⟨f.heap.size,2,none⟩ (.slice m g.length i)).setCell ⟨f.heap.size,3,none⟩ (.slice none 0 0)).cell? ⟨w.heap.size,0,none⟩=some (.int .i64 k)/\((((q.setCell ⟨f.heap.size,0,none⟩ (.int .i64 k)).setCell ⟨f.heap.size,1,none⟩ (.string s)).setCell ⟨f.heap.size,2,none⟩ (.slice m g.length i)).setCell ⟨f.heap.size,3,none⟩ (.slice none 0 0)).cell? ⟨w.heap.size,1,none⟩=some (.string s)/\((((q.setCell ⟨f.heap.size,0,none⟩ (.int .i64 k)).setCell ⟨f.heap.size,1,none⟩ (.string s)).setCell ⟨f.heap.size,2,none⟩ (.slice m g.length i)).setCell ⟨f.heap.size,3,none⟩ (.slice none 0 0)).cell? ⟨w.heap.size,2,none⟩=some (.slice L g.length H):=N.out _ J
       try (have C:q.heap[f.heap.size]?=some (.cells #[.int .i64 0, .string ⟨#[]⟩, .slice none 0 0, .slice none 0 0] 25 (0,0)):=(bt.block f.heap.size (by show f.heap.size<(f.alloc _).heap.size;simp)).trans (zx f _)
            obtain ⟨z0,z1,z2,z3⟩:=yi C
            have fi:=zk q f.heap.size 0 _ _ C
            have d5:=zk q f.heap.size 1 _ _ C
            have dw:=zk q f.heap.size 2 _ _ C
            have fd:=zk q f.heap.size 3 _ _ C)))
   . refine ⟨rfl,q.heap.size,m,i,rfl,zx _ _,by rw [hA];exact r.size,zy I _,r.trans ((ya _).mono (by rw [hA];exact r.size)),λe=>?_⟩
     have:=(zE I _ e).2
     omega
   . have C:q.heap[f.heap.size]?=some (.cells #[.int .i64 0, .string ⟨#[]⟩, .slice none 0 0, .slice none 0 0] 25 (0,0)):=(bt.block f.heap.size (by show f.heap.size<(f.alloc _).heap.size;simp)).trans (zx f _)
     have ag:(eU m g.length i).ownBlock≠some f.heap.size:=λe=>by
       rcases I.2 with ⟨h,_⟩|⟨g',U,fa,h,_,c6,_⟩
       . rw [h]at e
         cases e
       . rw [h]at e
         cases e
         have h3:=C.symm.trans c6
         cases h3
     have cq:q.grownBy ((((q.setCell ⟨f.heap.size,0,none⟩ (.int .i64 k)).setCell ⟨f.heap.size,1,none⟩ (.string s)).setCell ⟨f.heap.size,2,none⟩ (.slice m g.length i)).setCell ⟨f.heap.size,3,none⟩ (.slice none 0 0)) (some f.heap.size):=yc (yc (yc (yn _ _ _ _) (yn _ _ _ _)) (yn _ _ _ _)) (yn _ _ _ _)
     exact ⟨rfl,f.heap.size,m,i,rfl,AO _ _ _ _ _ _ _ _ _ _ _ C,by omega,zF I cq (.inr ag),J,ag⟩
  rintro a' W ⟨X,pu,cu,rfl,E⟩
  dsimp only [ef,WO]
  clear bo ap aw cp
  obtain ⟨c9,dg,c0,cx,c5⟩:=info_parts Mn
  have bq:=G.out.trans (E.bel.mono (by rw [hA];have:=G.out.size;omega))
  have cw:A<=W.heap.size:=by have:=E.bel.size;omega
  have de:=(yi ((E.bel.block w.heap.size lA).trans ct.out)).2.2.2
  have ar:=za E
  have dp:=za bq
  have dy:=yz E.box
  have c8:=E.lo
  clear E bq
  go_wp2
  clear de
  go_loopw [17] (λiv V=>∃(j:Nat)(u:zg)(xs:List (List zg)),j<=ks.length/\iv= .int .i64 j/\V.heap[X]?=some (.cells #[.int .i64 k, .string s, .slice pu g.length cu,u] 25 (0,0))/\V.ownsRow W.heap.size 25 4 u j xs.flatten/\
      AF V W.heap.size (λb=>b=X\/u.ownBlock=some b) (ks.take j) xs/\W.grownBy V (some X)) (λiv _=>ks.length -(intOf iv).toNat)
  case atStart=>exact ⟨0, .slice none 0 0,[],by omega,rfl,ar.out.box,ed _ _ _ _,by simpa using AF.nil _ _ _,⟨rfl,rfl,rfl,zn _,λ_ _ _=>rfl⟩⟩
  case round=>
    obtain ⟨j,u,xs,hj,rfl,hX,ad,cb,ao⟩:=hrel
    obtain ⟨m,i,rfl⟩:=yq ad
    have dj:=ao.size
    have a4:Below A f wr:=yd ar.out.bel ao (λk e=>by cases e;exact c8) cw
    have b9:Below w.heap.size w wr:=G.out.trans (a4.mono (by have:=G.out.size;omega))
    have dd:=yz hX
    have b0:=za hX
    have y:=za ad
    have be:=za cb
    have bw:=za ao
    have bh:=za a4
    have bd:=db.out.below b9
    clear hX ad cb ao a4 b9
    by_cases c7:j<ks.length
    . obtain ⟨t,ht⟩:∃t,ks[j]?=some t:=⟨ks[j],List.getElem?_eq_getElem c7⟩
      have b8:=T.sizes_take ht
      have b4:T.sizes (ks.take (j+1))<=T.sizes ks:=by
        have:=T.sizes_append (ks.take (j+1)) (ks.drop (j+1))
        rw [List.take_append_drop]at this
        omega
      obtain ⟨b,dq,rfl,d0,gv',kv',f0,f1,f2,f3,an⟩:=bd.at ht
      obtain ⟨Y,Z,rfl⟩:=an.gaps.slice
      obtain ⟨aa,R,rfl⟩:=an.kids.slice
      obtain ⟨z,ae⟩:∃z,z=wr.alloc (.cells #[.int .i64 t.k, .string t.s, .slice Y t.g.length Z, .slice aa t.ks.length R] 25):=⟨_,rfl⟩
      have al:Below wr.heap.size wr z:=by rw [ae];exact ya _
      have dr:z.heap.size=wr.heap.size+1:=by rw [ae];simp
      have bx:z.heap[wr.heap.size]?=some (.cells #[.int .i64 t.k, .string t.s, .slice Y t.g.length Z, .slice aa t.ks.length R] 25 (0,0)):=by rw [ae];exact zx _ _
      have ba:=(al.block X dd).trans b0.out
      obtain ⟨a0,a1,a2,a3⟩:=yi bx
      obtain ⟨_,_,_,x3⟩:=yi ba
      have b6:Below wr.heap.size wr z.drew:=al.drew
      have HI:=za (cv.out t (zq ht) _ _ z.drew (T.Lies.below b6 t an) (by omega) (a8 t (zq ht)))
      have a6:eW (∀V,Below z.heap.size z V->V.cell? ⟨X,3,none⟩=some (.slice m j i)/\V.cell? ⟨wr.heap.size,0,none⟩=some (.int .i64 t.k)/\V.cell? ⟨wr.heap.size,1,none⟩=some (.string t.s)/\V.cell? ⟨wr.heap.size,2,none⟩=some (.slice Y t.g.length Z)/\V.cell? ⟨wr.heap.size,3,none⟩=some (.slice aa t.ks.length R)):=za λV hV=>
        ⟨(hV.cell (p:=⟨X,3,none⟩) (by show X<_;omega)).trans x3,(hV.cell (p:=⟨wr.heap.size,0,none⟩) (by show wr.heap.size<_;omega)).trans a0,(hV.cell (p:=⟨wr.heap.size,1,none⟩) (by show wr.heap.size<_;omega)).trans a1,(hV.cell (p:=⟨wr.heap.size,2,none⟩) (by show wr.heap.size<_;omega)).trans a2,(hV.cell (p:=⟨wr.heap.size,3,none⟩) (by show wr.heap.size<_;omega)).trans a3⟩
      have ap:=a6.out z.drew (zt _ _).drew
      have v:=za al
      have da:=za ba
      have dz:=za b8
      have HT:=za ht
      clear bd an bx ba b6 b8 b4 ht al
      go_wp2
      rw [<-ae]
      clear ae
      refine Cut.wp_region_cut_reads 6 3 (λV=>V.cell? ⟨X,3,none⟩=some (.slice m j i)/\V.cell? ⟨wr.heap.size,0,none⟩=some (.int .i64 t.k)/\V.cell? ⟨wr.heap.size,1,none⟩=some (.string t.s)/\V.cell? ⟨wr.heap.size,2,none⟩=some (.slice Y t.g.length Z)/\V.cell? ⟨wr.heap.size,3,none⟩=some (.slice aa t.ks.length R)) (by kernel_rfl) (by kernel_rfl) (λ_ _ _ _ _ h=>h) ap (λhHeld=>?_)
      simp only [List.take_succ_cons,List.take_zero,List.drop_succ_cons,List.drop_zero]
      iterate 3
        refine ⟨?_, .inl ⟨by rfl,?_⟩,?_⟩
        rotate_left
        . intro V cr;(try dsimp only at cr);go_simp;(try with_reducible rfl)
        try simp only [z8,zf,zi,zj]
      refine zG (rs:=[3]) (by kernel_rfl) (by simp) ?_
      refine zv rfl (λK hK=>?_) zC
      go_simp
      refine HI.out.mono ?_
      rintro e w5 ⟨dt,d8,rfl,bv,a7⟩
      have c2:=a7.size
      have J:Below z.heap.size z w5:=((zt _ _).drew).trans a7
      have bb:=bv.lies (zn _)
      obtain ⟨O,ac,rfl⟩:=bb.gaps.slice
      obtain ⟨P,S,rfl⟩:=bb.kids.slice
      have a5:=a6.out w5 J
      refine hK.out _ _ a5 (λ_=>?_)
      clear hK K hHeld bb a7 ap
      try simp only [z8,zf,zi,zj]
      refine zG (rs:=[4]) (by kernel_rfl) (by simp) ?_
      refine zv rfl (λK hK=>?_) zC
      go_simp
      obtain ⟨w6,af⟩:∃w6,w6=w5.alloc (.cells #[.int .i64 t.k, .string t.s, .slice O t.g.length ac, .slice P t.ks.length S] 25):=⟨_,rfl⟩
      have bg:Below w5.heap.size w5 w6:=by rw [af];exact ya _
      have du:w6.heap.size=w5.heap.size+1:=by rw [af];simp
      have cz:w6.heap[w5.heap.size]?=some (.cells #[.int .i64 t.k, .string t.s, .slice O t.g.length ac, .slice P t.ks.length S] 25 (0,0)):=by rw [af];exact zx _ _
      rw [<-af]
      clear af
      have bu:z.heap.size<=w5.heap.size:=c2
      have D:Below z.heap.size z w6:=J.trans (bg.mono bu)
      refine hK.out _ _ (a6.out w6 D) (λ_=>?_)
      clear hK K
      try simp only [z8,zf,zi,zj]
      have Q:w6.ownsRow W.heap.size 25 4 (.slice m j i) j xs.flatten:=yy (yy (yy y.out v.out) J) bg
      refine zG (rs:=[5]) (by kernel_rfl) (by simp) ?_
      refine zv rfl (λK hK=>?_) zC
      refine step_append_lies _ (by rfl) _ _ _ (by rfl) W.heap.size 25 c9 _ 4 72 Tryz.underlying23 dg c0 cx c5 rfl (by omega) (.slice m j i) j xs.flatten (by rfl) Q
            ⟨w5.heap.size,0,none⟩ 1 1 [.int .i64 t.k, .string t.s, .slice O t.g.length ac, .slice P t.ks.length S] (by rfl) (by rfl) (World.news_of_block (cs:=#[.int .i64 t.k, .string t.s, .slice O t.g.length ac, .slice P t.ks.length S]) (t:=25) (fr:=(0,0)) cz) (by simp [ej])
            (by omega) (by simp [maxLen];omega) (by omega) (by omega) _ rfl ?_
      intro gg U F ab x c4 dk
      have bs:=(D.block X (by omega)).trans da.out
      have au:=(x.block X (by omega) (λe=>by have:=yf Q X e.symm;omega)).trans bs
      obtain ⟨_,_,_,y3⟩:=yi au
      have fc:=zk F X 3 _ _ au
      have b2:∀k,k<z.heap.size->(eU m j i).ownBlock≠some k->F.heap[k]?=z.heap[k]?:=λk n ag=>(x.block k (by omega) (λe=>ag e.symm)).trans (D.block k n)
      have b3:(eU m j i).ownBlock≠some wr.heap.size:=λe=>by have:=(zE y.out _ e).2;omega
      have bz:=(b2 wr.heap.size (by omega) b3)
      have b5:F.cell? ⟨X,3,none⟩=some (.slice m j i)/\F.cell? ⟨wr.heap.size,0,none⟩=some (.int .i64 t.k)/\F.cell? ⟨wr.heap.size,1,none⟩=some (.string t.s)/\F.cell? ⟨wr.heap.size,2,none⟩=some (.slice Y t.g.length Z)/\F.cell? ⟨wr.heap.size,3,none⟩=some (.slice aa t.ks.length R):=by
        refine ⟨y3,?_,?_,?_,?_⟩
        all_goals
          simp only [zS,bz]
          simp only [zS]at a0 a1 a2 a3
          assumption
      refine hK.out _ _ b5 (λ_=>?_)
      clear hK K b5
      refine wpAnyH_done (by kernel_rfl) ?_ _
      dsimp only [ef]
      try simp only [z8,zf,zi,zj]
      have dc:=za au
      clear au bs bz a5 a0 a1 a2 a3 x3
      go_wp2
      go_roundw
      case rel=>
        have aq:=yn F X 3 (.slice (some ⟨gg,0,none⟩) (j+1) U)
        have bm:wr.grownBy F (eU m j i).ownBlock:=yc (⟨v.out.os,v.out.tape,v.out.output,v.out.size,λk n _=>v.out.block k n⟩) (yc (⟨D.os,D.tape,D.output,D.size,λk n _=>D.block k n⟩) x)
        have bn:gg=(w6.heap.size)\/(eU m j i).ownBlock=some gg:=by
          rcases c4 with h| h
          . exact .inr h
          . exact .inl h
        have cm:gg≠X:=λe=>by
          have:=yf ab gg rfl
          omega
        refine ⟨j+1,_,xs++[[.int .i64 t.k, .string t.s, .slice O t.g.length ac, .slice P t.ks.length S]],by omega,by go_num,zA F _ 3 _ _ _ dc.out,?_,?_,?_⟩
        . have h:=zF ab aq (.inr (by simp [eP];exact cm))
          simpa using h
        . rw [List.take_add_one,HT.out]
          have dv:(F.setCell ⟨X,3,none⟩ (.slice (some ⟨gg,0,none⟩) (j+1) U)).heap.size=F.heap.size:=by simp
          have d1:w6.heap.size<=F.heap.size:=x.size
          have cl:AF (F.setCell ⟨X,3,none⟩ (.slice (some ⟨gg,0,none⟩) (j+1) U)) W.heap.size (λb=>b=X\/(eU (some ⟨gg,0,none⟩) (j+1) U).ownBlock=some b) (ks.take j) xs:=by
            refine be.out.keep (by omega) (λk n hnA=>?_) (λk n=>?_)
            . have h1:k≠X:=λe=>hnA (.inl e)
              have h2:(eU m j i).ownBlock≠some k:=λe=>hnA (.inr e)
              exact (aq.block k (by omega) (by simp;exact h1)).trans ((b2 k (by omega) h2).trans (v.out.block k n))
            . rcases n with rfl| n
              . exact .inl (.inl rfl)
              . have n:gg=k:=by simpa [eP]using n
                subst n
                rcases bn with h| h
                . exact .inr (by omega)
                . exact .inl (.inr h)
          refine cl.snoc (l:=z.heap.size) (h:=w5.heap.size) (by omega) (by omega) (BL.keep bv λk h1 h2=>?_) (λk n=>?_)
          . refine (aq.block k (by omega) (by simp;omega)).trans ((x.block k (by omega) (λe=>?_)).trans (bg.block k h2))
            have:=(zE y.out k e.symm).2
            have:z.drew.heap.size=z.heap.size:=rfl
            omega
          . rcases n with rfl| n
            . omega
            . have n:gg=k:=by simpa [eP]using n
              subst n
              rcases bn with h| h
              . omega
              . have:=(zE y.out _ h).2
                omega
        . exact yc (Ag bw.out bm (.inr λk n=>yf y.out k n)) aq
      case measure=>simp [intOf];omega
    . obtain rfl:j=ks.length:=by omega
      have o:=(bh.out.block (w.heap.size+1) (by have:=bk.out;omega)).trans cy.out
      obtain ⟨z0,z1,z2,z3⟩:=yi o
      obtain ⟨y0,y1,y2,y3⟩:=yi b0.out
      have q0:=zk wr (w.heap.size+1) 0 _ _ o
      have q1:=zk wr (w.heap.size+1) 1 _ _ o
      have q2:=zk wr (w.heap.size+1) 2 _ _ o
      have q3:=zk wr (w.heap.size+1) 3 _ _ o
      have bl:=za o
      have ca:=za (G.out.trans (bh.out.mono (by have:=G.out.size;omega)))
      clear o bd
      go_wp2
      have ak:=AT wr (w.heap.size+1) (.int .i64 k) (.string s) (.slice pu g.length cu) (.slice m ks.length i)
      have b7:=AO wr (w.heap.size+1) 25 _ _ _ _ (.int .i64 k) (.string s) (.slice pu g.length cu) (.slice m ks.length i) bl.out
      obtain ⟨w9,cj⟩:∃w9,w9=((((wr.setCell ⟨w.heap.size+1,0,none⟩ (.int .i64 k)).setCell ⟨w.heap.size+1,1,none⟩ (.string s)).setCell ⟨w.heap.size+1,2,none⟩ (.slice pu g.length cu)).setCell ⟨w.heap.size+1,3,none⟩ (.slice m ks.length i)):=⟨_,rfl⟩
      rw [<-cj]at ak b7 ⊢
      have ds:wr.heap.size<=w9.heap.size:=ak.size
      have fe:=bk.out
      have fg:A<=wr.heap.size:=by have:=bh.out.size;omega
      have bp:∀k,k<wr.heap.size->k≠w.heap.size+1->w9.heap[k]?=wr.heap[k]?:=λk n ag=>ak.block k n (by simp;omega)
      refine bodyPost_ret (results_cell_row rfl _ _ (w.heap.size+1) _ _ _ _ rfl b7 Tryz.underlying25 rfl BZ) rfl ⟨_,_,rfl,?_,?_⟩
      . intro W hW hz
        rw [List.take_length]at be
        have c1:Cd wr A (.slice pu g.length cu) g:=zF ar.out.row bw.out (.inr ar.out.ne)
        have hK:=Wr be.out y.out (zn _)
        refine T.lies_iff.2 ⟨(c1.on (W:=W) (λk h1 h2=>?_) (by omega)).lines,hK W (λk h1 h2=>?_) (by omega)⟩
        . exact (hW k (by omega) (by omega)).trans (bp k h2 (by omega))
        . exact (hW k (by omega) (by omega)).trans (bp k h2 (by omega))
      . exact yd ca.out ak (λk e=>by cases e;omega) ca.out.size
theorem Am.look{w:ze}{b n:Nat}{g:Int->Option Int}(h:Am w b n g){i:Int}(hi:yw i):(Instr.lookup 67 (.map (some b)) (.int .i64 i) false).run Tryz.prog w=.ok (.int .i64 ((g i).getD 0)) w:=by have:=Ae.look h (t:=67) (e:=3) Tryz.underlying67 (Pj w) i hi;rw[this];cases g i<;>rfl
inductive Up(Kp:Int->Prop)(Pr:Int->Option Int):Int->Nat->Prop
 |root {i:Int}:i<0->Up Kp Pr i 0
 |step {i p:Int} {n:Nat}:0<=i->Kp i->Pr i=some p->Up Kp Pr p n->Up Kp Pr i (n+1)
noncomputable def Cs(K:Int->Prop)(n:Nat):List Int:=((ev n).map λi=>((i:Nat):Int)).filter λi=>decide (K i)
theorem O0(K:Int->Prop)(n:Nat):Cs K (n+1)=Cs K n++if K n then[(n:Int)]else[]:=by unfold Cs;rw[P4,List.filter_append];by_cases h:K n<;>simp[h]
theorem G0(K:Int->Prop)(n:Nat):(Cs K n).length<=n:=by unfold Cs;have:=List.length_filter_le (λi=>decide (K i)) ((ev n).map λi=>((i:Nat):Int));simpa using this
theorem O5(M b l r s0 s1 kb tb pb nk np cnt:Nat)(K:Int->Prop)(G:Int->Option Int)(pk:zg)(w:ze)(hM:w.heap[M]?=some (.cells (BV b l r s0 s1 cnt pk (.map (some kb)) (.map (some tb)) (.map (some pb))) 69 (0,0)))(hK:Bv w kb nk K)(hP:Am w pb np G)(hc:cnt<=1000000)(hup:∀i:Int,K i->0<=i/\∃n,n<=cnt/\Up K G i n)(hfit:∀i p,G i=some p->yw p):zM Tryz.prog 42 #[.pointer (some ⟨M,0,none⟩)] w λe w'=>∃u,e=.returned (.tuple #[u,.bool true])/\yj w' w.heap.size u (Cs K cnt)/\Below w.heap.size w w':=by
 obtain⟨Y,Q,O,L,N⟩:=info_parts Br;have P:=yz hM;have Z:=za hM;obtain⟨u0,u1,u2,u3,u4,u5,u6,u7,u8,u9,u10⟩:=yY hM;clear hM;go_enter Tryz.func42,Tryz.ntmps42;go_wp2;clear u0 u1 u2 u3 u4 u5 u6 u7 u8 u9 u10;go_loopw [4,12] (λuv iv X=>∃i:Nat,i<=cnt/\iv=.int .i64 i/\yj X w.heap.size uv (Cs K i)/\Below w.heap.size w X) (λ_ iv _=>cnt-(intOf iv).toNat)
 case atStart=>exact⟨0,by omega,rfl,ed _ _ _ _,zt _ _⟩
 case round=>
  obtain⟨i,hi,rfl,f,d⟩:=hrel;obtain⟨pu,cu,rfl⟩:=yq f;have C:=(d.block M P).trans Z.out;have q:Bv wr kb nk K:=Ae.below hK d hK.lt;have x:Am wr pb np G:=Ae.below hP d hP.lt;obtain⟨u0,u1,u2,u3,u4,u5,u6,u7,u8,u9,u10⟩:=yY C;have R:=G0 K i;have g:=d.size;have y:=za d;have c:=za f;have t:=za (O0 K i);clear d f C;by_cases V:i<cnt
  .have D:yw (i:Int):=Bg (by omega) (by omega);have E:=q.look (i:Int) D;by_cases j:K (i:Int)
   .rw[decide_eq_true j]at E;obtain⟨_,n,hn,A⟩:=hup _ j;have F:=za A;have U:=za q;have HP:=za x;rw[if_pos j]at t;obtain⟨I,W⟩:∃I:ze,I=wr:=⟨_,rfl⟩
    subst W;clear A q x;go_wp2;go_loopw [6,7] (λav sv X=>∃(a:Int)(m s:Nat),X=I/\av=.int .i64 a/\sv=.int .i64 s/\yw a/\Up K G a m/\s+m<=cnt) (λ_ sv _=>cnt+1-(intOf sv).toNat)
    case atStart=>exact⟨i,n,0,rfl,rfl,rfl,D,F.out,by omega⟩
    case round=>
     obtain⟨a,m,s,rfl,rfl,rfl,B,hU,T⟩:=hrel;cases hU with
     |root h=>
      have d1:decide (a>=0)=false:=by simp;omega
      have S:decide ((s:Int)>(cnt:Int))=false:=by simp;omega
      have d3:decide (a<0)=true:=by simp;omega
      go_wp2_with (at_builtin;refine wpList_append_own _ rfl _ _ 55 rfl w.heap.size 3 Y (.int .i64 0) 1 8 Tryz.underlying55 Q O L N rfl (by decide) _ (Cs K i).length ((Cs K i).map (zX .i64)) rfl (zy c.out _) ⟨wr.heap.size,0,none⟩ 1 1 [.int .i64 i] rfl rfl (AR _ _ _) (by simp[ej]) (by simp[maxLen];omega) (by omega) (zI g (ya _).size) ?_;intro v' w6 v o J);go_roundw
      case rel=>
       refine⟨i+1,by omega,by go_num,?_,?_⟩
       .rw[t.out];unfold yj;rw[List.length_append,ip];exact v
       .exact yd (y.out.trans ((ya _).mono g)) o (λk E=>yf c.out k E) (zI g (ya _).size)
      case measure=>simp[intOf];omega
     |step h1 h2 h3 h4=>
      rename_i p m;have d1:decide (a>=0)=true:=by simp;omega
      have S:decide ((s:Int)<=(cnt:Int))=true:=by simp;omega
      have H:=U.out.look a B;rw[decide_eq_true h2]at H;have z:=HP.out.look B;rw[h3]at z;simp only[Option.getD_some]at z;go_wp2;go_roundw
      case rel=>exact⟨p,m,s+1,by first|trivial|rfl,rfl,by go_num,hfit a p h3,h4,by omega⟩
      case measure=>simp[intOf];omega
   .rw[decide_eq_false j]at E;rw[if_neg j,List.append_nil]at t;clear q x;go_wp2;go_roundw
    case rel=>exact⟨i+1,by omega,by go_num,by rw[t.out];exact c.out,y.out⟩
    case measure=>simp[intOf];omega
  .obtain rfl:i=cnt:=by omega
   go_wp2;go_ret2;exact⟨_,rfl,c.out,y.out⟩
open Go.RowKit Go.Maps Go.MapKept Go.WideShapes Go.ChangeMaps
open Go.WideElems (findIdx_arr findIdx_born modify_last set_self)
section
variable{w:ze} {b n:Nat} {t e:TypeId} {f:Int->Option zg}
theorem Ae.entry(h:Ae w b n f)(ht:Tryz.prog.underlying t=some (.map Vw e)){z:zg}(hz:∀u:ze,(zeroValue e).run Tryz.prog u=.ok z u)(hn:n<maxLen)(i:Int)(hi:yw i):∃(v0:zg)(st:Nat)(es1:Array iM)(c1:Nat),(oy t (.map (some b)) (.int .i64 i)).run Tryz.prog w=.ok (.tuple #[v0,goInt st]) (setBlock w b (.map es1 c1))/\w.mapTurned (setBlock w b (.map es1 c1)) b/\∀(W:ze)(v:zg),W.heap[b]?=some (.map es1 c1)->∃w3,(oD t (.map (some b)) (goInt st) v).run Tryz.prog W=.ok () w3/\Ae w3 b (n+1) (upd f i v)/\W.mapTurned w3 b:=by
 have H:=λv=>h.store ht hn i v hi;obtain⟨D,⟨k,d,m,F,P,rfl⟩,S,R⟩:=h;have K:=Vg;have g:=keyOf_int_mk Tryz.underlying3 hi;obtain⟨O,J,_⟩:=F.stamped;have A:∀(v:zg)(o:Array iM)(B:Nat)(W:ze),(o7 t (.map (some b)) (.int .i64 i) v).run Tryz.prog w=.ok () (setBlock w b (.map o B))->(∃es1 c1,W.heap[b]?=some (.map es1 c1))->Ae (setBlock W b (.map o B)) b (n+1) (upd f i v)/\W.mapTurned (setBlock W b (.map o B)) b:=by intro v o B W M ⟨es1,c1,hW⟩;obtain⟨Q,p,L,_⟩:=H v;rw[M]at p;cases p;exact⟨L.block ((zdL hW _).trans (zdL m _).symm),⟨_,_,_,_,hW,rfl⟩⟩
 rcases K.find w g k.toList F.keys with⟨s,r⟩|⟨j,x,s,r,C⟩
 .refine⟨z,d,k.push ⟨.int .i64 i,z,d⟩,d+1,?_,⟨_,_,_,_,m,rfl⟩,λW v hW=>?_⟩
  .simp[oy,eT ht,lj m,K.check w false g,s,hz,lk _ m,oq,setBlock]
  .have G:(k.push ⟨.int .i64 i,z,d⟩).findIdx? (λe=>((e.born:Nat):Int)==((d:Nat):Int))=some k.size:=by rw[findIdx_arr];refine findIdx_born (l:=(k.push ⟨.int .i64 i,z,d⟩).toList) (j:=k.size) (e0:=⟨.int .i64 i,z,d⟩) ?_ (by simp);rw[zaZ,ip];refine List.nodup_append.2 ⟨J,by simp,λa ha c hc q=>?_⟩;obtain⟨y,N,rfl⟩:=List.mem_map.1 ha;have:=O y N;simp at hc;omega
   have E:(k.push ⟨.int .i64 i,z,d⟩).modify k.size (λe=>{e with val:=v})=k.push ⟨.int .i64 i,v,d⟩:=by apply iq;rw[lX,zaZ,zaZ,<-Array.length_toList,modify_last]
   refine⟨setBlock W b (.map (k.push ⟨.int .i64 i,v,d⟩) (d+1)),?_,A v _ _ W ?_ ⟨_,_,hW⟩⟩
   .simp[oD,lj hW,asInt,asIntOf,goInt,G,E,lk _ hW,oq,setBlock]
   .simp[o7,eT ht,lj m,K.check w false g,s,lk _ m,oq,setBlock]
 .have I:k[j]?=some x:=by simpa using r
  have e0:k.modify j (λe=>{e with key:=.int .i64 i})=k:=by apply iq;rw[lX,zcF _ _ _ _ r,show({x with key:=.int .i64 i}:iM)=x by rw[<-C]];exact set_self _ _ _ r
  refine⟨x.val,x.born,k,d,?_,⟨_,_,_,_,m,rfl⟩,λW v hW=>?_⟩
  .simp[oy,eT ht,lj m,K.check w false g,s,I,C,K.stays w g,e0,lk _ m,oq,setBlock]
  .have G:k.findIdx? (λe=>((e.born:Nat):Int)==((x.born:Nat):Int))=some j:=by rw[findIdx_arr];exact findIdx_born J r
   have E:k.modify j (λe=>{e with val:=v})=k.modify j (λe=>{e with key:=.int .i64 i,val:=v}):=by apply iq;rw[lX,lX,zcF _ _ _ _ r,zcF _ _ _ _ r,<-C]
   refine⟨setBlock W b (.map (k.modify j (λe=>{e with key:=.int .i64 i,val:=v})) d),?_,A v _ _ W ?_ ⟨_,_,hW⟩⟩
   .simp[oD,lj hW,asInt,asIntOf,goInt,G,E,lk _ hW,oq,setBlock]
   .simp[o7,eT ht,lj m,K.check w false g,s,I,C,K.stays w g,lk _ m,oq,setBlock]
end
def SY(w:ze)(b n:Nat)(g:Int->Option ByteArray):Prop:=Ae w b n λi=>(g i).map im
theorem Tx(w:ze):(zeroValue 9).run Tryz.prog w=.ok (.string .empty) w:=by kernel_rfl
theorem Nz{α:Type}{f:Int->Option α}{i:Nat}(h:f i=none)(x:Int):(if 0<=x/\x<(i:Int)then f x else none)=if 0<=x/\x<((i+1:Nat):Int)then f x else none:=by
 by_cases e:x=i
 .subst e;rw[if_neg (by omega),if_pos (by omega),h]
 .by_cases a:0<=x/\x<(i:Int)
  .rw[if_pos a,if_pos (by omega)]
  .rw[if_neg a,if_neg (by omega)]
theorem MT{α:Type}{f:Int->Option α}{i:Nat}{v:α}(h:f i=some v)(x:Int):(if x=(i:Int)then some v else if 0<=x/\x<(i:Int)then f x else none)=if 0<=x/\x<((i+1:Nat):Int)then f x else none:=by
 by_cases e:x=i
 .subst e;rw[if_pos rfl,if_pos (by omega),h]
 .rw[if_neg e];by_cases a:0<=x/\x<(i:Int)
  .rw[if_pos a,if_pos (by omega)]
  .rw[if_neg a,if_neg (by omega)]
structure KTP(X:ze)(kb tb pb i:Nat)(S:Ver):Prop where
 k:Bv X kb i (λx=>0<=x/\x<i/\(S x).isSome)
 t:SY X tb i (λx=>if 0<=x/\x<(i:Int)then(S x).map Dl.s else none)
 p:Am X pb i (λx=>if 0<=x/\x<(i:Int)then(S x).map Dl.parent else none)
theorem KTP.skip{X X':ze}{kb tb pb i:Nat}{S:Ver}(h:KTP X kb tb pb i S)(hb:Below X.heap.size X X')(hS:S i=none):KTP X' kb tb pb (i+1) S:=by
 refine⟨?_,?_,?_⟩
 .refine Bv.congr (Ae.mono (Ae.below h.k hb h.k.lt) (by omega)) λx=>?_;constructor
  .rintro⟨b,c,a⟩;exact⟨b,by omega,a⟩
  .rintro⟨b,c,a⟩;refine⟨b,?_,a⟩;by_cases e:x=i
   .subst e;rw[hS]at a;cases a
   .omega
 .refine(Ae.mono (Ae.below h.t hb h.t.lt) (by omega:i<=i+1)).congr λx=>?_;dsimp only;rw[Nz (f:=λx=>(S x).map Dl.s) (by simp[hS])]
 .refine(Ae.mono (Ae.below h.p hb h.p.lt) (by omega:i<=i+1)).congr λx=>?_;dsimp only;rw[Nz (f:=λx=>(S x).map Dl.parent) (by simp[hS])]
theorem KTP.add{X':ze}{kb tb pb i:Nat}{S:Ver}{y:Dl}(hS:S i=some y)(hk:Ae X' kb (i+1) (upd (λx=>@ite (Option zg) (0<=x/\x<(i:Int)/\(S x).isSome=true) (propDecidable _) (some (.bool true)) none) i (.bool true)))(ht:Ae X' tb (i+1) (upd (λx=>(if 0<=x/\x<(i:Int)then(S x).map Dl.s else none).map im) i (.string y.s)))(hp:Ae X' pb (i+1) (upd (λx=>(if 0<=x/\x<(i:Int)then(S x).map Dl.parent else none).map (zX .i64)) i (.int .i64 y.parent))):KTP X' kb tb pb (i+1) S:=by
 refine⟨?_,?_,?_⟩
 .refine Bv.congr (Bv.add (k:=(i:Int)) hk) λx=>?_;constructor
  .rintro(rfl|⟨a,c,b⟩)
   .exact⟨by omega,by omega,by rw[hS];rfl⟩
   .exact⟨a,by omega,b⟩
  .rintro⟨a,c,b⟩;by_cases e:x=i
   .exact .inl e
   .exact .inr ⟨a,by omega,b⟩
 .refine ht.congr λx=>?_;dsimp only;rw[<-MT (f:=λx=>(S x).map Dl.s) (i:=i) (v:=y.s) (by simp[hS]) x];unfold upd;by_cases e:x=i
  .rw[if_pos e,if_pos e];rfl
  .rw[if_neg e,if_neg e]
 .refine hp.congr λx=>?_;dsimp only;rw[<-MT (f:=λx=>(S x).map Dl.parent) (i:=i) (v:=y.parent) (by simp[hS]) x];unfold upd;by_cases e:x=i
  .rw[if_pos e,if_pos e];rfl
  .rw[if_neg e,if_neg e]
theorem FW{X:ze}{tb pb n:Nat}{f g:Int->Option zg}(hT:Ae X tb n f)(hP:Ae X pb n g)(hne:tb≠pb)(i:Int)(hi:yw i)(hn:n<maxLen)(vt vp:zg):∃(v0 v1:zg)(s1 s2:Nat)(X1 X2 X3 X4:ze),(oy 66 (.map (some tb)) (.int .i64 i)).run Tryz.prog X=.ok (.tuple #[v0,(.int .i64 (s1:Int))]) X1/\(oD 66 (.map (some tb)) (.int .i64 (s1:Int)) vt).run Tryz.prog X1=.ok () X2/\(oy 67 (.map (some pb)) (.int .i64 i)).run Tryz.prog X2=.ok (.tuple #[v1,(.int .i64 (s2:Int))]) X3/\(oD 67 (.map (some pb)) (.int .i64 (s2:Int)) vp).run Tryz.prog X3=.ok () X4/\X.mapTurned X1 tb/\X1.mapTurned X2 tb/\X2.mapTurned X3 pb/\X3.mapTurned X4 pb/\Ae X4 tb (n+1) (upd f i vt)/\Ae X4 pb (n+1) (upd g i vp):=by obtain⟨v0,s1,v,x,o,a,k⟩:=hT.entry (t:=66) (e:=9) Tryz.underlying66 Tx hn i hi;obtain⟨X2,s,m,d⟩:=k _ vt (by obtain⟨_,_,_,_,p,_⟩:=a;exact zaS p _);have j:Ae X2 pb n g:=(hP.block (yu a (zap hne))).block (yu d (zap hne));obtain⟨v1,s2,w,y,q,b,l⟩:=j.entry (t:=67) (e:=3) Tryz.underlying67 Pj hn i hi;obtain⟨X4,h,r,c⟩:=l _ vp (by obtain⟨_,_,_,_,p,_⟩:=b;exact zaS p _);exact⟨v0,v1,s1,s2,_,X2,_,X4,o,s,q,h,a,d,b,c,(m.block (yu b hne)).block (yu c hne),r⟩
@[reducible]def W6 (M p kb tb pb:Nat):Act:={tmps:=#[iT (some {block:=M,off:=0}),iT (some {block:=p,off:=0}),zl,zl,zl,zl,zl,zl,zl,zl,zl,zl,zl,iT (some {block:=M,off:=0}),iT (some {block:=M,off:=0}),iT (some {block:=M,off:=0}),zc8 (some kb),zc8 (some tb),zc8 (some pb),iT (some {block:=M,off:=0}),iT (some {block:=M,off:=8}),iT (some {block:=M,off:=0}),iT (some {block:=M,off:=9}),iT (some {block:=M,off:=0}),iT (some {block:=M,off:=10}),zl,zl,zl,zl,zl,zl,zl,zl,zl,zl,zl,zl,zl,zl,zl,zl,zl,zl,zl,zl,zl,zl,zl,zl,zl,zl,zl,zl,zl,zl,zl,zl,zl,zl,zl,zl,zl,zl,zl,zl,zl,zl,zl,zl,zl,zl,zl,zl,zl,zl,zl,zl,zl,zl,zl,zl,zl,zl,zl,zl,zl,zl,zl,zl,zl,zl,zl,zl,zl,zl,zl,zl,zl,zl,zl,zl,zl,zl,zl,zl,zl,zl,zl,zl,zl,zl,zl,zl,zl,zl,zl,zl,zl,zl,zl,zl,zl,zl,zl,zl,zl,zl,zl,zl,zl,zl,zl,zl,zl,zl,zl,zl,zl,zl,zl,zl,zl,zl,zl,zl,zl,zl,zl,zl,zl,zl,zl,zl,zl,zl,zl,zl,zl,zl,zl,zl,zl,zl,zl,zl,zl,zl,zl,zl,zl,zl,zl,zl,zl,zl,zl,zl,zl,zl,zl,zl,zl,zl,zl,zl,zl,zl,zl,zl,zl,zl,zl,zl,zl],defers:=[]}
structure WS(w1 W:ze)(M:Nat)(cs:zg->zg->zg->Array zg)(t:TypeId)(kb tb pb:Nat):Prop where
 box:W.heap[M]?=some (.cells (cs (.map (some kb)) (.map (some tb)) (.map (some pb))) t (0,0))
 hk:W.heap[kb]?=some (.map #[] 0)
 ht:W.heap[tb]?=some (.map #[] 0)
 hp:W.heap[pb]?=some (.map #[] 0)
 kn:w1.heap.size<=kb
 tn:w1.heap.size<=tb
 pn:w1.heap.size<=pb
 kt:kb≠tb
 kp:kb≠pb
 tp:tb≠pb
 grown:w1.grownBy W (some M)
theorem Oj{w:ze}{b:Nat}(h:w.heap[b]?=some (.map #[] 0)):Ae w b 0 λ_=>none:=by
 obtain⟨W,c⟩:∃W:ze,W={w with heap:=(w.heap.extract 0 b).push (.map #[] 0)}:=⟨_,rfl⟩
 have d:=(eh.1 h).1;have e:({w with heap:=w.heap.extract 0 b}:ze).heap.size=b:=by simp;omega
 have:=B6 {w with heap:=w.heap.extract 0 b};rw[e]at this;refine this.block (h.trans ?_);have a:=zx ({w with heap:=w.heap.extract 0 b}:ze) (.map #[] 0);rw[e]at a;exact a.symm
theorem Rs(w1:ze)(M n kb tb pb:Nat)(b l r s0 s1:Nat)(cnt:Int)(pk v8 v9 v10:zg)(hn:w1.heap.size=n)(hM:w1.heap[M]?=some (.cells (BV b l r s0 s1 cnt pk v8 v9 v10) 69 (0,0)))(h:(kb=n/\tb=n+1/\pb=n+1+1)\/(kb=n/\pb=n+1/\tb=n+1+1)\/(tb=n/\kb=n+1/\pb=n+1+1)\/(tb=n/\pb=n+1/\kb=n+1+1)\/(pb=n/\kb=n+1/\tb=n+1+1)\/(pb=n/\tb=n+1/\kb=n+1+1)):WS w1 (((((((w1.setCell ⟨M,8,none⟩ (.map (some kb))).setCell ⟨M,9,none⟩ (.map (some tb))).setCell ⟨M,10,none⟩ (.map (some pb))).alloc (.map #[] 0)).alloc (.map #[] 0)).alloc (.map #[] 0)).drew) M (BV b l r s0 s1 cnt pk) 69 kb tb pb:=by
 have g:w1.grownBy (((w1.setCell ⟨M,8,none⟩ (.map (some kb))).setCell ⟨M,9,none⟩ (.map (some tb))).setCell ⟨M,10,none⟩ (.map (some pb))) (some M):=yc (yc (yn _ _ _ _) (yn _ _ _ _)) (yn _ _ _ _);have f:(((w1.setCell ⟨M,8,none⟩ (.map (some kb))).setCell ⟨M,9,none⟩ (.map (some tb))).setCell ⟨M,10,none⟩ (.map (some pb))).heap[M]?=some (.cells (BV b l r s0 s1 cnt pk (.map (some kb)) (.map (some tb)) (.map (some pb))) 69 (0,0)):=zA _ _ 10 _ _ _ (zA _ _ 9 _ _ _ (zA w1 _ 8 _ _ _ hM));have c:(((w1.setCell ⟨M,8,none⟩ (.map (some kb))).setCell ⟨M,9,none⟩ (.map (some tb))).setCell ⟨M,10,none⟩ (.map (some pb))).heap.size=n:=by simp[hn]
 generalize(((w1.setCell ⟨M,8,none⟩ (.map (some kb))).setCell ⟨M,9,none⟩ (.map (some tb))).setCell ⟨M,10,none⟩ (.map (some pb)))=Z at*;have d:=yz f;have m:(((Z.alloc (.map #[] 0)).alloc (.map #[] 0)).alloc (.map #[] 0)).drew.heap[n]?=some (.map #[] 0):=by have a:=zx Z (.map #[] 0);rw[c]at a;exact((ya _).block n (by simp[c];omega)).trans (((ya _).block n (by simp[c])).trans a)
 have k:(((Z.alloc (.map #[] 0)).alloc (.map #[] 0)).alloc (.map #[] 0)).drew.heap[n+1]?=some (.map #[] 0):=by have a:=zx (Z.alloc (.map #[] 0)) (.map #[] 0);rw[ye,c]at a;exact((ya _).block (n+1) (by simp[c])).trans a
 have o:(((Z.alloc (.map #[] 0)).alloc (.map #[] 0)).alloc (.map #[] 0)).drew.heap[n+1+1]?=some (.map #[] 0):=by have a:=zx ((Z.alloc (.map #[] 0)).alloc (.map #[] 0)) (.map #[] 0);rw[ye,ye,c]at a;exact a
 have j:(((Z.alloc (.map #[] 0)).alloc (.map #[] 0)).alloc (.map #[] 0)).drew.heap[M]?=some (.cells (BV b l r s0 s1 cnt pk (.map (some kb)) (.map (some tb)) (.map (some pb))) 69 (0,0)):=((ya _).block M (by simp;omega)).trans (((ya _).block M (by simp;omega)).trans (((ya _).block M d).trans f));have i:w1.grownBy (((Z.alloc (.map #[] 0)).alloc (.map #[] 0)).alloc (.map #[] 0)).drew (some M):=by have:=yc (yc (yc g (eQ _ (.map #[] 0) _)) (eQ _ (.map #[] 0) _)) (eQ _ (.map #[] 0) _);exact⟨this.os,this.tape,this.output,this.size,this.block⟩
 rcases h with⟨rfl,rfl,rfl⟩|⟨rfl,rfl,rfl⟩|⟨rfl,rfl,rfl⟩|⟨rfl,rfl,rfl⟩|⟨rfl,rfl,rfl⟩|⟨rfl,rfl,rfl⟩<;>
  exact⟨j,by assumption,by assumption,by assumption,by omega,by omega,by omega,by omega,by omega,by omega,i⟩
theorem OY(M b l r s0 s1 nb nl nr cnt:Nat)(B L R S:Ver)(pk:zg)(w:ze)(hM:w.heap[M]?=some (.cells (BV b l r s0 s1 cnt pk (.map none) (.map none) (.map none)) 69 (0,0)))(w0:ze)(hw0:Below w0.heap.size w0 w)(hM0:w0.heap.size<=M)(hB:yV w0 b nb B)(hL:yV w0 l nl L)(hR:yV w0 r nr R)
    (hW:Win B L R S)(hc:cnt<=1000000):
    zM Tryz.prog 41 #[.pointer (some ⟨M,0,none⟩)] w λe w'=>e= .returned (.tuple #[])/\∃kb tb pb:Nat,w'.heap[M]?=some (.cells (BV b l r s0 s1 cnt pk (.map (some kb)) (.map (some tb)) (.map (some pb))) 69 (0,0))/\
      w.heap.size<=kb/\w.heap.size<=tb/\w.heap.size<=pb/\Bv w' kb cnt (λi=>0<=i/\i<cnt/\(S i).isSome)/\SY w' tb cnt (λi=>if 0<=i/\i<cnt then(S i).map Dl.s else none)/\Am w' pb cnt (λi=>if 0<=i/\i<cnt then(S i).map Dl.parent else none)/\w.grownBy w' (some M):=by
  obtain⟨U,bm⟩:∃U,U=w.alloc (.cells #[.pointer (some ⟨M,0,none⟩)] 60):=⟨_,rfl⟩
  have fj:=yz hM
  have bl:Below w.heap.size w U:=by rw[bm];exact ya _
  have cy:U.heap[w.heap.size]?=some (.cells #[.pointer (some ⟨M,0,none⟩)] 60 (0,0)):=by rw[bm];exact zx _ _
  have fb:U.heap.size=w.heap.size+1:=by rw[bm];simp
  have az:=(bl.block M fj).trans hM
  obtain⟨y0,y1,y2,y3,y4,y5,y6,y7,y8,y9,dt⟩:=yY az
  have x0:U.cell? ⟨w.heap.size,0,none⟩=some (.pointer (some ⟨M,0,none⟩)):=by simp only[zS,cy];rfl
  have f8:=zk U M 8 _ _ az
  have f9:=zk U M 9 _ _ az
  have fe:=zk U M 10 _ _ az
  have fa:=@run_makeMap Tryz.prog
  have bt:M≠w.heap.size:=by omega
  obtain⟨p,hp⟩:∃p,p=w.heap.size:=⟨_,rfl⟩
  obtain⟨n,hn⟩:∃n,U.heap.size=n:=⟨_,rfl⟩
  rw[<-hp]at x0 bt
  have r1:p<n:=by omega
  have r2:p<n+1:=by omega
  have r3:p<n+1+1:=by omega
  have r4:p<n+1+1+1:=by omega
  have q1:M<n:=by omega
  have q2:M<n+1:=by omega
  have q3:M<n+1+1:=by omega
  have q4:M<n+1+1+1:=by omega
  have r5:p<n+2:=by omega
  have r6:p<n+3:=by omega
  have q5:M<n+2:=by omega
  have q6:M<n+3:=by omega
  have dy:eW (p=w.heap.size/\n=p+1):=za ⟨hp,by omega⟩
  have fk:=za az
  go_enter Tryz.func41,Tryz.ntmps41
  go_wp2
  rw[<-bm,<-hp]
  clear bm hM cy az hp fb
  refine Cut.wp_via (λa' W=>∃kb tb pb:Nat,a'=W6 M p kb tb pb/\WS U W M (BV b l r s0 s1 cnt pk) 69 kb tb pb) ?_ ?_
  case refine_1=>
   go_region_held3 (λw'=>w'.cell? ⟨p,0,none⟩=some (.pointer (some ⟨M,0,none⟩))) (simp[*,World.cell?_alloc_past,World.cell?_setCell_far]) (fail)
   all_goals exact⟨rfl,_,_,_,rfl,Rs U M n _ _ _ b l r s0 s1 cnt pk (.map none) (.map none) (.map none) hn fk.out (by simp)⟩
  rintro a' W ⟨kb,tb,pb,rfl,h3⟩
  obtain⟨rfl,f6⟩:=dy.out
  have cn:Below w0.heap.size w0 W:=(hw0.trans (bl.mono hw0.size)).trans ⟨h3.grown.os,h3.grown.tape,h3.grown.output,h3.grown.size,λk hk=>h3.grown.block k (by have:=hw0.size;omega) (by simp;omega)⟩
  have dl:=h3.grown.size
  rw[hn]at dl
  have HV:eW (∀X,Below U.heap.size W X->Below w0.heap.size w0 X):=za λX hX=>cn.trans (hX.mono (by have:=hw0.size;have:=bl.size;omega))
  have cf:=h3.box
  have dh:W.cell? ⟨w.heap.size,0,none⟩=some (.pointer (some ⟨M,0,none⟩)):=(oE h3.grown ⟨w.heap.size,0,none⟩ (by show w.heap.size<_;omega) (by simp;omega)).trans x0
  obtain⟨u0,u1,u2,u3,u4,u5,u6,u7,u8,u9,u10⟩:=yY cf
  have d9:=za dh
  have dx:=za cf
  have E:=za h3
  have bd:=za bl
  dsimp only[ef,W6]
  clear h3 cf y0 y1 y2 y3 y4 y5 y6 y7 y8 y9 dt x0 f8 f9 fe r1 r2 r3 r4 r5 r6 q1 q2 q3 q4 q5 q6 fa bt bl cn
  go_wp2
  clear u0 u1 u2 u3 u4 u5 u6 u7 u8 u9 u10 dh
  go_loopw [29] (λiv X=>∃i:Nat,i<=cnt/\iv= .int .i64 i/\KTP X kb tb pb i S/\Below U.heap.size W X) (λiv _=>cnt -(intOf iv).toNat)
  case atStart=>
    refine⟨0,by omega,rfl,⟨?_,?_,?_⟩,⟨rfl,rfl,rfl,zn _,λ_ _=>rfl⟩⟩
    . exact(Oj E.out.hk).congr λx=>by rw[if_neg (by omega)]
    . exact(Oj E.out.ht).congr λx=>by dsimp only;rw[if_neg (by omega)];rfl
    . exact(Oj E.out.hp).congr λx=>by dsimp only;rw[if_neg (by omega)];rfl
  case round=>
    obtain⟨i,hi,rfl,bv,a8⟩:=hrel
    have a:=za bv
    have Z:=za a8
    have fo:=a8.size
    have a5:=(a8.cell (p:=⟨w.heap.size,0,none⟩) (by show w.heap.size<_;omega)).trans d9.out
    have cg:=(a8.block M (by omega)).trans dx.out
    have dv:=za cg
    obtain⟨u0,u1,u2,u3,u4,u5,u6,u7,u8,u9,u10⟩:=yY cg
    clear bv a8 cg
    by_cases gv:i<cnt
    . have V:yw (i:Int):=Bg (by omega) (by omega)
      have au:=HV.out _ Z.out
      obtain⟨D,an,av,aq,ax,cx,_,_,eb⟩:=(hB.below au).look_all V
      obtain⟨z,bo,bh,bj,bn,df,_,_,el⟩:=(hL.below au).look_all V
      obtain⟨A,be,a9,bf,a7,cs,_,_,er⟩:=(hR.below au).look_all V
      have lb:=(hB.below au).lt
      have ll:=(hL.below au).lt
      have lr:=(hR.below au).lt
      have g1:=(cx wr rfl).2
      have g2:=(df (wr.alloc (.cells #[.int .i64 D.k, .string D.s, .slice an D.g.length av, .int .i64 D.parent, .slice aq D.kids.length ax] 94)) ((ya _).block _ ll)).2
      have g3:=(cs ((wr.alloc (.cells #[.int .i64 D.k, .string D.s, .slice an D.g.length av, .int .i64 D.parent, .slice aq D.kids.length ax] 94)).alloc (.cells #[.int .i64 z.k, .string z.s, .slice bo z.g.length bh, .int .i64 z.parent, .slice bj z.kids.length bn] 94)) (((ya _).block _ (by simp;omega)).trans ((ya _).block _ lr))).2
      dsimp only[Dh]at g1 g2 g3
      have m1:w.heap.size<wr.heap.size:=by omega
      have m2:w.heap.size<wr.heap.size+1:=by omega
      have m3:w.heap.size<wr.heap.size+1+1:=by omega
      have m4:w.heap.size<wr.heap.size+2:=by omega
      have k1:M<wr.heap.size:=by omega
      have k2:M<wr.heap.size+1:=by omega
      have k3:M<wr.heap.size+1+1:=by omega
      have k4:M<wr.heap.size+2:=by omega
      have b7:=za (hW (i:Int))
      have EB:=za eb
      have EL:=za el
      have ER:=za er
      clear cx df cs au eb el er
      have ch:eW (∀o1 o2 o3,Below wr.heap.size wr (((wr.alloc o1).alloc o2).alloc o3)):=za λo1 o2 o3=>((ya _).trans ((ya _).mono (by simp))).trans ((ya _).mono (by simp;omega))
      obtain⟨W3,ar⟩:∃W3,W3=((wr.alloc (.cells #[.int .i64 D.k, .string D.s, .slice an D.g.length av, .int .i64 D.parent, .slice aq D.kids.length ax] 94)).alloc (.cells #[.int .i64 z.k, .string z.s, .slice bo z.g.length bh, .int .i64 z.parent, .slice bj z.kids.length bn] 94)).alloc (.cells #[.int .i64 A.k, .string A.s, .slice be A.g.length a9, .int .i64 A.parent, .slice bf A.kids.length a7] 94):=⟨_,rfl⟩
      have dd:W3.heap[wr.heap.size]?=some (.cells #[.int .i64 D.k, .string D.s, .slice an D.g.length av, .int .i64 D.parent, .slice aq D.kids.length ax] 94 (0,0)):=by
        have h:=zx wr (.cells #[.int .i64 D.k, .string D.s, .slice an D.g.length av, .int .i64 D.parent, .slice aq D.kids.length ax] 94)
        rw[ar]
        exact((ya _).block _ (by simp;omega)).trans (((ya _).block _ (by simp)).trans h)
      have ct:W3.heap[wr.heap.size+1]?=some (.cells #[.int .i64 z.k, .string z.s, .slice bo z.g.length bh, .int .i64 z.parent, .slice bj z.kids.length bn] 94 (0,0)):=by
        have h:=zx (wr.alloc (.cells #[.int .i64 D.k, .string D.s, .slice an D.g.length av, .int .i64 D.parent, .slice aq D.kids.length ax] 94)) (.cells #[.int .i64 z.k, .string z.s, .slice bo z.g.length bh, .int .i64 z.parent, .slice bj z.kids.length bn] 94)
        rw[ye]at h
        rw[ar]
        exact((ya _).block _ (by simp)).trans h
      have c6:W3.heap[wr.heap.size+1+1]?=some (.cells #[.int .i64 A.k, .string A.s, .slice be A.g.length a9, .int .i64 A.parent, .slice bf A.kids.length a7] 94 (0,0)):=by
        have h:=zx ((wr.alloc (.cells #[.int .i64 D.k, .string D.s, .slice an D.g.length av, .int .i64 D.parent, .slice aq D.kids.length ax] 94)).alloc (.cells #[.int .i64 z.k, .string z.s, .slice bo z.g.length bh, .int .i64 z.parent, .slice bj z.kids.length bn] 94)) (.cells #[.int .i64 A.k, .string A.s, .slice be A.g.length a9, .int .i64 A.parent, .slice bf A.kids.length a7] 94)
        rw[ye,ye]at h
        rw[ar]
        exact h
      have b6:Below wr.heap.size wr W3:=by rw[ar];exact ch.out _ _ _
      have bx:W3.heap.size=wr.heap.size+1+1+1:=by rw[ar];simp
      have fc:=za dd
      have b9:=za ct
      have cz:=za c6
      have f:=za b6
      have bb:=za bx
      have ce:=za ar
      clear dd ct c6 b6 bx ar
      by_cases ap:S i=none
      . obtain⟨cb,cl,cr,O⟩:∃cb cl cr,(B i).isSome=cb/\(L i).isSome=cl/\(R i).isSome=cr:=⟨_,_,_,rfl,rfl,rfl⟩
        have cc:(cb=true/\(cl=false\/cr=false))\/(cl=false/\cr=false):=by
          obtain⟨rfl,rfl,rfl⟩:=O
          rcases b7.out with⟨I,F⟩|⟨I,F⟩|⟨I,F⟩
          . rw[ap]at F
            rw[I,<-F]
            simp
          . rw[ap]at F
            rw[<-F]
            cases h:(B (i:Int)).isSome
            . right;rw[I,h];simp
            . left;simp
          . rw[ap]at F
            rw[<-F]
            cases h:(B (i:Int)).isSome
            . right;rw[I,h];simp
            . left;simp
        rw[O.1]at g1
        rw[O.2.1]at g2
        rw[O.2.2]at g3
        clear O
        have d7:=za ap
        clear ap
        revert cc
        cases cb<;>cases cl<;>cases cr<;>intro cc<;>first|(exact absurd cc (by decide))| skip
        all_goals
          go_wp2
          go_roundw
          case rel=>exact⟨i+1,by omega,by go_num,a.out.skip (ch.out _ _ _) d7.out,Z.out.trans ((ch.out _ _ _).mono (by omega))⟩
          case measure=>simp[intOf];omega
      . obtain⟨y,Y⟩:∃y,S i=some y:=lR.1 (zbA.2 ap)
        clear ap
        have cd:=za Y
        by_cases a6:B i=none
        . have ao:(∃c,L i=some y/\(R i).isSome=c)\/(L i=none/\R i=some y):=by
            rcases b7.out with⟨I,F⟩|⟨I,F⟩|⟨I,F⟩
            . exact .inl ⟨_,by rw[I,<-F,Y],rfl⟩
            . exact .inr ⟨by rw[I,a6],by rw[<-F,Y]⟩
            . exact .inl ⟨_,by rw[<-F,Y],rfl⟩
          rw[a6]at g1
          clear a6 Y
          rcases ao with⟨cr,bq,ba⟩|⟨bq,ba⟩
          . have el:=EL.out
            rw[bq]at g2 el
            obtain rfl:z=y:=el
            rw[ba]at g3
            clear bq ba
            have dj:=a.out.k.lt
            have bi:=a.out.t.lt
            have bg:=a.out.p.lt
            go_wp2_with (at_mapUpdate;rw[<-ce.out];refine yS rfl _ _ _ 65 4 rfl Tryz.underlying65 kb i _ rfl (Ae.below a.out.k f.out a.out.k.lt) (by simp[maxLen];omega) i rfl V ?_;intro C ac d)
            have N:C.heap[wr.heap.size+1]?=_:=(yu d (by omega)).trans b9.out
            obtain⟨d0,d1,d2,d3,d4⟩:=yX N
            have ad:C.cell? ⟨w.heap.size,0,none⟩=some (.pointer (some ⟨M,0,none⟩)):=yh d ((f.out.cell (p:=⟨w.heap.size,0,none⟩) m1).trans a5)
            have aa:C.cell? ⟨M,9,none⟩=some (.map (some tb)):=yh d ((f.out.cell (p:=⟨M,9,none⟩) k1).trans u9)
            have H:C.cell? ⟨M,10,none⟩=some (.map (some pb)):=yh d ((f.out.cell (p:=⟨M,10,none⟩) k1).trans u10)
            have ab:Ae C.drew tb i _:=(Ae.below a.out.t f.out bi).block (show C.heap[tb]?=W3.heap[tb]?from yu d (zap E.out.kt))
            have ae:Ae C.drew pb i _:=(Ae.below a.out.p f.out bg).block (show C.heap[pb]?=W3.heap[pb]?from yu d (zap E.out.kp))
            obtain⟨v0,v1,c7,cp,X1,X2,X3,J,c8,c9,de,da,v,o,j,m,ag,af⟩:=FW ab ae E.out.tp i V (by simp[maxLen];omega) (.string z.s) (.int .i64 z.parent)
            have S0:C.drew.cell? ⟨w.heap.size,0,none⟩=some (.pointer (some ⟨M,0,none⟩))/\C.drew.cell? ⟨M,9,none⟩=some (.map (some tb))/\C.drew.cell? ⟨M,10,none⟩=some (.map (some pb))/\C.drew.cell? ⟨wr.heap.size+1,1,none⟩=some (.string z.s)/\C.drew.cell? ⟨wr.heap.size+1,3,none⟩=some (.int .i64 z.parent):=⟨ad,aa,H,d1,d3⟩
            have S1:X1.cell? ⟨w.heap.size,0,none⟩=some (.pointer (some ⟨M,0,none⟩))/\X1.cell? ⟨M,9,none⟩=some (.map (some tb))/\X1.cell? ⟨M,10,none⟩=some (.map (some pb))/\X1.cell? ⟨wr.heap.size+1,1,none⟩=some (.string z.s)/\X1.cell? ⟨wr.heap.size+1,3,none⟩=some (.int .i64 z.parent):=⟨yh v S0.1,yh v S0.2.1,yh v S0.2.2.1,yh v S0.2.2.2.1,yh v S0.2.2.2.2⟩
            have S2:X2.cell? ⟨w.heap.size,0,none⟩=some (.pointer (some ⟨M,0,none⟩))/\X2.cell? ⟨M,9,none⟩=some (.map (some tb))/\X2.cell? ⟨M,10,none⟩=some (.map (some pb))/\X2.cell? ⟨wr.heap.size+1,1,none⟩=some (.string z.s)/\X2.cell? ⟨wr.heap.size+1,3,none⟩=some (.int .i64 z.parent):=⟨yh o S1.1,yh o S1.2.1,yh o S1.2.2.1,yh o S1.2.2.2.1,yh o S1.2.2.2.2⟩
            have S3:X3.cell? ⟨w.heap.size,0,none⟩=some (.pointer (some ⟨M,0,none⟩))/\X3.cell? ⟨M,9,none⟩=some (.map (some tb))/\X3.cell? ⟨M,10,none⟩=some (.map (some pb))/\X3.cell? ⟨wr.heap.size+1,1,none⟩=some (.string z.s)/\X3.cell? ⟨wr.heap.size+1,3,none⟩=some (.int .i64 z.parent):=⟨yh j S2.1,yh j S2.2.1,yh j S2.2.2.1,yh j S2.2.2.2.1,yh j S2.2.2.2.2⟩
            have S4:J.cell? ⟨w.heap.size,0,none⟩=some (.pointer (some ⟨M,0,none⟩))/\J.cell? ⟨M,9,none⟩=some (.map (some tb))/\J.cell? ⟨M,10,none⟩=some (.map (some pb))/\J.cell? ⟨wr.heap.size+1,1,none⟩=some (.string z.s)/\J.cell? ⟨wr.heap.size+1,3,none⟩=some (.int .i64 z.parent):=⟨yh m S3.1,yh m S3.2.1,yh m S3.2.2.1,yh m S3.2.2.2.1,yh m S3.2.2.2.2⟩
            have G:eW (KTP J kb tb pb (i+1) S/\Below U.heap.size W J):=za (by
              have bk:=E.out.kt
              have bp:=E.out.kp
              have e4:∀k,k≠tb->k≠pb->J.heap[k]?=C.heap[k]?:=λk I F=>(yu m F).trans ((yu j F).trans ((yu o I).trans ((yu v I).trans rfl)))
              have bc:Below U.heap.size wr C:=(f.out.mono (by omega)).trans (yE d (E.out.kn))
              refine⟨KTP.add cd.out (ac.block (e4 kb bk bp)) ag af,?_⟩
              exact Z.out.trans (bc.trans ((((((zt _ _).drew).trans (yE v E.out.tn)).trans (yE o E.out.tn)).trans (yE j E.out.pn)).trans (yE m E.out.pn))))
            clear ac d N ab ae v o j m ag af d0 d1 d2 d3 d4 ad aa H g1 g2 g3 u0 u1 u2 u3 u4 u5 u6 u7 u8 u9 u10 a5
            go_region_held3 (λw'=>w'.cell? ⟨w.heap.size,0,none⟩=some (.pointer (some ⟨M,0,none⟩))/\w'.cell? ⟨M,9,none⟩=some (.map (some tb))/\w'.cell? ⟨M,10,none⟩=some (.map (some pb))/\w'.cell? ⟨wr.heap.size+1,1,none⟩=some (.string z.s)/\w'.cell? ⟨wr.heap.size+1,3,none⟩=some (.int .i64 z.parent)) (assumption) (fail)
            go_wp2
            go_roundw
            case rel=>exact⟨i+1,by omega,by go_num,G.out.1,G.out.2⟩
            case measure=>simp[intOf];omega
          . have er:=ER.out
            rw[bq]at g2
            rw[ba]at g3 er
            obtain rfl:A=y:=er
            clear bq ba
            have dj:=a.out.k.lt
            have bi:=a.out.t.lt
            have bg:=a.out.p.lt
            go_wp2_with (at_mapUpdate;rw[<-ce.out];refine yS rfl _ _ _ 65 4 rfl Tryz.underlying65 kb i _ rfl (Ae.below a.out.k f.out a.out.k.lt) (by simp[maxLen];omega) i rfl V ?_;intro C ac d;have N:C.heap[wr.heap.size+1]?=_:=(yu d (by omega)).trans b9.out;have cq:C.heap[wr.heap.size+1+1]?=_:=(yu d (by omega)).trans cz.out;obtain⟨d0,d1,d2,d3,d4⟩:=yX N;obtain⟨c0,c1,c2,c3,c4⟩:=yX cq;have f0:=zk C (wr.heap.size+1) 0 _ _ N;have f1:=zk C (wr.heap.size+1) 1 _ _ N;have f2:=zk C (wr.heap.size+1) 2 _ _ N;have f3:=zk C (wr.heap.size+1) 3 _ _ N;have f4:=zk C (wr.heap.size+1) 4 _ _ N;have fi:=za N;clear N cq)
            obtain⟨P,T⟩:∃P,P=((((C.setCell ⟨wr.heap.size+1,0,none⟩ (.int .i64 A.k)).setCell ⟨wr.heap.size+1,1,none⟩ (.string A.s)).setCell ⟨wr.heap.size+1,2,none⟩ (.slice be A.g.length a9)).setCell ⟨wr.heap.size+1,3,none⟩ (.int .i64 A.parent)).setCell ⟨wr.heap.size+1,4,none⟩ (.slice bf A.kids.length a7):=⟨_,rfl⟩
            have dg:P.heap[wr.heap.size+1]?=some (.cells #[.int .i64 A.k, .string A.s, .slice be A.g.length a9, .int .i64 A.parent, .slice bf A.kids.length a7] 94 (0,0)):=by
              rw[T]
              exact zA _ _ 4 _ _ _ (zA _ _ 3 _ _ _ (zA _ _ 2 _ _ _ (zA _ _ 1 _ _ _ (zA C _ 0 _ _ _ fi.out))))
            have Q:C.grownBy P (some (wr.heap.size+1)):=by
              rw[T]
              exact yc (yc (yc (yc (yn _ _ _ _) (yn _ _ _ _)) (yn _ _ _ _)) (yn _ _ _ _)) (yn _ _ _ _)
            rw[<-T]
            obtain⟨d0,d1,d2,d3,d4⟩:=yX dg
            have e6:∀k,k<wr.heap.size->P.heap[k]?=C.heap[k]?:=λk hk=>Q.block k (by have:=yU d;have:=bb.out;omega) (by simp;omega)
            have ad:P.cell? ⟨w.heap.size,0,none⟩=some (.pointer (some ⟨M,0,none⟩)):=(oE Q ⟨w.heap.size,0,none⟩ (by show w.heap.size<_;have:=yU d;have:=bb.out;omega) (by simp;omega)).trans (yh d ((f.out.cell (p:=⟨w.heap.size,0,none⟩) m1).trans a5))
            have aa:P.cell? ⟨M,9,none⟩=some (.map (some tb)):=(oE Q ⟨M,9,none⟩ (by show M<_;have:=yU d;have:=bb.out;omega) (by simp;omega)).trans (yh d ((f.out.cell (p:=⟨M,9,none⟩) k1).trans u9))
            have H:P.cell? ⟨M,10,none⟩=some (.map (some pb)):=(oE Q ⟨M,10,none⟩ (by show M<_;have:=yU d;have:=bb.out;omega) (by simp;omega)).trans (yh d ((f.out.cell (p:=⟨M,10,none⟩) k1).trans u10))
            have ab:Ae P.drew tb i _:=(Ae.below a.out.t f.out bi).block (show P.heap[tb]?=W3.heap[tb]?from(e6 tb (by omega)).trans (yu d (zap E.out.kt)))
            have ae:Ae P.drew pb i _:=(Ae.below a.out.p f.out bg).block (show P.heap[pb]?=W3.heap[pb]?from(e6 pb (by omega)).trans (yu d (zap E.out.kp)))
            obtain⟨v0,v1,c7,cp,X1,X2,X3,J,c8,c9,de,da,v,o,j,m,ag,af⟩:=FW ab ae E.out.tp i V (by simp[maxLen];omega) (.string A.s) (.int .i64 A.parent)
            have S0:P.drew.cell? ⟨w.heap.size,0,none⟩=some (.pointer (some ⟨M,0,none⟩))/\P.drew.cell? ⟨M,9,none⟩=some (.map (some tb))/\P.drew.cell? ⟨M,10,none⟩=some (.map (some pb))/\P.drew.cell? ⟨wr.heap.size+1,1,none⟩=some (.string A.s)/\P.drew.cell? ⟨wr.heap.size+1,3,none⟩=some (.int .i64 A.parent):=⟨ad,aa,H,d1,d3⟩
            have S1:X1.cell? ⟨w.heap.size,0,none⟩=some (.pointer (some ⟨M,0,none⟩))/\X1.cell? ⟨M,9,none⟩=some (.map (some tb))/\X1.cell? ⟨M,10,none⟩=some (.map (some pb))/\X1.cell? ⟨wr.heap.size+1,1,none⟩=some (.string A.s)/\X1.cell? ⟨wr.heap.size+1,3,none⟩=some (.int .i64 A.parent):=⟨yh v S0.1,yh v S0.2.1,yh v S0.2.2.1,yh v S0.2.2.2.1,yh v S0.2.2.2.2⟩
            have S2:X2.cell? ⟨w.heap.size,0,none⟩=some (.pointer (some ⟨M,0,none⟩))/\X2.cell? ⟨M,9,none⟩=some (.map (some tb))/\X2.cell? ⟨M,10,none⟩=some (.map (some pb))/\X2.cell? ⟨wr.heap.size+1,1,none⟩=some (.string A.s)/\X2.cell? ⟨wr.heap.size+1,3,none⟩=some (.int .i64 A.parent):=⟨yh o S1.1,yh o S1.2.1,yh o S1.2.2.1,yh o S1.2.2.2.1,yh o S1.2.2.2.2⟩
            have S3:X3.cell? ⟨w.heap.size,0,none⟩=some (.pointer (some ⟨M,0,none⟩))/\X3.cell? ⟨M,9,none⟩=some (.map (some tb))/\X3.cell? ⟨M,10,none⟩=some (.map (some pb))/\X3.cell? ⟨wr.heap.size+1,1,none⟩=some (.string A.s)/\X3.cell? ⟨wr.heap.size+1,3,none⟩=some (.int .i64 A.parent):=⟨yh j S2.1,yh j S2.2.1,yh j S2.2.2.1,yh j S2.2.2.2.1,yh j S2.2.2.2.2⟩
            have S4:J.cell? ⟨w.heap.size,0,none⟩=some (.pointer (some ⟨M,0,none⟩))/\J.cell? ⟨M,9,none⟩=some (.map (some tb))/\J.cell? ⟨M,10,none⟩=some (.map (some pb))/\J.cell? ⟨wr.heap.size+1,1,none⟩=some (.string A.s)/\J.cell? ⟨wr.heap.size+1,3,none⟩=some (.int .i64 A.parent):=⟨yh m S3.1,yh m S3.2.1,yh m S3.2.2.1,yh m S3.2.2.2.1,yh m S3.2.2.2.2⟩
            have G:eW (KTP J kb tb pb (i+1) S/\Below U.heap.size W J):=za (by
              have bk:=E.out.kt
              have bp:=E.out.kp
              have e4:∀k,k≠tb->k≠pb->J.heap[k]?=P.heap[k]?:=λk I F=>(yu m F).trans ((yu j F).trans ((yu o I).trans ((yu v I).trans rfl)))
              have bc:Below U.heap.size wr P:=((f.out.mono (by omega)).trans (yE d (E.out.kn))).trans ⟨Q.os,Q.tape,Q.output,Q.size,λk hk=>Q.block k (by have:=yU d;have:=bb.out;omega) (by simp;omega)⟩
              refine⟨KTP.add cd.out (ac.block ((e4 kb bk bp).trans (e6 kb (by omega)))) ag af,?_⟩
              exact Z.out.trans (bc.trans ((((((zt _ _).drew).trans (yE v E.out.tn)).trans (yE o E.out.tn)).trans (yE j E.out.pn)).trans (yE m E.out.pn))))
            clear ac d ab ae v o j m ag af d0 d1 d2 d3 d4 c0 c1 c2 c3 c4 f0 f1 f2 f3 f4 T dg Q e6 ad aa H g1 g2 g3 u0 u1 u2 u3 u4 u5 u6 u7 u8 u9 u10 a5
            go_region_held3 (λw'=>w'.cell? ⟨w.heap.size,0,none⟩=some (.pointer (some ⟨M,0,none⟩))/\w'.cell? ⟨M,9,none⟩=some (.map (some tb))/\w'.cell? ⟨M,10,none⟩=some (.map (some pb))/\w'.cell? ⟨wr.heap.size+1,1,none⟩=some (.string A.s)/\w'.cell? ⟨wr.heap.size+1,3,none⟩=some (.int .i64 A.parent)) (assumption) (fail)
            go_wp2
            go_roundw
            case rel=>exact⟨i+1,by omega,by go_num,G.out.1,G.out.2⟩
            case measure=>simp[intOf];omega
        . obtain⟨yB,bs⟩:∃q,B i=some q:=lR.1 (zbA.2 a6)
          have ao:∃yL yR,L i=some yL/\R i=some yR/\BY yB.s yL.s yR.s=(y.s,true)/\BX yB.parent yL.parent yR.parent=(y.parent,true):=by
            rcases b7.out with⟨I,F⟩|⟨I,F⟩|⟨I,F⟩
            . have e:R i=some y:=by rw[<-F,Y]
              exact⟨y,y,by rw[I,e],e,by simp[BY],by simp[BX]⟩
            . have e:R i=some y:=by rw[<-F,Y]
              exact⟨yB,y,by rw[I,bs],e,by simp[BY],by simp[BX]⟩
            . have e:L i=some y:=by rw[<-F,Y]
              refine⟨y,yB,e,by rw[I,bs],?_,?_⟩
              . unfold BY
                by_cases q:y.s=yB.s<;>simp[q]
              . unfold BX
                by_cases q:y.parent=yB.parent<;>simp[q]
          obtain⟨yL,yR,cw,dc,c5,cu⟩:=ao
          have eb:=EB.out
          have el:=EL.out
          have er:=ER.out
          rw[bs]at g1 eb
          rw[cw]at g2 el
          rw[dc]at g3 er
          obtain rfl:D=yB:=eb
          obtain rfl:z=yL:=el
          obtain rfl:A=yR:=er
          have ff:eW (∀W,zM Tryz.prog 71 #[.string D.s, .string z.s, .string A.s] W λe w'=>e= .returned (.tuple #[.string y.s, .bool true])/\w'=W):=za λW=>by
            have:=Lk D.s z.s A.s W
            rwa [c5]at this
          have d5:eW (∀W,zM Tryz.prog 72 #[.int .i64 D.parent, .int .i64 z.parent, .int .i64 A.parent] W λe w'=>e= .returned (.tuple #[.int .i64 y.parent, .bool true])/\w'=W):=za λW=>by
            have:=LP D.parent z.parent A.parent W
            rwa [cu]at this
          clear c5 cu a6 Y cw dc bs
          have dj:=a.out.k.lt
          have bi:=a.out.t.lt
          have bg:=a.out.p.lt
          go_wp2_with (at_mapUpdate;rw[<-ce.out];refine yS rfl _ _ _ 65 4 rfl Tryz.underlying65 kb i _ rfl (Ae.below a.out.k f.out a.out.k.lt) (by simp[maxLen];omega) i rfl V ?_;intro C ac d;obtain⟨a0,a1,a2,a3,a4⟩:=yX ((yu d (by omega)).trans fc.out);obtain⟨b0,b1,b2,b3,b4⟩:=yX ((yu d (by omega)).trans b9.out);obtain⟨c0,c1,c2,c3,c4⟩:=yX ((yu d (by omega)).trans cz.out))
          refine(ff.out _).mono ?_
          rintro e P ⟨rfl,T⟩
          rw[T]
          clear T P
          go_wp2_with fail
          refine(d5.out _).mono ?_
          rintro e P ⟨rfl,T⟩
          rw[T]
          clear T P
          go_wp2_with fail
          have ad:C.cell? ⟨w.heap.size,0,none⟩=some (.pointer (some ⟨M,0,none⟩)):=yh d ((f.out.cell (p:=⟨w.heap.size,0,none⟩) m1).trans a5)
          have aa:C.cell? ⟨M,9,none⟩=some (.map (some tb)):=yh d ((f.out.cell (p:=⟨M,9,none⟩) k1).trans u9)
          have H:C.cell? ⟨M,10,none⟩=some (.map (some pb)):=yh d ((f.out.cell (p:=⟨M,10,none⟩) k1).trans u10)
          have ab:Ae C.drew tb i _:=(Ae.below a.out.t f.out bi).block (show C.heap[tb]?=W3.heap[tb]?from yu d (zap E.out.kt))
          have ae:Ae C.drew pb i _:=(Ae.below a.out.p f.out bg).block (show C.heap[pb]?=W3.heap[pb]?from yu d (zap E.out.kp))
          obtain⟨v0,v1,c7,cp,X1,X2,X3,J,c8,c9,de,da,v,o,j,m,ag,af⟩:=FW ab ae E.out.tp i V (by simp[maxLen];omega) (.string y.s) (.int .i64 y.parent)
          have S0:C.drew.cell? ⟨w.heap.size,0,none⟩=some (.pointer (some ⟨M,0,none⟩))/\C.drew.cell? ⟨M,9,none⟩=some (.map (some tb))/\C.drew.cell? ⟨M,10,none⟩=some (.map (some pb)):=⟨ad,aa,H⟩
          have S1:X1.cell? ⟨w.heap.size,0,none⟩=some (.pointer (some ⟨M,0,none⟩))/\X1.cell? ⟨M,9,none⟩=some (.map (some tb))/\X1.cell? ⟨M,10,none⟩=some (.map (some pb)):=⟨yh v S0.1,yh v S0.2.1,yh v S0.2.2⟩
          have S2:X2.cell? ⟨w.heap.size,0,none⟩=some (.pointer (some ⟨M,0,none⟩))/\X2.cell? ⟨M,9,none⟩=some (.map (some tb))/\X2.cell? ⟨M,10,none⟩=some (.map (some pb)):=⟨yh o S1.1,yh o S1.2.1,yh o S1.2.2⟩
          have S3:X3.cell? ⟨w.heap.size,0,none⟩=some (.pointer (some ⟨M,0,none⟩))/\X3.cell? ⟨M,9,none⟩=some (.map (some tb))/\X3.cell? ⟨M,10,none⟩=some (.map (some pb)):=⟨yh j S2.1,yh j S2.2.1,yh j S2.2.2⟩
          have S4:J.cell? ⟨w.heap.size,0,none⟩=some (.pointer (some ⟨M,0,none⟩))/\J.cell? ⟨M,9,none⟩=some (.map (some tb))/\J.cell? ⟨M,10,none⟩=some (.map (some pb)):=⟨yh m S3.1,yh m S3.2.1,yh m S3.2.2⟩
          have G:eW (KTP J kb tb pb (i+1) S/\Below U.heap.size W J):=za (by
            have bk:=E.out.kt
            have bp:=E.out.kp
            have e4:∀k,k≠tb->k≠pb->J.heap[k]?=C.heap[k]?:=λk I F=>(yu m F).trans ((yu j F).trans ((yu o I).trans ((yu v I).trans rfl)))
            have bc:Below U.heap.size wr C:=(f.out.mono (by omega)).trans (yE d (E.out.kn))
            refine⟨KTP.add cd.out (ac.block (e4 kb bk bp)) ag af,?_⟩
            exact Z.out.trans (bc.trans ((((((zt _ _).drew).trans (yE v E.out.tn)).trans (yE o E.out.tn)).trans (yE j E.out.pn)).trans (yE m E.out.pn))))
          clear ac d ab ae v o j m ag af a0 a1 a2 a3 a4 b0 b1 b2 b3 b4 c0 c1 c2 c3 c4 ad aa H g1 g2 g3 u0 u1 u2 u3 u4 u5 u6 u7 u8 u9 u10 a5
          go_region_held3 (λw'=>w'.cell? ⟨w.heap.size,0,none⟩=some (.pointer (some ⟨M,0,none⟩))/\w'.cell? ⟨M,9,none⟩=some (.map (some tb))/\w'.cell? ⟨M,10,none⟩=some (.map (some pb))) (assumption) (fail)
          go_wp2
          go_roundw
          case rel=>exact⟨i+1,by omega,by go_num,G.out.1,G.out.2⟩
          case measure=>simp[intOf];omega
    . obtain rfl:i=cnt:=by omega
      go_wp2
      go_end0
      have fd:w.grownBy wr (some M):=⟨Z.out.os.trans (E.out.grown.os.trans bd.out.os),Z.out.tape.trans (E.out.grown.tape.trans bd.out.tape),Z.out.output.trans (E.out.grown.output.trans bd.out.output),by have:=bd.out.size;omega,λk hk bt=>(Z.out.block k (by omega)).trans ((E.out.grown.block k (by omega) bt).trans (bd.out.block k hk))⟩
      exact⟨rfl,kb,tb,pb,dv.out,by have:=E.out.kn;omega,by have:=E.out.tn;omega,by have:=E.out.pn;omega,a.out.k,a.out.t,a.out.p,fd⟩
end Go.Proofs
