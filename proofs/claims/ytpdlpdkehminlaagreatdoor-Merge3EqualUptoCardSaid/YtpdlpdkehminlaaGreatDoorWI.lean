/-
  Part of the proof: The stable elements of three lists, and the parts between them.
-/
import Derived.Test.YtpdlpdkehminlaaGreatDoorWH
set_option linter.all false
set_option maxRecDepth 100000
set_option maxHeartbeats 20000000
open Bool renaming eq_false_or_eq_true->zN
open Go renaming Calls->zM,Value->zg,World->ze,bodyPost_ret->eG,frozen_of_row->zk,heap_alloc_new->zx,heap_setCell_same->zA,info_parts->iY,results_tmp2->iD,run_underlying->eT,wpList_append_own->ew
open Go.Builtin renaming append_->lG,firstCells->eK,lenOf->iJ
open Go.Instr renaming makeMap->za2
open Go.Lib renaming hid->za
open Go.RowKit renaming Hid->eW
open Go.RowKit.Below renaming refl->zt
open Go.Value renaming int->zX,oneCell'->ej
open Go.Value.slice renaming injEq->lg
open Go.World renaming cell?->zS,ownsRow_nil->ed
open Go.World.mapTurned renaming grown->ik
open Go.World.ownsRow renaming alloc->zy,cellAt->ep,form->om,kept->zF,lt->zE
open List renaming append_nil->iW,getElem?_append_left->eI,getElem?_append_right->en,getElem?_eq_getElem->zc,getElem?_eq_some_iff->zm,length_append->zT,length_filter_le->eL,length_take->iR,map_append->ip,mem_cons->zO,mem_filter->ie,mem_of_getElem?->zq,range->ev,take_add_one->z6,take_length->zY
open Nat renaming le_refl->zn,le_trans->zI,zero_add->eV
open Option.some renaming inj->eF
namespace Go.Proofs
open Go.RowKit Go.Maps Go.MapKept
open Classical
def PH(w:ze)(v:zg)(X Y Z:List (List Int)):Prop:=∃p c,v=.slice p X.length c/\∀i(x y z:List Int),X[i]?=some x->Y[i]?=some y->Z[i]?=some z->∃b off vx vy vz,p=some ⟨b,off,none⟩/\b<w.heap.size/\w.cell? ⟨b,off+i*3,none⟩=some vx/\w.cell? ⟨b,off+i*3+1,none⟩=some vy/\w.cell? ⟨b,off+i*3+2,none⟩=some vz/\yo w vx x/\yo w vy y/\yo w vz z
theorem PH.below{w wr:ze}{v:zg}{X Y Z:List (List Int)}(h:PH w v X Y Z)(hb:Below w.heap.size w wr):PH wr v X Y Z:=by obtain⟨p,c,rfl,h⟩:=h;refine⟨p,c,rfl,λi x y z hx hy hz=>?_⟩;obtain⟨b,d,j,n,q,e,a,f,l,o,g,m,k⟩:=h i x y z hx hy hz;exact⟨b,d,j,n,q,e,Nat.lt_of_lt_of_le a hb.size,(hb.cell (p:=⟨b,_,none⟩) a).trans f,(hb.cell (p:=⟨b,_,none⟩) a).trans l,(hb.cell (p:=⟨b,_,none⟩) a).trans o,g.below hb,m.below hb,k.below hb⟩
theorem Ub:(Tryz.prog.info? 181).map (λi=>(i.zero,i.size,i.bytes))=some (some (.agg #[.slice none 0 0,.slice none 0 0,.slice none 0 0]),3,72):=by kernel_rfl
theorem Cq{l o:List Int}(h:l.filter (λx=>decide (x∈o))=o):l.filter (λx=>@decide ((λx=>x∈o) x) (propDecidable _))=o:=by refine Eq.trans (List.filter_congr λx _=>?_) h;congr
theorem DB{l o:List Int}(h:l.filter (λx=>decide (x∈o))=o):(AE (λx=>x∈o) l).length=o.length+1:=by rw[BK];exact congrArg (λl=>List.length l+1) (Cq h)
theorem BQ(S:Int->Prop)(l:List Int):(B9 S l).length<=l.length:=eL _ _
theorem Mz (vb vl vr : zg) (b l r : List Int) (w : ze) (hb : yo w vb b) (hl : yo w vl l) (hr : yo w vr r) (nb : b.length ≤ 300) (nl : l.length ≤ 300) (nr : r.length ≤ 300) (fb : ∀ x ∈ b, yw x) (fl : ∀ x ∈ l, yw x) (fr : ∀ x ∈ r, yw x)
    (b' l' r' : List Int) (eb : b' = B9 (fun x => x ∈ AP b l r) (Ai b)) (el : l' = B9 (fun x => x ∈ AP b l r) (Ai l)) (er : r' = B9 (fun x => x ∈ AP b l r) (Ai r)) :
    zM Tryz.prog 163 #[vb, vl, vr] w fun e w' => ∃ u1 u2 S o, e = .returned (.tuple #[u1, u2]) ∧ yj w' w.heap.size u1 o ∧ PH w' u2 (AE S b') (AE S l') (AE S r') ∧ b'.filter (fun x => decide (S x)) = o ∧ l'.filter (fun x => decide (S x)) = o ∧ r'.filter (fun x => decide (S x)) = o ∧ Below w.heap.size w w' := by
  have j5 : b'.length ≤ 300 := by rw [eb]; have := BQ (fun x => x ∈ AP b l r) (Ai b); have := Aw b; omega
  have kj : l'.length ≤ 300 := by rw [el]; have := BQ (fun x => x ∈ AP b l r) (Ai l); have := Aw l; omega
  have j1 : r'.length ≤ 300 := by rw [er]; have := BQ (fun x => x ∈ AP b l r) (Ai r); have := Aw r; omega
  have fz : b'.Nodup := by rw [eb]; exact (DI b).filter _
  have g9 : l'.Nodup := by rw [el]; exact (DI l).filter _
  have gu : r'.Nodup := by rw [er]; exact (DI r).filter _
  have ck : ∀ x ∈ b', yw x := fun x H => fb x ((CN b x).1 (ie.1 (eb ▸ H)).1)
  have gi : ∀ x ∈ l', yw x := fun x H => fl x ((CN l x).1 (ie.1 (el ▸ H)).1)
  have ht : ∀ x ∈ r', yw x := fun x H => fr x ((CN r x).1 (ie.1 (er ▸ H)).1)
  have fk : ∀ x ∈ AP b l r, yw x := fun x H => by
    rcases NY.1 H with h | ⟨_, h | h⟩
    · exact fb x h.1
    · exact fl x h
    · exact fr x h
  have nk := N4 b l r
  have fh := za (Kt vb vl vr b l r w hb hl hr (by omega) (by omega) (by omega) fb fl fr)
  have fi : eW (∀ u W, yj W w.heap.size u (AP b l r) → zM Tryz.prog 138 #[u] W fun e w' => e = .returned (.map (some W.heap.size)) ∧ Bv w' W.heap.size (AP b l r).length (fun i => i ∈ AP b l r) ∧ Below W.heap.size W w') := za fun u W h => CL u _ W h.ints (by omega) fk
  have a9 : ∀ (v : zg) (x x' : List Int), yo w v x → x.length ≤ 300 → (∀ y ∈ x, yw y) → x' = B9 (fun y => y ∈ AP b l r) (Ai x) → eW (∀ W, Below w.heap.size w W → zM Tryz.prog 141 #[v] W fun e w' => ∃ u, e = .returned u ∧ yj w' W.heap.size u (Ai x) ∧ Below W.heap.size W w') ∧
      eW (∀ (u : zg) (B K n : Nat) (W : ze), yj W B u (Ai x) → Bv W K n (fun i => i ∈ AP b l r) → zM Tryz.prog 187 #[u, .map (some K)] W fun e w' => ∃ u', e = .returned u' ∧ yj w' W.heap.size u' x' ∧ Below W.heap.size W w') := by
    intro v x x' hv hn hf e
    refine ⟨za fun W h => E2 v x W (hv.below h) (by omega) hf, za fun u B K n W h1 h2 => ?_⟩
    rw [e]
    exact Oa u (Ai x) K n _ W h1.ints h2 (by have := Aw x; omega) (fun y hy => hf y ((CN x y).1 hy))
  obtain ⟨c9, cz⟩ := a9 vb b b' hb nb fb eb
  obtain ⟨c6, ds⟩ := a9 vl l l' hl nl fl el
  obtain ⟨d7, dn⟩ := a9 vr r r' hr nr fr er
  clear a9 eb el er hb hl hr
  go_enter Tryz.func163, Tryz.ntmps163
  go_wp2_with fail
  refine fh.out.mono ?_
  rintro e w1 ⟨uk, rfl, ff, ad⟩
  go_wp2_with fail
  refine (fi.out uk w1 ff).mono ?_
  rintro e w2 ⟨rfl, b9, dr⟩
  have C := ad.trans (dr.mono ad.size)
  go_wp2_with fail
  refine (c9.out w2 C).mono ?_
  rintro e w3 ⟨uo, rfl, dp, ce⟩
  have be : Bv w3 w1.heap.size _ _ := Ae.below b9 ce b9.lt
  have av := C.trans (ce.mono C.size)
  go_wp2_with fail
  refine (cz.out uo _ _ _ w3 dp be).mono ?_
  rintro e w4 ⟨ub, rfl, bp, cu⟩
  have b4 : Bv w4 w1.heap.size _ _ := Ae.below be cu be.lt
  have af := av.trans (cu.mono av.size)
  go_wp2_with fail
  refine (c6.out w4 af).mono ?_
  rintro e w5 ⟨g8, rfl, c5, bd⟩
  have bg : Bv w5 w1.heap.size _ _ := Ae.below b4 bd b4.lt
  have au := af.trans (bd.mono af.size)
  go_wp2_with fail
  refine (ds.out g8 _ _ _ w5 c5 bg).mono ?_
  rintro e w6 ⟨ul, rfl, bn, bj⟩
  have cm : Bv w6 w1.heap.size _ _ := Ae.below bg bj bg.lt
  have ae := au.trans (bj.mono au.size)
  go_wp2_with fail
  refine (d7.out w6 ae).mono ?_
  rintro e w7 ⟨g7, rfl, dx, aw⟩
  have da : Bv w7 w1.heap.size _ _ := Ae.below cm aw cm.lt
  have a5 := ae.trans (aw.mono ae.size)
  go_wp2_with fail
  refine (dn.out g7 _ _ _ w7 dx da).mono ?_
  rintro e E ⟨ur, rfl, bz, bc⟩
  have bu := a5.trans (bc.mono a5.size)
  have bq : yj E w3.heap.size ub b' := yy (yy (yy (yy bp bd) bj) aw) bc
  have bw : yj E w5.heap.size ul l' := yy (yy bn aw) bc
  have al := za bq
  have dz := za bw
  have d9 := za bz
  have cb := za bu
  clear ff b9 dp be bp b4 c5 bg bn cm dx da bq bw bz ad dr ce cu bd bj aw bc C av af au ae a5 bu c9 cz c6 ds d7 dn fh fi
  have hmk : ∀ W : ze, (za2 65 none).run Tryz.prog W = .ok (.map (some W.heap.size)) (W.alloc (.map #[] 0)) := fun W => run_makeMap _ W
  obtain ⟨w9, ao⟩ : ∃ w9, w9 = E.alloc (.map #[] 0) := ⟨_, rfl⟩
  have bi : Below E.heap.size E w9 := by rw [ao]; exact ya _
  have dm : Bv w9 E.heap.size 0 (fun x => x ∈ ([] : List Int)) := by
    rw [ao]
    exact Bv.congr (S := fun _ => False) ((B6 E).congr fun i => by simp) (fun i => by simp)
  have d5 : w9.heap.size = E.heap.size + 1 := by rw [ao]; simp
  have aj := za (GF ub ul b' l' _ _ w9 (yy al.out bi) (yy dz.out bi) (by omega) (by omega))
  have hs := cb.out.size
  go_wp2_with fail
  rw [← ao]
  refine aj.out.mono ?_
  rintro e b8 ⟨up, D, rfl, az, a0, a4⟩
  obtain ⟨pp, cp, rfl⟩ := yq az
  have dh := za az
  have br := za a0
  have dw := za (show Bv b8 E.heap.size 0 (fun x => x ∈ ([] : List Int)) from Ae.below dm a4 (by omega))
  have co : eW (Below E.heap.size E b8) := za (bi.trans (a4.mono (by omega)))
  have kl : D.length ≤ 300 := by have := a0.length; omega
  have d2 := za d5
  clear az a0 a4 dm bi aj ao d5
  obtain ⟨dq, c4, rfl⟩ := yq al.out
  go_wp2
  go_loopw [14, 47] (fun _ iv W => ∃ k : Nat, k ≤ D.length ∧ Bv W E.heap.size k (fun x => x ∈ EW b' (D.take k)) ∧ Ab W w9.heap.size (.slice pp D.length cp) D ∧ Below E.heap.size E W ∧ b8.heap.size ≤ W.heap.size ∧ iv = .int .i64 k) (fun _ iv _ => D.length - (intOf iv).toNat)
  case atStart => exact ⟨0, by omega, dw.out.congr (fun i => by simp [EW]), dh.out, co.out, zn _, rfl⟩
  case round =>
    obtain ⟨k, hk, aa, V, m, a1, rfl⟩ := hrel
    have d := za aa
    have s := za V
    have f := za m
    have P := za a1
    have L := yj.ints (base := w3.heap.size) (yy al.out m)
    clear aa V m a1
    by_cases cg : k < D.length
    · obtain ⟨q, hq⟩ : ∃ q, D[k]? = some q := ⟨D[k], zc cg⟩
      obtain ⟨g1, o1, rfl, hp, d0, d1⟩ := s.out.val.at (i := k) (x := ((q.1 : Int), (q.2 : Int))) (by simp [Hv, hq])
      obtain ⟨x, H, _⟩ := br.out.2 q (zq hq)
      obtain ⟨b1, o2, rfl, ad, c0⟩ := L.at H
      have ga := (zm.1 H).1
      have gz := ((ya (w := wr) (.cells #[.int .i64 (q.1 : Int), .int .i64 (q.2 : Int)] 51)).cell (p := ⟨b1, o2 + q.1, none⟩) ad).trans c0
      have an := ck x (zq H)
      have HV := za (Nh (a := b') hq)
      have HX := za (show b'[q.1]?.getD 0 = x by rw [H]; rfl)
      simp only at d0 d1
      clear H hq L c0
      go_wp2_with (at_mapUpdate; refine yS rfl _ _ _ 65 4 rfl Tryz.underlying65 E.heap.size k _ rfl (Ae.block d.out ((ya _).block E.heap.size d.out.lt)) (by simp [maxLen]; omega) x rfl an ?_; intro bh ci T)
      have ac := yU T
      go_roundw
      case rel =>
        refine ⟨k + 1, by omega, (Bv.add ci).congr (fun i => by rw [HV.out, HX.out]; simp [or_comm]), ?_, ?_, ?_, by go_num⟩
        · refine zF (zy s.out _) (ik T) ?_
          refine .inr fun e => ?_
          have := (zE s.out E.heap.size e).1
          have := d2.out
          omega
        · exact (f.out.trans ((ya _).mono f.out.size)).trans (yE T (zn _))
        · rw [ac, ye]
          have := P.out
          omega
      case measure => simp [intOf]; omega
    · obtain rfl : k = D.length := by omega
      clear L
      rw [zY] at d
      obtain ⟨I, fy⟩ : ∃ I : ze, I = wr := ⟨_, rfl⟩
      subst fy
      have ap : eW (E.heap.size < I.heap.size) := za (by have := d2.out; have := P.out; have := s.out; have h := d.out.lt; exact h)
      obtain ⟨Q, U⟩ : ∃ Q, Q = I.alloc (.map #[] 0) := ⟨_, rfl⟩
      have ay : Below I.heap.size I Q := by rw [U]; exact ya _
      have fg : Bv Q I.heap.size 0 (fun x => x ∈ ([] : List Int)) := by
        rw [U]
        exact Bv.congr (S := fun _ => False) ((B6 I).congr fun i => by simp) (fun i => by simp)
      have bx : Q.heap.size = I.heap.size + 1 := by rw [U]; simp
      have ah : Below E.heap.size E Q := f.out.trans (ay.mono (by have := f.out.size; omega))
      have a3 := za (GF (.slice dq b'.length c4) ur b' r' _ _ Q (yy al.out ah) (yy d9.out ah) (by omega) (by omega))
      go_wp2_with fail
      rw [← U]
      refine a3.out.mono ?_
      rintro e M ⟨kh, N, rfl, aq, a2, C⟩
      obtain ⟨g2, fx, rfl⟩ := yq aq
      have d6 := za aq
      have bo := za a2
      have dj := za (show Bv M I.heap.size 0 (fun x => x ∈ ([] : List Int)) from Ae.below fg C (by omega))
      have de := za (show Bv M E.heap.size D.length (fun x => x ∈ EW b' D) from Ae.below (Ae.below d.out ay ap.out) C (by have := ap.out; omega))
      have bs : eW (Below E.heap.size E M) := za (ah.trans (C.mono (by have := ap.out; omega)))
      have j0 : N.length ≤ 300 := by have := a2.length; omega
      have ag := za bx
      have a6 : eW (Q.heap.size ≤ M.heap.size) := za C.size
      clear aq a2 C fg ay a3 U bx ah d s f P
      obtain ⟨is, hi, hh, f4, gf⟩ := iY Br
      go_wp2
      go_loopw [16, 18, 19, 63] (fun u _ _ iv W => ∃ k : Nat, k ≤ N.length ∧ yj W M.heap.size u ((EW b' (N.take k)).filter fun x => decide (x ∈ EW b' D)) ∧ Bv W I.heap.size k (fun x => x ∈ (EW b' (N.take k)).filter fun x => decide (x ∈ EW b' D)) ∧ Ab W Q.heap.size (.slice g2 N.length fx) N ∧ Below I.heap.size M W ∧ M.heap.size ≤ W.heap.size ∧ iv = .int .i64 k) (fun _ _ _ iv _ => N.length - (intOf iv).toNat)
      case atStart => exact ⟨0, by omega, ed _ _ _ _, dj.out.congr (fun i => by simp [EW]), d6.out, zt _ _, zn _, rfl⟩
      case round =>
        obtain ⟨k, hk, bl, aa, V, m, a1, rfl⟩ := hrel
        have F := za bl
        have d := za aa
        have s := za V
        have f := za m
        have P := za a1
        have ak : eW (Below E.heap.size E wr) := za (bs.out.trans (m.mono (by have := ap.out; omega)))
        have L := yj.ints (base := w3.heap.size) (yy al.out ak.out)
        have b5 : eW (Bv wr E.heap.size D.length (fun x => x ∈ EW b' D)) := za (Ae.below de.out m ap.out)
        clear bl aa V m a1
        by_cases d8 : k < N.length
        · obtain ⟨q, hq⟩ : ∃ q, N[k]? = some q := ⟨N[k], zc d8⟩
          obtain ⟨g1, o1, rfl, hp, d0, d1⟩ := s.out.val.at (i := k) (x := ((q.1 : Int), (q.2 : Int))) (by simp [Hv, hq])
          obtain ⟨x, H, _⟩ := bo.out.2 q (zq hq)
          obtain ⟨b1, o2, rfl, ad, c0⟩ := L.at H
          have ga := (zm.1 H).1
          have gz := ((ya (w := wr) (.cells #[.int .i64 (q.1 : Int), .int .i64 (q.2 : Int)] 51)).cell (p := ⟨b1, o2 + q.1, none⟩) ad).trans c0
          have an := ck x (zq H)
          have HX := za (show b'[q.1]?.getD 0 = x by rw [H]; rfl)
          have HV : eW ((EW b' (N.take (k + 1))).filter (fun x => decide (x ∈ EW b' D)) = (EW b' (N.take k)).filter (fun x => decide (x ∈ EW b' D)) ++ (if x ∈ EW b' D then [x] else [])) := za (by
            rw [Nh hq, HX.out, List.filter_append]
            congr 1
            by_cases e : x ∈ EW b' D
            · simp [e]
            · simp [e])
          have fe : eW (Bv (wr.alloc (.cells #[.int .i64 (q.1 : Int), .int .i64 (q.2 : Int)] 51)) E.heap.size D.length (fun x => x ∈ EW b' D)) := za (Ae.below b5.out (ya _) b5.out.lt)
          have jq : ((EW b' (N.take k)).filter fun x => decide (x ∈ EW b' D)).length ≤ 300 := by
            have h1 := eL (fun x => decide (x ∈ EW b' D)) (EW b' (N.take k))
            unfold EW at h1 ⊢
            rw [List.length_map, iR] at h1
            omega
          simp only at d0 d1
          clear H hq L c0
          generalize (EW b' (N.take k)).filter (fun x => decide (x ∈ EW b' D)) = A at *
          by_cases e : x ∈ EW b' D
          · have f1 := fe.out.look_true an e
            rw [if_pos e] at HV
            clear e
            have d4 : eW (u16.ownBlock = none ∨ u16.ownBlock ≠ some I.heap.size) := za (by
              cases h : u16.ownBlock with
              | none => exact .inl rfl
              | some g =>
                refine .inr fun e => ?_
                have h1 := (zE F.out g h).1
                have h2 := a6.out
                have h3 := ag.out
                cases e
                omega)
            go_wp2_with (first
              | (at_mapUpdate; refine yS rfl _ _ _ 65 4 rfl Tryz.underlying65 I.heap.size k _ rfl (Ae.block d.out ((ya _).block I.heap.size d.out.lt)) (by simp [maxLen]; omega) x rfl an ?_; intro bh ci T)
              | (at_builtin; refine ew _ rfl _ _ 55 rfl M.heap.size 3 is (.int .i64 0) 1 8 Tryz.underlying55 hi hh f4 gf rfl (by decide) _ A.length (A.map (zX .i64)) rfl (zy (zF (zy F.out _) (ik T) d4.out) _) ⟨bh.heap.size, 0, none⟩ 1 1 [.int .i64 x] rfl rfl (AR _ _ _) (by simp [ej]) (by simp [maxLen]; omega) (by omega) (by rw [ye, yU T, ye]; have := P.out; omega) ?_; intro v' jy cr J gb))
            have ac := yU T
            have gk : Below I.heap.size M bh := (f.out.trans ((ya _).mono (by have := f.out.size; have := P.out; have := a6.out; have := ag.out; omega))).trans (yE T (zn _))
            go_roundw
            case rel =>
              refine ⟨k + 1, by omega, ?_, ?_, ?_, ?_, ?_, by go_num⟩
              · rw [HV.out]
                unfold yj
                rw [zT, ip]
                exact cr
              · refine Ae.block ((Bv.add ci).congr (fun i => by rw [HV.out]; simp [or_comm])) ?_
                refine (J.block I.heap.size (by rw [ye, ac, ye]; have := d.out.lt; omega) (fun e => ?_)).trans ((ya (w := bh) _).block I.heap.size (by rw [ac, ye]; have := d.out.lt; omega))
                rcases d4.out with h | h
                · replace e : some I.heap.size = u16.ownBlock := e
                  rw [h] at e
                  cases e
                · exact h e.symm
              · refine zF (zy (zF (zy s.out _) (ik T) ?_) _) J ?_
                · refine .inr fun e => ?_
                  have := (zE s.out I.heap.size e).1
                  have := ag.out
                  omega
                · exact DN s.out F.out (by decide)
              · refine yd (gk.trans ((ya _).mono (by rw [ac, ye]; have := d.out.lt; omega))) J (fun q e => by have := (zE F.out q e).1; have := a6.out; have := ag.out; omega) (by rw [ye, ac, ye]; have := d.out.lt; omega)
              · have h1 := J.size
                rw [ye, ac, ye] at h1
                have := P.out
                omega
            case measure => simp [intOf]; omega
          · have f1 := fe.out.look_false an e
            rw [if_neg e, iW] at HV
            clear e
            go_wp2
            go_roundw
            case rel =>
              refine ⟨k + 1, by omega, by rw [HV.out]; exact zy F.out _, Ae.mono (Ae.block (d.out.congr fun i => by rw [HV.out]) ((ya _).block I.heap.size d.out.lt)) (by omega), zy s.out _, f.out.trans ((ya _).mono (by have := d.out.lt; omega)), by rw [ye]; have := P.out; omega, by go_num⟩
            case measure => simp [intOf]; omega
        · obtain rfl : k = N.length := by omega
          clear L
          rw [zY] at d F
          have ar : eW (yj wr M.heap.size u16 (Cj b' D N)) := F
          have ab : eW (Bv wr I.heap.size N.length (fun x => x ∈ Cj b' D N)) := d
          clear F d
          obtain ⟨L1, L2, L3⟩ := OV fz g9 gu br.out bo.out
          have aj := za L1
          have a3 := za L2
          have du := za L3
          clear L1 L2 L3
          generalize Cj b' D N = O at *
          have fd := cb.out.trans (ak.out.mono hs)
          have c7 : eW (∀ W, Below wr.heap.size wr W → zM Tryz.prog 189 #[.slice dq b'.length c4, .map (some I.heap.size)] W fun e w' => ∃ u, e = .returned u ∧ BB w' u (AE (fun x => x ∈ O) b') ∧ Below W.heap.size W w') := za fun W h => G4 _ b' _ _ _ W ((yj.ints (base := w3.heap.size) (yy al.out ak.out)).below h) (Ae.below ab.out h ab.out.lt) (by omega) ck
          have cy : eW (∀ W, Below wr.heap.size wr W → zM Tryz.prog 189 #[ul, .map (some I.heap.size)] W fun e w' => ∃ u, e = .returned u ∧ BB w' u (AE (fun x => x ∈ O) l') ∧ Below W.heap.size W w') := za fun W h => G4 _ l' _ _ _ W ((yj.ints (base := w5.heap.size) (yy dz.out ak.out)).below h) (Ae.below ab.out h ab.out.lt) (by omega) gi
          have dy : eW (∀ W, Below wr.heap.size wr W → zM Tryz.prog 189 #[ur, .map (some I.heap.size)] W fun e w' => ∃ u, e = .returned u ∧ BB w' u (AE (fun x => x ∈ O) r') ∧ Below W.heap.size W w') := za fun W h => G4 _ r' _ _ _ W ((yj.ints (base := w7.heap.size) (yy d9.out ak.out)).below h) (Ae.below ab.out h ab.out.lt) (by omega) ht
          have a8 := za fd
          clear fd s f P b5
          go_wp2_with fail
          refine (c7.out _ (zt _ _)).mono ?_
          rintro e wa ⟨ua, rfl, dv, bb⟩
          go_wp2_with fail
          refine (cy.out _ bb).mono ?_
          rintro e wb ⟨jr, rfl, c8, b3⟩
          have ai := bb.trans (b3.mono bb.size)
          go_wp2_with fail
          refine (dy.out _ ai).mono ?_
          rintro e wc ⟨uc, rfl, cl, bf⟩
          have ax := ai.trans (bf.mono ai.size)
          have hX := (dv.below b3).below bf
          have hY := c8.below bf
          obtain ⟨pX, cX, rfl⟩ := hX.slice
          obtain ⟨pY, cY, rfl⟩ := hY.slice
          obtain ⟨pZ, cZ, rfl⟩ := cl.slice
          have b0 := DB aj.out
          have cc := DB a3.out
          have b6 := DB du.out
          have j4 : O.length ≤ 300 := by rw [← aj.out]; have := eL (fun x => decide (x ∈ O)) b'; omega
          have HX := za hX
          have HY := za hY
          have HZ := za cl
          have d3 : eW (Below w.heap.size w wc) := za (a8.out.trans (ax.mono a8.out.size))
          have dt : eW (yj wc w.heap.size u16 O) := za (Au (yy ar.out ax) (by have := a8.out.size; have := cb.out.size; have := bs.out.size; omega))
          clear dv bb c8 b3 ai cl bf ax hX hY c7 cy dy a8 ak ar ab
          have hc := za (Cq aj.out)
          have f6 := za (Cq a3.out)
          have f2 := za (Cq du.out)
          generalize dd : AE (fun x => x ∈ O) b' = X at *
          generalize df : AE (fun x => x ∈ O) l' = Y at *
          generalize dc : AE (fun x => x ∈ O) r' = Z at *
          have h0 := za dd
          have f5 := za df
          have fs := za dc
          have ca := za b0
          have hm := za cc
          have gr := za b6
          rw [b0] at HX ⊢
          rw [cc] at HY ⊢
          rw [b6] at HZ ⊢
          obtain ⟨ri, fu, g5, ha, gt⟩ := iY Ub
          clear dd df dc b0 cc b6
          go_wp2
          go_loopw [23, 24, 93] (fun u _ iv W => ∃ (i : Nat) (cs : List zg), i ≤ O.length + 1 ∧ W.ownsRow wc.heap.size 181 3 u i cs ∧ (∀ j (x y z : List Int), j < i → X[j]? = some x → Y[j]? = some y → Z[j]? = some z → ∃ vx vy vz, cs[j * 3]? = some vx ∧ cs[j * 3 + 1]? = some vy ∧ cs[j * 3 + 2]? = some vz ∧ yo wc vx x ∧ yo wc vy y ∧ yo wc vz z) ∧ Below wc.heap.size wc W ∧ iv = .int .i64 i) (fun _ _ iv _ => O.length + 1 - (intOf iv).toNat)
          case atStart => exact ⟨0, [], by omega, ed _ _ _ _, fun j x y z h => absurd h (by omega), zt _ _, by go_num⟩
          case round =>
            obtain ⟨i, cs, hi, bt, bm, m, rfl⟩ := hrel
            have G := za bt
            have bv := za bm
            have f := za m
            have fa := HX.out.below m
            have fc := HY.out.below m
            have di := HZ.out.below m
            clear bt bm m
            by_cases cd : i < O.length + 1
            · obtain ⟨x, H⟩ : ∃ x, X[i]? = some x := ⟨X[i]'(by rw [ca.out]; exact cd), zc _⟩
              obtain ⟨y, hy⟩ : ∃ y, Y[i]? = some y := ⟨Y[i]'(by rw [hm.out]; exact cd), zc _⟩
              obtain ⟨z, hz⟩ : ∃ z, Z[i]? = some z := ⟨Z[i]'(by rw [gr.out]; exact cd), zc _⟩
              obtain ⟨bX, oX, vx, e1, hg, c1, i1⟩ := HX.out.at H
              obtain ⟨bY, oY, vy, e2, g3, c2, i2⟩ := HY.out.at hy
              obtain ⟨bZ, oZ, vz, e3, gx, c3, i3⟩ := HZ.out.at hz
              subst e1 e2 e3
              obtain ⟨px, nx, rfl⟩ := i1.slice
              obtain ⟨py, ny, rfl⟩ := i2.slice
              obtain ⟨pz, nz, rfl⟩ := i3.slice
              have I1 := za i1
              have I2 := za i2
              have I3 := za i3
              have ka := (f.out.cell (p := ⟨bX, oX + i, none⟩) hg).trans c1
              have kf := (f.out.cell (p := ⟨bY, oY + i, none⟩) g3).trans c2
              have kb := (f.out.cell (p := ⟨bZ, oZ + i, none⟩) gx).trans c3
              have f8 := za H
              have fw := za hy
              have ge := za hz
              clear fa fc di i1 i2 i3 c1 c2 c3 H hy hz
              have hw : some bX ≠ u23.ownBlock := fun e => by have := (zE G.out bX e.symm).1; omega
              have f3 : some bY ≠ u23.ownBlock := fun e => by have := (zE G.out bY e.symm).1; omega
              have f9 : some bZ ≠ u23.ownBlock := fun e => by have := (zE G.out bZ e.symm).1; omega
              have jm := f.out.size
              go_wp2
              go_region_held3 (fun w' => w'.cell? ⟨bX, oX + i, none⟩ = some (.slice px x.length nx) ∧ w'.cell? ⟨bY, oY + i, none⟩ = some (.slice py y.length ny) ∧ w'.cell? ⟨bZ, oZ + i, none⟩ = some (.slice pz z.length nz))
                (first
                  | go_keep
                  | (go_split_ands
                     refine ⟨?_, ?_, ?_⟩
                     · (rw [R.cell_far _ (by simp; omega) hw]; assumption)
                     · (rw [R.cell_far _ (by simp; omega) f3]; assumption)
                     · (rw [R.cell_far _ (by simp; omega) f9]; assumption)))
                ((refine step_append_lies _ (by rfl) _ _ _ (by rfl) wc.heap.size 181 ri _ 3 72 Tryz.underlying197 fu g5 ha gt rfl (by omega) u23 i cs (by rfl) ((G.out.alloc _).drew)
                    ⟨wr.heap.size, 0, none⟩ 1 1 [.slice px x.length nx, .slice py y.length ny, .slice pz z.length nz] (by rfl) (by rfl) (World.news_of_block (cs := #[.slice px x.length nx, .slice py y.length ny, .slice pz z.length nz]) (t := 181) (fr := (0, 0)) (zx wr _)) (by simp [ej])
                    (by omega) (by simp [maxLen]; omega) (by omega) (by simp; omega) (wr.heap.size + 1) (by simp) ?_; intro gg gc kk cj R j6 h9))
              have ch : cs.length = i * 3 := G.out.1
              go_wp2
              go_roundw
              case rel =>
                refine ⟨i + 1, _, by omega, cj, fun j x' y' z' hj hx' hy' hz' => ?_, ?_, by go_num⟩
                · by_cases gv : j < i
                  · obtain ⟨vx, vy, vz, h1, h2, h3, h4⟩ := bv.out j x' y' z' gv hx' hy' hz'
                    exact ⟨vx, vy, vz, by rw [eI (by omega)]; exact h1, by rw [eI (by omega)]; exact h2, by rw [eI (by omega)]; exact h3, h4⟩
                  · obtain rfl : j = i := by omega
                    rw [f8.out] at hx'
                    rw [fw.out] at hy'
                    rw [ge.out] at hz'
                    cases hx'
                    cases hy'
                    cases hz'
                    refine ⟨_, _, _, ?_, ?_, ?_, I1.out, I2.out, I3.out⟩
                    · rw [en (by omega), ch, Nat.sub_self]
                      rfl
                    · rw [en (by omega), ch, show j * 3 + 1 - j * 3 = 1 by omega]
                      rfl
                    · rw [en (by omega), ch, show j * 3 + 2 - j * 3 = 2 by omega]
                      rfl
                · exact yd ((f.out.trans ((ya _).mono f.out.size)).drew) R (fun q e => (zE G.out q e).1) (by show wc.heap.size ≤ (wr.alloc _).heap.size; rw [ye]; omega)
              case measure => simp [intOf]; omega
            · obtain rfl : i = O.length + 1 := by omega
              clear fa fc di
              go_wp2
              refine eG (iD rfl _ _ _) rfl ⟨u16, u23, fun x => x ∈ O, O, rfl, yy dt.out f.out, ?_, hc.out, f6.out, f2.out, d3.out.trans (f.out.mono d3.out.size)⟩
              rw [h0.out, f5.out, fs.out]
              obtain ⟨p, c, e⟩ := yq G.out
              have ho := G.out
              rw [e] at ho ⊢
              obtain ⟨g, gc, e2, _, cg⟩ := om ho (by omega)
              cases e2
              refine ⟨_, _, by rw [ca.out], fun j x y z H hy hz => ?_⟩
              have hj : j < O.length + 1 := by rw [← ca.out]; exact (zm.1 H).1
              obtain ⟨vx, vy, vz, h1, h2, h3, h4, h5, h6⟩ := bv.out j x y z hj H hy hz
              refine ⟨g, 0, vx, vy, vz, rfl, cg, ?_, ?_, ?_, h4.below f.out, h5.below f.out, h6.below f.out⟩
              · rw [eV, ep ho _ (by omega)]
                exact h1
              · rw [eV, ep ho _ (by omega)]
                exact h2
              · rw [eV, ep ho _ (by omega)]
                exact h3
noncomputable def D3(x y z:List Int):Option (List Int):=if y=x then some z else if z=x\/y=z then some y else none
theorem RE{w:ze}{B:Nat}{x0 x1 x2:zg}{t:TypeId}{fz:Nat×Nat}(h:w.heap[B]?=some (.cells #[x0,x1,x2] t fz)):w.cell? ⟨B,0,none⟩=some x0/\w.cell? ⟨B,1,none⟩=some x1/\w.cell? ⟨B,2,none⟩=some x2:=by refine⟨?_,?_,?_⟩<;>(simp only[zS,h];rfl)
theorem IS(vx vy vz:zg)(x y z t:List Int)(w:ze)(hx:yo w vx x)(hy:yo w vy y)(hz:yo w vz z)(nx:x.length<=1000)(ny:y.length<=1000)(nz:z.length<=1000)(ht:D3 x y z=some t):zM Tryz.prog 164 #[.agg #[vx,vy,vz]] w λe w'=>∃u,e=.returned (.tuple #[u,.bool true])/\yo w' u t/\Below w.heap.size w w':=by
 obtain⟨Q,M,rfl⟩:=hx.slice;obtain⟨L,O,rfl⟩:=hy.slice;obtain⟨J,H,rfl⟩:=hz.slice;obtain⟨d,f⟩:∃d,d=w.alloc (.cells #[.slice Q x.length M,.slice L y.length O,.slice J z.length H] 181):=⟨_,rfl⟩
 have c:Below w.heap.size w d:=by rw[f];exact ya _
 have C:d.heap[w.heap.size]?=some (.cells #[.slice Q x.length M,.slice L y.length O,.slice J z.length H] 181 (0,0)):=by rw[f];exact zx _ _
 have I:d.heap.size=w.heap.size+1:=by rw[f];simp
 have o:=za (λW(h:Below d.heap.size d W)=>Dx _ _ y x W ((hy.below c).below h) ((hx.below c).below h) (by omega));have D:=za (λW(h:Below d.heap.size d W)=>Dx _ _ z x W ((hz.below c).below h) ((hx.below c).below h) (by omega));have G:=za (λW(h:Below d.heap.size d W)=>Dx _ _ y z W ((hy.below c).below h) ((hz.below c).below h) (by omega));have S:=za (hy.below c);have X:=za (hz.below c);have g:=za c;obtain⟨V,T,U⟩:=RE C;have A:eW (∀W,Below d.heap.size d W->W.cell? ⟨w.heap.size,0,none⟩=some (.slice Q x.length M)/\W.cell? ⟨w.heap.size,1,none⟩=some (.slice L y.length O)/\W.cell? ⟨w.heap.size,2,none⟩=some (.slice J z.length H)):=za λW h=>⟨(h.cell (p:=⟨w.heap.size,_,none⟩) (show w.heap.size<d.heap.size by omega)).trans V,(h.cell (p:=⟨w.heap.size,_,none⟩) (show w.heap.size<d.heap.size by omega)).trans T,(h.cell (p:=⟨w.heap.size,_,none⟩) (show w.heap.size<d.heap.size by omega)).trans U⟩
 have q:=za f;rw[f]at V T U;clear hx hy hz c C I f nx ny nz;by_cases v:y=x
 .have s:t=z:=by unfold D3 at ht;rw[if_pos v]at ht;exact(eF ht).symm
  subst s;have F:=za (decide_eq_true v);clear v ht;go_enter Tryz.func164,Tryz.ntmps164;go_wp2_with fail;rw[<-q.out];refine(o.out _ (zt _ _)).mono ?_;rintro e B ⟨rfl,a⟩;rw[F.out];obtain⟨j,l,k⟩:=A.out B a;go_wp2;exact eG (iD rfl _ _ _) rfl ⟨_,rfl,X.out.below a,g.out.trans (a.mono g.out.size)⟩
 .have s:(z=x\/y=z)/\t=y:=by
   unfold D3 at ht;rw[if_neg v]at ht;by_cases m:z=x\/y=z
   .rw[if_pos m]at ht;exact⟨m,(eF ht).symm⟩
   .rw[if_neg m]at ht;cases ht
  obtain⟨m,rfl⟩:=s;have F:=za (decide_eq_false v);clear v ht;by_cases E:z=x
  .have n:=za (decide_eq_true E);clear m E;go_enter Tryz.func164,Tryz.ntmps164;go_wp2_with fail;rw[<-q.out];refine(o.out _ (zt _ _)).mono ?_;rintro e B ⟨rfl,a⟩;rw[F.out];obtain⟨j,l,k⟩:=A.out B a;go_wp2_with fail;refine(D.out _ a).mono ?_;rintro e N ⟨rfl,r⟩;rw[n.out];have b:=a.trans (r.mono a.size);clear j l k;obtain⟨j,l,k⟩:=A.out N b;go_wp2;exact eG (iD rfl _ _ _) rfl ⟨_,rfl,S.out.below b,g.out.trans (b.mono g.out.size)⟩
  .have n:=za (decide_eq_false E);have R:=za (decide_eq_true (m.resolve_left E));clear m E;go_enter Tryz.func164,Tryz.ntmps164;go_wp2_with fail;rw[<-q.out];refine(o.out _ (zt _ _)).mono ?_;rintro e B ⟨rfl,a⟩;rw[F.out];obtain⟨j,l,k⟩:=A.out B a;go_wp2_with fail;refine(D.out _ a).mono ?_;rintro e N ⟨rfl,r⟩;rw[n.out];have b:=a.trans (r.mono a.size);clear j l k;obtain⟨j,l,k⟩:=A.out N b;go_wp2_with fail;refine(G.out _ b).mono ?_;rintro e Y ⟨rfl,P⟩;rw[R.out];have i:=b.trans (P.mono b.size);clear j l k;obtain⟨j,l,k⟩:=A.out Y i;go_wp2;exact eG (iD rfl _ _ _) rfl ⟨_,rfl,S.out.below i,g.out.trans (i.mono g.out.size)⟩
theorem FN(w:ze)(base:Nat)(t ty e:TypeId)(i:TypeInfo)(size:Nat)(ht:Tryz.prog.underlying t=some (.slice e))(hi:Tryz.prog.info? e=some i)(v:zg)(n c:Nat)(xs:List zg)(hown:w.ownsRow base e size v n xs):(lG #[t,t] ty #[v,.slice none 0 c]).run Tryz.prog w=.ok v w:=by
 obtain⟨_,hown⟩:=hown;rcases hown with⟨rfl,_⟩|⟨g,b,d,rfl,_,_,a,_⟩
 .simp[lG,eT ht,sizeOf,typeInfo,hi,iJ,eK]
 .simp[lG,eT ht,sizeOf,typeInfo,hi,iJ,eK,a,storeCells]
theorem Du{w:ze}{ops:Array Oper}{rest:List Oper}{o:Oper}{a:Act}{Q:Exit->Act->ze->Prop}(hgd:o.guard=none)(s x:Operand)(ho:o.op=.call {callee:=.builtin .append,args:=#[s,x],argTypes:=#[55,55]})(base:Nat)(v:zg)(l t:List Int)(p:Option Addr)(c:Nat)(hs:a.eval s=v)(hown:yj w base v l)(hx:a.eval x=.slice p t.length c)(hv:yo w (.slice p t.length c) t)(hl:l.length<=100000)(htl:t.length<=100000)(hb:base<=w.heap.size)(h:∀v' w',yj w' base v' (l++t)->w.grownBy w' v.ownBlock->wpList Tryz.prog ops Q rest (a.put o.dst v') w'):wpList Tryz.prog ops Q (o::rest) a w:=by
 obtain⟨r,q,k,n,i⟩:=iY Br;have g:∀d,p=some d->(∀j u,(t.map (zX .i64))[j]?=some u->w.cell? (d.add j)=some u)->wpList Tryz.prog ops Q (o::rest) a w:=by intro d e m;subst e;refine ew (P:=Tryz.prog) w hgd s x 55 ho base 3 r (.int .i64 0) 1 8 Tryz.underlying55 q k n i rfl (by decide) v l.length (l.map (zX .i64)) hs hown d t.length c (t.map (zX .i64)) hx (by simp) m (by simp[ej]) (by simp[maxLen];omega) (by omega) hb λv' w' h1 h2 _=>h v' w' ?_ h2;unfold yj;rw[zT,ip];exact h1
 rcases hv with⟨⟨D,C,e⟩,rfl⟩|⟨b,y,z,e,_,A,B⟩
 .cases e;cases p with
  |none=>refine wpList_plain hgd λK hK=>?_;have f:=FN w base 55 o.type 3 r 1 Tryz.underlying55 q v l.length c _ hown;unfold Oper.wp;simp[execOp,ho,resolve,invoke,builtin,hs,hx,f,Result.andThen];exact hK _ _ (h v w (by rw[iW];exact hown) ⟨rfl,rfl,rfl,zn _,λ_ _ _=>rfl⟩)
  |some d=>exact g d rfl (λj u h=>by simp at h)
 .cases e;exact g _ rfl (EG B)
theorem DU{α:Type}{b l r:α}(h:l=r\/r=b):Az b l r=l:=by unfold Az;exact if_pos h
theorem Lb{α:Type}{b l r:α}(h:¬(l=r\/r=b)):Az b l r=r:=by unfold Az;exact if_neg h
theorem JE{x y z:List Int}(h:y=x):D3 x y z=some z:=by unfold D3;exact if_pos h
theorem Mu{x y z:List Int}(h:y≠x)(h2:z=x\/y=z):D3 x y z=some y:=by unfold D3;rw[if_neg h];exact if_pos h2
theorem Na{S:Int->Prop}{b l r x y z:List Int}{i:Nat}(h3:l=r\/r=b\/l=b)(hx:(AE S b)[i]?=some x)(hy:(AE S l)[i]?=some y)(hz:(AE S r)[i]?=some z):∃t,D3 x y z=some t/\(AE S (Az b l r))[i]?=some t:=by
 by_cases a:l=r
 .rw[DU (.inl a)];subst a;rw[hy]at hz;cases hz;by_cases e:y=x
  .exact⟨y,JE e,hy⟩
  .exact⟨y,Mu e (.inr rfl),hy⟩
 by_cases c:r=b
 .rw[DU (.inr c)];subst c;rw[hx]at hz;cases hz;by_cases e:y=x
  .exact⟨x,JE e,by rw[hy,e]⟩
  .exact⟨y,Mu e (.inl rfl),hy⟩
 rw[Lb (λh=>h.elim a c)];obtain rfl:l=b:=(h3.resolve_left a).resolve_left c;rw[hx]at hy;cases hy;exact⟨z,JE rfl,hz⟩
theorem CZ{α:Type}{P:α->Prop}{b l r:α}(hl:P l)(hr:P r):P (Az b l r):=by
 unfold Az;split
 .exact hl
 .exact hr
theorem Jy:∀(ps:List (List Int))(o:List Int)(p:List Int),p∈ps->p.length<=(CQ ps o).length
 |[],_,p,h=>by cases h
 |q::ps,[],p,h=>by
  rw[CQ,zT];rcases zO.1 h with rfl|h
  .omega
  .have:=Jy ps [] p h;omega
 |q::ps,x::o,p,h=>by
  rw[CQ,zT,List.length_cons];rcases zO.1 h with rfl|h
  .omega
  .have:=Jy ps o p h;omega
theorem LO{S:Int->Prop}{l t:List Int}{i:Nat}(h:(AE S l)[i]?=some t):t.length<=l.length:=by have:=Jy _ (l.filter λx=>decide (S x)) t (zq h);rwa [Ko]at this
theorem RW(fv vb vl vr:zg)(b l r:List Int)(w:ze)(hb:yo w vb b)(hl:yo w vl l)(hr:yo w vr r)(nb:b.length<=300)(nl:l.length<=300)(nr:r.length<=300)(fb:∀x∈b,yw x)(fl:∀x∈l,yw x)(fr:∀x∈r,yw x)(b' l' r':List Int)(eb:b'=B9 (λx=>x∈AP b l r) (Ai b))(el:l'=B9 (λx=>x∈AP b l r) (Ai l))(er:r'=B9 (λx=>x∈AP b l r) (Ai r))(h3:l'=r'\/r'=b'\/l'=b'):zM Tryz.prog 139 #[vb,vl,vr,fv] w λe w'=>∃u,e=.returned (.tuple #[u,.bool true])/\yj w' w.heap.size u (Az b' l' r')/\Below w.heap.size w w':=by
 have be:b'.length<=300:=by rw[eb];have:=BQ (λx=>x∈AP b l r) (Ai b);have:=Aw b;omega
 have am:l'.length<=300:=by rw[el];have:=BQ (λx=>x∈AP b l r) (Ai l);have:=Aw l;omega
 have ab:r'.length<=300:=by rw[er];have:=BQ (λx=>x∈AP b l r) (Ai r);have:=Aw r;omega
 have HD:=za (Mz vb vl vr b l r w hb hl hr nb nl nr fb fl fr b' l' r' eb el er);have H3:=za h3;clear hb hl hr eb el er h3 fb fl fr;go_enter Tryz.func139,Tryz.ntmps139;go_wp2_with fail;refine HD.out.mono ?_;rintro e g ⟨u1,u2,S,o,rfl,N,U,f1,f2,f3,H⟩;have s:(AE S b').length=o.length+1:=by rw[BK,f1]
 have al:(AE S l').length=o.length+1:=by rw[BK,f2]
 have ak:(AE S r').length=o.length+1:=by rw[BK,f3]
 have b3:o.length<=300:=by rw[<-f1];have:=eL (λx=>decide (S x)) b';omega
 have ax:eW (∀i x y z,(AE S b')[i]?=some x->(AE S l')[i]?=some y->(AE S r')[i]?=some z->∃t,D3 x y z=some t/\(AE S (Az b' l' r'))[i]?=some t):=za λi x y z=>Na H3.out;have bh:(Az b' l' r').length<=300:=CZ (P:=λx:List Int=>x.length<=300) am ab;have D:eW ((Az b' l' r').filter (λx=>decide (S x))=o):=za (CZ (P:=λx:List Int=>x.filter (λx=>decide (S x))=o) f2 f3);have HW:eW (CQ (AE S (Az b' l' r')) o=Az b' l' r'):=za (by have:=Ko S (Az b' l' r');rwa [D.out]at this);have ae:eW ((AE S (Az b' l' r')).length=o.length+1):=za (by rw[BK,D.out]);have ar:eW (∀(i:Nat)(t:List Int),(AE S b')[i]?=some t->t.length<=300):=za λi t h=>zI (LO h) be;have a2:eW (∀(i:Nat)(t:List Int),(AE S l')[i]?=some t->t.length<=300):=za λi t h=>zI (LO h) am;have a5:eW (∀(i:Nat)(t:List Int),(AE S r')[i]?=some t->t.length<=300):=za λi t h=>zI (LO h) ab;have bl:eW (∀(i:Nat)(t:List Int),(AE S (Az b' l' r'))[i]?=some t->t.length<=300):=za λi t h=>zI (LO h) bh;generalize af:Az b' l' r'=TT at*;generalize br:AE S b'=X at*;generalize a4:AE S l'=Y at*;generalize bp:AE S r'=Z at*;generalize bb:AE S TT=C at*;have bf:=za af;have R:=za U;have ad:=za N;have ac:=za H;have au:=za s;have a6:=za al;have a7:=za ak;obtain⟨pp,cp,rfl,_⟩:=U;obtain⟨po,co,rfl⟩:=yq N;rw[s];rw[s]at R;clear af br a4 bp bb f1 f2 f3 D N H s al ak;obtain⟨is,hi,bn,ay,a9⟩:=iY Br;have aj:=ac.out.size;go_wp2;go_loopw [12,13,15,16,26] (λu _ _ _ iv W=>∃i:Nat,i<=o.length+1/\yj W g.heap.size u (Cb C o i)/\(Cb C o i).length<=i*301/\Below g.heap.size g W/\iv=.int .i64 i) (λ_ _ _ _ iv _=>o.length+1-(intOf iv).toNat)
 case atStart=>exact⟨0,by omega,ed _ _ _ _,by simp[Cb],zt _ _,by go_num⟩
 case round=>
  obtain⟨i,b9,B,bw,k,rfl⟩:=hrel;have d:=za B;have m:=za k;have HP:=za (R.out.below k);have J:=yj.ints (base:=w.heap.size) (yy ad.out k);clear B k;by_cases G:i<o.length+1
  .obtain⟨x,hx⟩:∃x,X[i]?=some x:=⟨X[i]'(by rw[au.out];exact G),zc _⟩
   obtain⟨y,hy⟩:∃y,Y[i]?=some y:=⟨Y[i]'(by rw[a6.out];exact G),zc _⟩
   obtain⟨z,hz⟩:∃z,Z[i]?=some z:=⟨Z[i]'(by rw[a7.out];exact G),zc _⟩
   obtain⟨t,ht,E⟩:=ax.out i x y z hx hy hz;obtain⟨p',c',e',V⟩:=HP.out;simp only[lg]at e';obtain⟨rfl,bd,rfl⟩:=e';clear bd;obtain⟨b1,o1,vx,vy,vz,rfl,H,c0,c1,c2,i1,i2,i3⟩:=V i x y z hx hy hz;have ck:=bl.out i t E;have a1:=za i1;have aw:=za i2;have bq:=za i3;have HT:=za ht;have ci:=ar.out i x hx;have b6:=a2.out i y hy;have cm:=a5.out i z hz;have A:eW (Cb C o (i+1)=Cb C o i++t++o[i]?.toList):=za (by rw[Pu,E,List.append_assoc];rfl);obtain⟨px,nx,rfl⟩:=i1.slice;obtain⟨py,ny,rfl⟩:=i2.slice;obtain⟨pz,nz,rfl⟩:=i3.slice;have bs:eW (∀W,Below wr.heap.size wr W->zM Tryz.prog 164 #[.agg #[.slice px x.length nx,.slice py y.length ny,.slice pz z.length nz]] W λe w'=>∃u,e=.returned (.tuple #[u,.bool true])/\yo w' u t/\Below W.heap.size W w'):=za λW h=>IS _ _ _ x y z t W (a1.out.below h) (aw.out.below h) (bq.out.below h) (by omega) (by omega) (by omega) HT.out;clear hx hy hz ht E V i1 i2 i3;go_wp2_with fail;refine(bs.out _ (ya _)).mono ?_;rintro e w3 ⟨ut,rfl,F,ag⟩;obtain⟨pt,ct,rfl⟩:=F.slice;have f:Below wr.heap.size wr w3:=(ya _).trans (ag.mono (by rw[ye];omega));have Q:=za F;have ah:=za f;have T:eW (yj w3 g.heap.size u12 (Cb C o i)):=za (yy d.out f);have bc:=za (J.below f);have j:g.heap.size<=w3.heap.size:=zI m.out.size f.size;clear F ag f J;by_cases L:i<o.length
   .obtain⟨a,ha⟩:∃a,o[i]?=some a:=⟨o[i],zc L⟩
    obtain⟨bo,oo,rfl,bj,d0⟩:=bc.out.at ha;have O:=za (show o[i]?.toList=[a] by rw[ha];rfl);have a0:decide (i<o.length)=true:=by simpa using L
    have bg:eW (some bo≠u12.ownBlock):=za (λe=>by have h1:=(zE ad.out bo rfl).2;have h2:=(zE d.out bo e.symm).1;omega);clear ha;go_wp2_with (at_builtin;first
     |(refine Du rfl _ _ rfl g.heap.size u12 (Cb C o i) t pt ct rfl T.out rfl Q.out (by omega) (by omega) j ?_;intro v4 w4 c n;obtain⟨p4,c4,rfl⟩:=yq c;unfold yj at c;rw[zT]at c;have cl:=(World.cell?_of_block (a:=⟨bo,oo+i,none⟩) (n.block bo bj (λe=>bg.out e))).trans d0)
     |(refine ew _ rfl _ _ 55 rfl g.heap.size 3 is (.int .i64 0) 1 8 Tryz.underlying55 hi bn ay a9 rfl (by decide) _ ((Cb C o i).length+t.length) ((Cb C o i++t).map (zX .i64)) rfl (zy c _) ⟨w4.heap.size,0,none⟩ 1 1 [.int .i64 a] rfl rfl (AR _ _ _) (by simp[ej]) (by simp[maxLen];omega) (by omega) (by rw[ye];have:=n.size;omega) ?_;intro v5 w5 M v bm))
    have I:Below g.heap.size g w3:=m.out.trans (ah.out.mono m.out.size);have p:Below g.heap.size g w4:=yd I n (λq e=>(zE d.out q e).1) j;go_roundw
    case rel=>
     refine⟨i+1,by omega,?_,?_,?_,by go_num⟩
     .rw[A.out,O.out];unfold yj;rw[zT,zT,ip];exact M
     .rw[A.out,O.out];simp;omega
     .exact yd (p.trans ((ya _).mono p.size)) v (λq e=>(zE c q e).1) (by rw[ye];have:=p.size;omega)
    case measure=>simp[intOf];omega
   .have O:=za (show o[i]?.toList=[] by rw[List.getElem?_eq_none (by omega)];rfl);have a0:decide (i<o.length)=false:=by simpa using L
    go_wp2_with (at_builtin;refine Du rfl _ _ rfl g.heap.size u12 (Cb C o i) t pt ct rfl T.out rfl Q.out (by omega) (by omega) j ?_;intro v4 w4 c n;obtain⟨p4,c4,rfl⟩:=yq c);have I:Below g.heap.size g w3:=m.out.trans (ah.out.mono m.out.size);have p:Below g.heap.size g w4:=yd I n (λq e=>(zE d.out q e).1) j;go_roundw
    case rel=>
     refine⟨i+1,by omega,?_,?_,p,by go_num⟩
     .rw[A.out,O.out,iW];unfold yj at c⊢;rw[zT]at c⊢;exact c
     .rw[A.out,O.out];simp;omega
    case measure=>simp[intOf];omega
  .obtain rfl:i=o.length+1:=by omega
   clear J;go_wp2;refine eG (iD rfl _ _ _) rfl ⟨u12,rfl,?_,ac.out.trans (m.out.mono aj)⟩;have h:=d.out;rw[<-ae.out,G7 _ _ (by rw[ae.out];omega),HW.out]at h;rw[bf.out];exact Au h aj
def Agree{α:Type}(b l r:α):Prop:=l=r\/r=b\/l=b
theorem KQ{b l r:List Int}(h:Agree b l r)(y:Int):y∈AP b l r↔y∈Az b l r:=by
 rw[NY];by_cases c:l=r
 .rw[DU (.inl c)];subst c;by_cases a:y∈b<;>simp[a]
 by_cases d:r=b
 .rw[DU (.inr d)];subst d;by_cases a:y∈r<;>simp[a]
 rw[Lb (λh=>h.elim c d)];obtain rfl:l=b:=(h.resolve_left c).resolve_left d;by_cases a:y∈l<;>simp[a]
theorem GX{S:Int->Prop}{l:List Int}(hn:l.Nodup)(h:∀x∈l,S x):B9 S (Ai l)=l:=by rw[Hb hn];exact List.filter_eq_self.2 λx hx=>by simpa using h x hx
theorem RF{b l r:List Int}(h:Agree b l r)(hl:l.Nodup)(hr:r.Nodup):Agree (B9 (λx=>x∈AP b l r) (Ai b)) (B9 (λx=>x∈AP b l r) (Ai l)) (B9 (λx=>x∈AP b l r) (Ai r))/\Az (B9 (λx=>x∈AP b l r) (Ai b)) (B9 (λx=>x∈AP b l r) (Ai l)) (B9 (λx=>x∈AP b l r) (Ai r))=Az b l r:=by
 have c:=KQ h;by_cases f:l=r
 .have a:Az b l r=l:=DU (.inl f);rw[a]at c⊢;subst f;refine⟨.inl rfl,?_⟩;rw[DU (.inl rfl)];exact GX hl λx a=>(c x).2 a
 by_cases d:r=b
 .have a:Az b l r=l:=DU (.inr d);rw[a]at c⊢;subst d;refine⟨.inr (.inl rfl),?_⟩;rw[DU (.inr rfl)];exact GX hl λx a=>(c x).2 a
 have a:Az b l r=r:=Lb (λh=>h.elim f d);rw[a]at c⊢;obtain rfl:l=b:=(h.resolve_left f).resolve_left d;have g:B9 (λx=>x∈AP l l r) (Ai r)=r:=GX hr λx a=>(c x).2 a;refine⟨.inr (.inr rfl),?_⟩;rw[g];by_cases e:B9 (λx=>x∈AP l l r) (Ai l)=r
 .rw[DU (.inl e)];exact e
 .by_cases i:r=B9 (λx=>x∈AP l l r) (Ai l)
  .exact absurd i.symm e
  .exact Lb (λh=>h.elim e i)
theorem Fy(vb vl vr:zg)(b l r:List Int)(w:ze)(hb:yo w vb b)(hl:yo w vl l)(hr:yo w vr r)(nb:b.length<=300)(nl:l.length<=300)(nr:r.length<=300)(fb:∀x∈b,yw x)(fl:∀x∈l,yw x)(fr:∀x∈r,yw x)(dl:l.Nodup)(dr:r.Nodup)(h3:Agree b l r):zM Tryz.prog 112 #[vb,vl,vr] w λe w'=>∃u,e=.returned (.tuple #[u,.bool true])/\yj w' w.heap.size u (Az b l r)/\Below w.heap.size w w':=by
 obtain⟨m,o⟩:=RF h3 dl dr;have q:=za (RW (.func (.func 146) #[] #[]) vb vl vr b l r w hb hl hr nb nl nr fb fl fr _ _ _ rfl rfl rfl m);rw[o]at q;have i:(Az b l r).Nodup:=CZ (P:=λx:List Int=>x.Nodup) dl dr;have s:(Az b l r).length<=300:=CZ (P:=λx:List Int=>x.length<=300) nl nr;have k:∀x∈Az b l r,yw x:=CZ (P:=λy:List Int=>∀x∈y,yw x) fl fr;have p:eW ((AP b l r).length=(Az b l r).length):=za (J8 (Oo _ _ _) i (KQ h3));have v:eW (∀W,Below w.heap.size w W->zM Tryz.prog 113 #[vb,vl,vr] W λe w'=>∃u,e=.returned u/\yj w' W.heap.size u (AP b l r)/\Below W.heap.size W w'):=za λW h=>Kt vb vl vr b l r W (hb.below h) (hl.below h) (hr.below h) (by omega) (by omega) (by omega) fb fl fr;have B:eW (∀u W,yj W w.heap.size u (Az b l r)->zM Tryz.prog 141 #[u] W λe w'=>∃u,e=.returned u/\yj w' W.heap.size u (Az b l r)/\Below W.heap.size W w'):=za λu W h=>by have:=E2 u _ W h.ints (by omega) k;rwa [Hb i]at this
 clear hb hl hr m o fb fl fr dl dr h3 i k;generalize Az b l r=TT at*;go_enter Tryz.func112,Tryz.ntmps112;go_wp2_with fail;refine q.out.mono ?_;rintro e t ⟨u1,rfl,c,f⟩;obtain⟨D,I,rfl⟩:=yq c;go_wp2_with fail;refine(B.out _ t c).mono ?_;rintro e C ⟨u2,rfl,j,d⟩;obtain⟨J,G,rfl⟩:=yq j;have a:=f.trans (d.mono f.size);go_wp2_with fail;refine(v.out C a).mono ?_;rintro e F ⟨u3,rfl,n,g⟩;obtain⟨E,H,rfl⟩:=yq n;rw[p.out];have z:=za (yy (yy c d) g);have A:=za (a.trans (g.mono a.size));clear c j n f d g a;go_wp2;exact eG (iD rfl _ _ _) rfl ⟨_,rfl,z.out,A.out⟩
theorem LI(vb vl vr:zg)(pk:Option Addr)(nk ck:Nat)(b l r:List Int)(w:ze)(hb:yo w vb b)(hl:yo w vl l)(hr:yo w vr r)(nb:b.length<=300)(nl:l.length<=300)(nr:r.length<=300)(fb:∀x∈b,yw x)(fl:∀x∈l,yw x)(fr:∀x∈r,yw x)(dl:l.Nodup)(dr:r.Nodup)(h3:Agree b l r):zM Tryz.prog 111 #[vb,vl,vr,.slice pk nk ck] w λe w'=>∃u,e=.returned (.tuple #[u,.bool true])/\yj w' w.heap.size u (Az b l r)/\Below w.heap.size w w':=by have a:=ya (w:=w) (.cells #[.slice pk nk ck] 22);have g:=za (Fy vb vl vr b l r _ (hb.below a) (hl.below a) (hr.below a) nb nl nr fb fl fr dl dr h3);have c:=za a;clear hb hl hr h3 a;go_enter Tryz.func111,Tryz.ntmps111;go_wp2_with fail;refine g.out.mono ?_;rintro e h ⟨u1,rfl,d,f⟩;go_wp2;exact eG (iD rfl _ _ _) rfl ⟨_,rfl,Au d c.out.size,c.out.trans (f.mono c.out.size)⟩
theorem D9(w:ze)(A B C:Obj):(((w.alloc A).alloc B).alloc C).heap[w.heap.size]?=some A/\(((w.alloc A).alloc B).alloc C).heap[w.heap.size+1]?=some B/\(((w.alloc A).alloc B).alloc C).heap[w.heap.size+2]?=some C/\Below w.heap.size w (((w.alloc A).alloc B).alloc C)/\(((w.alloc A).alloc B).alloc C).heap.size=w.heap.size+3:=by
 have h:=zx (w.alloc A) B;rw[ye]at h;have a:=zx ((w.alloc A).alloc B) C;rw[ye,ye]at a;refine⟨?_,?_,a,(ya _).trans ((ya _).mono (by simp)|>.trans ((ya _).mono (by simp;omega))),by simp⟩
 .exact((ya (w:=(w.alloc A).alloc B) C).block _ (by simp;omega)).trans (((ya (w:=w.alloc A) B).block _ (by simp)).trans (zx _ _))
 .exact((ya (w:=(w.alloc A).alloc B) C).block _ (by simp)).trans h
theorem yi{w:ze}{B:Nat}{x0 x1 x2 x3:zg}{t:TypeId}{fz:Nat×Nat}(h:w.heap[B]?=some (.cells #[x0,x1,x2,x3] t fz)):w.cell? ⟨B,0,none⟩=some x0/\w.cell? ⟨B,1,none⟩=some x1/\w.cell? ⟨B,2,none⟩=some x2/\w.cell? ⟨B,3,none⟩=some x3:=by refine⟨?_,?_,?_,?_⟩<;>(simp only[zS,h];rfl)
theorem MW(tb tl tr:T)(gb kb gl kl gr kr lv rv:zg)(l r:List (Int×Int))(w:ze)(hb:tb.Lies w gb kb)(hl:tl.Lies w gl kl)(hr:tr.Lies w gr kr)(hlv:Ao w lv l)(hrv:Ao w rv r)(sb:tb.size<=60)(sl:tl.size<=300)(sr:tr.size<=300)(bb:tb.bulk<=1048576)(bl:tl.bulk<=1048576)(br:tr.bulk<=1048576)(nl:l.length<=1000)(nr:r.length<=1000)(fl:∀p∈l,yw p.2)(fr:∀p∈r,yw p.2)(c1:Aj tb.k tl.k (tb.rows 0 (-1)) (tl.rows 0 (-1)) l=0)(c2:Aj tb.k tr.k (tb.rows 0 (-1)) (tr.rows 0 (-1)) r=0)(ol:PM (tl.rows 0 (-1)) (yQ l) tb.size)(or:PM (tr.rows 0 (-1)) (yQ r) tb.size)(h3:(tl=tr/\l=r)\/(∀x,x<tl.size->(GQ (tl.rows 0 (-1)) (yQ l) x).2=false)\/(∀y,y<tr.size->(GQ (tr.rows 0 (-1)) (yQ r) y).2=false)):zM Tryz.prog 20 #[yJ tb.k tb.s gb kb,yJ tl.k tl.s gl kl,yJ tr.k tr.s gr kr,lv,rv] w λe w'=>∃u1 u2 u3 R cnt,e=.returned (.tuple #[.agg #[u1,u2,u3,.int .i64 cnt],.int .i64 0])/\yj w' w.heap.size u1 ((ev tb.size).map λi=>((i:Nat):Int))/\yj w' w.heap.size u2 (BR (yQ l) tb.size tl.size).1/\yj w' w.heap.size u3 R/\((tl=tr/\l=r/\R=(BR (yQ l) tb.size tl.size).1/\cnt=(BR (yQ l) tb.size tl.size).2)\/(¬(tl=tr/\l=r)/\(R,cnt)=BR (yQ r) (BR (yQ l) tb.size tl.size).2 tr.size))/\Below w.heap.size w w':=by
 obtain⟨aw,av,rfl⟩:=hb.kids.slice;obtain⟨ax,au,rfl⟩:=hb.gaps.slice;obtain⟨a8,bf,rfl⟩:=hl.kids.slice;obtain⟨bd,ba,rfl⟩:=hl.gaps.slice;obtain⟨ay,a5,rfl⟩:=hr.kids.slice;obtain⟨a6,bc,rfl⟩:=hr.gaps.slice;obtain⟨pl,cl,rfl⟩:=hlv.slice;obtain⟨pr,cr,rfl⟩:=hrv.slice;have gw:(tl.rows 0 (-1)).length=tl.size:=T.length_rows _ _ _;have gi:(tr.rows 0 (-1)).length=tr.size:=T.length_rows _ _ _;obtain⟨P0,P1,P2,di,ge⟩:=D9 w (.cells #[.int .i64 tb.k,.string tb.s,.slice ax tb.g.length au,.slice aw tb.ks.length av] 25) (.cells #[.int .i64 tl.k,.string tl.s,.slice bd tl.g.length ba,.slice a8 tl.ks.length bf] 25) (.cells #[.int .i64 tr.k,.string tr.s,.slice a6 tr.g.length bc,.slice ay tr.ks.length a5] 25);obtain⟨w1,cj⟩:∃w1,w1=(((w.alloc (.cells #[.int .i64 tb.k,.string tb.s,.slice ax tb.g.length au,.slice aw tb.ks.length av] 25)).alloc (.cells #[.int .i64 tl.k,.string tl.s,.slice bd tl.g.length ba,.slice a8 tl.ks.length bf] 25)).alloc (.cells #[.int .i64 tr.k,.string tr.s,.slice a6 tr.g.length bc,.slice ay tr.ks.length a5] 25)).alloc (.cells #[.slice none 0 0,.slice none 0 0,.slice none 0 0,.int .i64 0] 57):=⟨_,rfl⟩
 have g5:Below w.heap.size w w1:=by rw[cj];exact di.trans ((ya _).mono (by omega))
 have cf:w1.heap.size=w.heap.size+4:=by rw[cj,ye,ge]
 have P3:w1.heap[w.heap.size+3]?=some (.cells #[.slice none 0 0,.slice none 0 0,.slice none 0 0,.int .i64 0] 57 (0,0)):=by rw[cj,<-ge];exact zx _ _
 have Q0:=((ya (w:=((w.alloc (.cells #[.int .i64 tb.k,.string tb.s,.slice ax tb.g.length au,.slice aw tb.ks.length av] 25)).alloc (.cells #[.int .i64 tl.k,.string tl.s,.slice bd tl.g.length ba,.slice a8 tl.ks.length bf] 25)).alloc (.cells #[.int .i64 tr.k,.string tr.s,.slice a6 tr.g.length bc,.slice ay tr.ks.length a5] 25)) (.cells #[.slice none 0 0,.slice none 0 0,.slice none 0 0,.int .i64 0] 57)).block w.heap.size (by omega)).trans P0;have Q1:=((ya (w:=((w.alloc (.cells #[.int .i64 tb.k,.string tb.s,.slice ax tb.g.length au,.slice aw tb.ks.length av] 25)).alloc (.cells #[.int .i64 tl.k,.string tl.s,.slice bd tl.g.length ba,.slice a8 tl.ks.length bf] 25)).alloc (.cells #[.int .i64 tr.k,.string tr.s,.slice a6 tr.g.length bc,.slice ay tr.ks.length a5] 25)) (.cells #[.slice none 0 0,.slice none 0 0,.slice none 0 0,.int .i64 0] 57)).block (w.heap.size+1) (by omega)).trans P1;have Q2:=((ya (w:=((w.alloc (.cells #[.int .i64 tb.k,.string tb.s,.slice ax tb.g.length au,.slice aw tb.ks.length av] 25)).alloc (.cells #[.int .i64 tl.k,.string tl.s,.slice bd tl.g.length ba,.slice a8 tl.ks.length bf] 25)).alloc (.cells #[.int .i64 tr.k,.string tr.s,.slice a6 tr.g.length bc,.slice ay tr.ks.length a5] 25)) (.cells #[.slice none 0 0,.slice none 0 0,.slice none 0 0,.int .i64 0] 57)).block (w.heap.size+2) (by omega)).trans P2;rw[<-cj]at Q0 Q1 Q2;clear P0 P1 P2 di ge;have dr:eW (∀W,Below w1.heap.size w1 W->W.heap[w.heap.size]?=some (.cells #[.int .i64 tb.k,.string tb.s,.slice ax tb.g.length au,.slice aw tb.ks.length av] 25 (0,0))/\W.heap[w.heap.size+1]?=some (.cells #[.int .i64 tl.k,.string tl.s,.slice bd tl.g.length ba,.slice a8 tl.ks.length bf] 25 (0,0))/\W.heap[w.heap.size+2]?=some (.cells #[.int .i64 tr.k,.string tr.s,.slice a6 tr.g.length bc,.slice ay tr.ks.length a5] 25 (0,0))/\W.heap[w.heap.size+3]?=some (.cells #[.slice none 0 0,.slice none 0 0,.slice none 0 0,.int .i64 0] 57 (0,0))):=za λW h=>⟨(h.block _ (by omega)).trans Q0,(h.block _ (by omega)).trans Q1,(h.block _ (by omega)).trans Q2,(h.block _ (by omega)).trans P3⟩
 have h4:eW (∀W,Below w1.heap.size w1 W->W.cell? ⟨w.heap.size+1,0,none⟩=some (.int .i64 tl.k)/\W.cell? ⟨w.heap.size+1,1,none⟩=some (.string tl.s)/\W.cell? ⟨w.heap.size+1,2,none⟩=some (.slice bd tl.g.length ba)/\W.cell? ⟨w.heap.size+1,3,none⟩=some (.slice a8 tl.ks.length bf)/\W.cell? ⟨w.heap.size+2,0,none⟩=some (.int .i64 tr.k)/\W.cell? ⟨w.heap.size+2,1,none⟩=some (.string tr.s)/\W.cell? ⟨w.heap.size+2,2,none⟩=some (.slice a6 tr.g.length bc)/\W.cell? ⟨w.heap.size+2,3,none⟩=some (.slice ay tr.ks.length a5)):=za λW h=>by obtain⟨_,B1,B2,_⟩:=dr.out W h;obtain⟨b0,b1,b2,b3⟩:=yi B1;obtain⟨e0,e1,e2,e3⟩:=yi B2;exact⟨b0,b1,b2,b3,e0,e1,e2,e3⟩
 have m5:=za g5;have ns:=za cf;have aa:eW (∀W,Below w1.heap.size w1 W->Below w.heap.size w W):=za λW h=>g5.trans (h.mono (by omega));have h9:eW (∀W,Below w1.heap.size w1 W->zM Tryz.prog 19 #[yJ tb.k tb.s (.slice ax tb.g.length au) (.slice aw tb.ks.length av),yJ tl.k tl.s (.slice bd tl.g.length ba) (.slice a8 tl.ks.length bf),.slice pl l.length cl] W λe w'=>e=.returned (.int .i64 0)/\Below W.heap.size W w'):=za λW h=>by have:=BJ tb tl _ _ _ _ _ l W (T.Lies.below (aa.out W h) tb hb) (T.Lies.below (aa.out W h) tl hl) (hlv.below (aa.out W h)) (by omega) sl bb bl nl;rwa [c1]at this
 have h6:eW (∀W,Below w1.heap.size w1 W->zM Tryz.prog 19 #[yJ tb.k tb.s (.slice ax tb.g.length au) (.slice aw tb.ks.length av),yJ tr.k tr.s (.slice a6 tr.g.length bc) (.slice ay tr.ks.length a5),.slice pr r.length cr] W λe w'=>e=.returned (.int .i64 0)/\Below W.heap.size W w'):=za λW h=>by have:=BJ tb tr _ _ _ _ _ r W (T.Lies.below (aa.out W h) tb hb) (T.Lies.below (aa.out W h) tr hr) (hrv.below (aa.out W h)) (by omega) sr bb br nr;rwa [c2]at this
 have h7:eW (∀W,Below w1.heap.size w1 W->zM Tryz.prog 35 #[yJ tl.k tl.s (.slice bd tl.g.length ba) (.slice a8 tl.ks.length bf),.slice pl l.length cl] W λe w'=>∃p c M,e=.returned (.agg #[.slice p (tl.rows 0 (-1)).length c,.map (some M)])/\W.heap.size+2<=M/\yP w' (W.heap.size+2) (λ_=>False) (.slice p (tl.rows 0 (-1)).length c) (tl.rows 0 (-1))/\Am w' M l.length (yQ l)/\Below W.heap.size W w'):=za λW h=>by have:=Ic tl _ _ _ l W (T.Lies.below (aa.out W h) tl hl) (hlv.below (aa.out W h)) (by omega) bl nl fl;rwa [<-gw]at this
 have je:eW (∀W,Below w1.heap.size w1 W->zM Tryz.prog 35 #[yJ tr.k tr.s (.slice a6 tr.g.length bc) (.slice ay tr.ks.length a5),.slice pr r.length cr] W λe w'=>∃p c M,e=.returned (.agg #[.slice p (tr.rows 0 (-1)).length c,.map (some M)])/\W.heap.size+2<=M/\yP w' (W.heap.size+2) (λ_=>False) (.slice p (tr.rows 0 (-1)).length c) (tr.rows 0 (-1))/\Am w' M r.length (yQ r)/\Below W.heap.size W w'):=za λW h=>by have:=Ic tr _ _ _ r W (T.Lies.below (aa.out W h) tr hr) (hrv.below (aa.out W h)) (by omega) br nr fr;rwa [<-gi]at this
 have j8:eW (∀W,Below w1.heap.size w1 W->tb.Lies W (.slice ax tb.g.length au) (.slice aw tb.ks.length av)):=za λW h=>T.Lies.below (aa.out W h) tb hb;have H3:=za h3;have OL:=za ol;have OR:=za or;have ap:=za gw;have du:=za gi;clear hb hl hr hlv hrv fl fr c1 c2 ol or h3 g5 Q0 Q1 Q2 P3 gw gi;go_enter Tryz.func20,Tryz.ntmps20;go_wp2_with fail;rw[<-cj];clear cj;refine(h9.out _ (zt _ _)).mono ?_;rintro e w2 ⟨rfl,an⟩;obtain⟨A0,A1,A2,A3⟩:=dr.out w2 an;obtain⟨a0,a1,a2,a3⟩:=yi A0;obtain⟨d0,d1,d2,d3⟩:=yi A2;go_wp2_with fail;refine(h6.out _ an).mono ?_;rintro e w3 ⟨rfl,di⟩;have c6:=an.trans (di.mono an.size);clear a0 a1 a2 a3 d0 d1 d2 d3 A0 A1 A2 A3;go_wp2;have ft:=za c6;clear an di c6;refine wp_region_any (by kernel_rfl) ?_;refine Xy (w1:=w1) (bl:=w.heap.size+1) (br:=w.heap.size+1+1) (rsl:=tl.rows 0 (-1)) (rsr:=tr.rows 0 (-1)) (nl:=l.length) (nr:=r.length) (gl:=yQ l) (gr:=yQ r) (λW h=>?_) (λW h=>?_) h7.out je.out (w3:=w3.drew) ft.out.drew ?_
 .obtain⟨b0,b1,b2,b3,_⟩:=h4.out W h;exact⟨b0,b1,b2,b3⟩
 .obtain⟨_,_,_,_,b0,b1,b2,b3⟩:=h4.out W h;exact⟨b0,b1,b2,b3⟩
 intro nf nq nn nc B1 h1 p1 c1 M1 B2 h2 p2 c2 M2 hu jr W0 hW cf dv ml c6 b9 cc;obtain⟨rsl,bg⟩:∃rs,rs=tl.rows 0 (-1):=⟨_,rfl⟩
 obtain⟨rsr,ds⟩:∃rs,rs=tr.rows 0 (-1):=⟨_,rfl⟩
 rw[<-bg]at cf b9 ap OL H3⊢;rw[<-ds]at dv cc du OR H3⊢;generalize Ru p1 rsl.length c1 M1=v47;generalize Ru p2 rsr.length c2 M2=v50;have hmk:∀W:ze,(za2 67 none).run Tryz.prog W=.ok (.map (some W.heap.size)) (W.alloc (.map #[] 0)):=λW=>run_makeMap _ W;obtain⟨W1,cg⟩:∃W1,W1=W0.alloc (.map #[] 0):=⟨_,rfl⟩
 have gy:=ya (w:=W0) (.map #[] 0);rw[<-cg]at gy;have jf:Am W1 W0.heap.size 0 (λ_=>none):=by rw[cg];exact Am.made W0
 have ad:W1.heap.size=W0.heap.size+1:=by rw[cg,ye]
 have HK:eW (∀W,W1.grownBy W (some W0.heap.size)->W.heap[hu]?=some (.cells #[.slice p1 rsl.length c1,.map (some M1)] 87 (0,0))/\W.heap[jr]?=some (.cells #[.slice p2 rsr.length c2,.map (some M2)] 87 (0,0))/\GH W p1 c1 M1 l.length rsl (yQ l)/\GH W p2 c2 M2 r.length rsr (yQ r)/\Below W0.heap.size W0 W/\Below w1.heap.size w1 W):=za λW h=>by have hb:Below W0.heap.size W0 W:=yd gy h (λk e=>by cases e;exact zn _) (by omega);refine⟨(hb.block _ (yz b9)).trans b9,(hb.block _ (yz cc)).trans cc,cf.at.below hb,dv.at.below hb,hb,hW.trans (hb.mono hW.size)⟩
 have jt:eW (tl=tr/\l=r->rsl=rsr):=za λh=>by rw[bg,ds,h.1]
 have ff:eW (∀x,x<rsl.length->∃p t,Seg rsl x p t/\t.size<=300):=za λx hx=>by
  have m7:x<tl.size:=by rw[<-ap.out];exact hx
  obtain⟨q,u,hs,_⟩:=Seg.find tl _ 0 (-1) (Seg.root tl) x (Nat.zero_le _) (by omega);refine⟨q,u,by rw[bg];exact hs,?_⟩;have:=hs.le;rw[T.length_rows]at this;omega
 have fx:eW (tl=tr/\l=r->∀gt:Int->Option Int,AQ rsl (yQ l) gt rsl.length->∀y:Nat,y<rsl.length->yQ l y=none->gt y=some (y:Int)):=za λ_ gt h y hy hg=>by have j:rsl.length=tl.size:=ap.out;rw[j]at h hy;rw[bg]at h;exact AQ.all h y hy hg
 have jx:rsl.length<=300:=by rw[ap.out];exact sl
 have j4:rsr.length<=300:=by rw[du.out];exact sr
 have ci:=za jf;have na:=za ad;have jj:=za (HK.out W1 ⟨rfl,rfl,rfl,zn _,λ_ _ _=>rfl⟩);obtain⟨ja,ma⟩:=And.intro jj.out.1 jj.out.2.1;obtain⟨q0,q1⟩:=yD ja;have ch:=za (And.intro cf.at dv.at);clear cf dv b9 cc gy jf ad ft hW ja ma h7 je h9 h6 bg ds;rw[cg]at q0 q1;go_wp2;rw[<-cg];clear cg;go_loopw [55] (λiv W=>∃(x nT:Nat)(gt:Int->Option Int),x<=rsl.length/\iv=.int .i64 x/\W1.grownBy W (some W0.heap.size)/\Am W W0.heap.size nT gt/\nT<=x*300/\((tl=tr/\l=r/\AQ rsl (yQ l) gt x)\/(¬(tl=tr/\l=r)/\gt=λ_=>none))) (λiv _=>rsl.length-(intOf iv).toNat)
 case atStart=>
  refine⟨0,0,λ_=>none,by omega,rfl,⟨rfl,rfl,rfl,zn _,λ_ _ _=>rfl⟩,ci.out,by omega,?_⟩;by_cases hC:tl=tr/\l=r
  .exact .inl ⟨hC.1,hC.2,AQ.start _ _⟩
  .exact .inr ⟨hC,rfl⟩
 case round=>
  obtain⟨x,nT,gt,hx,rfl,A,fk,hz,h8⟩:=hrel;obtain⟨V,U,dj,ah,fb,bi⟩:=HK.out wr A;have n:=za A;have P:=za fk;have da:=za h8;have dz:=za hz;have ao:=za V;have ac:=za U;clear A fk h8 hz;by_cases g3:x<rsl.length
  .have gu:=za (JL p1 c1 M1 l.length rsl (yQ l) x wr dj g3 (by omega) (λr hr=>by have:=OL.out.par x r hr;omega));have k7:=za dj;have ji:=za ah;obtain⟨q0,q1⟩:=yD V;clear V U dj ah fb bi;rcases zN (GQ rsl (yQ l) x).2 with ht|ht
   .have HT:=za ht;clear ht;go_wp2_with fail;refine gu.out.mono ?_;rintro e w5 ⟨rfl,ce⟩;rw[HT.out];have fj:=(ce.block _ (yz ac.out)).trans ac.out;obtain⟨e0,e1⟩:=yD fj;clear fj;have cm:=za ce;clear ce;generalize h0:(GQ rsl (yQ l) x).1=pp;have kd:=za h0;clear h0;have d8:=za ((cm.out.block _ (yz ao.out)).trans ao.out);have bk:=za ((cm.out.block _ (yz ac.out)).trans ac.out);have ca:=za (ji.out.below cm.out);have H:=za (P.out.below cm.out P.out.lt);have dn:eW (W1.grownBy w5 (some W0.heap.size)):=za (yc n.out (yM cm.out));have fp:eW (Below W0.heap.size W0 w5):=za ((HK.out w5 dn.out).2.2.2.2.1);clear ao ac k7 ji P n cm gu q0 q1;go_wp2_with fail;by_cases hC:tl=tr/\l=r
    .have c4:=jt.out hC;have dh:yQ r=yQ l:=by rw[hC.2]
     have f8:eW (AQ rsl (yQ l) gt x):=za (by
      rcases da.out with⟨_,_,h⟩|⟨h,_⟩
      .exact h
      .exact absurd hC h)
     have HC:=za hC;rw[<-c4]at bk ca ch e0⊢;rw[dh]at ca ch;clear dh hC c4;obtain⟨ps,ts,d9,j9⟩:=ff.out x g3;have g6:=za d9;clear d9;go_loopw [69] (λjv W=>∃y:Nat,y<=x/\jv=.int .i64 y/\Below w5.heap.size w5 W) (λjv _=>x+1-(intOf jv).toNat)
     case atStart=>exact⟨0,by omega,rfl,zt _ _⟩
     case round=>
      obtain⟨y,hy,rfl,hb⟩:=hrel;have HB:=za hb;have aq:=(hb.block _ (yz d8.out)).trans d8.out;have Q:=(hb.block _ (yz bk.out)).trans bk.out;obtain⟨m0,m1⟩:=yD aq;obtain⟨o0,o1⟩:=yD Q;have dp:y<rsl.length:=by omega
      have S:yw (y:Int):=Bg (by omega) (by omega);have ah:=ca.out.below hb;have hM:=H.out.below hb H.out.lt;have df:=za (JL p2 c2 M2 r.length rsl (yQ l) y wr ah dp (by omega) (λr' hr'=>by have:=OL.out.par y r' hr';omega));have mu:=za ah;have g4:=za hM;have ao:=za aq;have ac:=za Q;clear hb aq Q ah hM;by_cases kw:y<x
      .rcases zN (GQ rsl (yQ l) y).2 with hq|hq
       .have jq:gt y=some (y:Int):=by obtain⟨p',t',kz,_⟩:=ff.out y dp;exact f8.out.taken kw hq kz
        have ae:=g4.out.look_some S jq;have HQ:=za hq;clear hq jq;go_wp2_with fail;refine df.out.mono ?_;rintro e w7 ⟨rfl,am⟩;rw[HQ.out];generalize(GQ rsl (yQ l) y).1=qq;go_wp2_with fail;go_roundw
        case rel=>exact⟨y+1,by omega,by go_num,HB.out.trans (am.mono HB.out.size)⟩
        case measure=>simp[intOf];omega
       .have ae:=g4.out.look_ok S;generalize(gt (y:Int)).getD 0=g0 at ae;generalize(gt (y:Int)).isSome=g1 at ae;have HQ:=za hq;clear hq;go_wp2_with fail;refine df.out.mono ?_;rintro e w7 ⟨rfl,am⟩;rw[HQ.out];generalize(GQ rsl (yQ l) y).1=qq;go_wp2_with fail;go_roundw
        case rel=>exact⟨y+1,by omega,by go_num,HB.out.trans (am.mono HB.out.size)⟩
        case measure=>simp[intOf];omega
      .obtain rfl:y=x:=by omega
       have ae:=g4.out.look_none S (f8.out.fresh HT.out);go_wp2_with fail;refine df.out.mono ?_;rintro e w7 ⟨rfl,am⟩;rw[HT.out,kd.out];have aq:=(am.block _ (yz ao.out)).trans ao.out;have Q:=(am.block _ (yz ac.out)).trans ac.out;obtain⟨m8,ny⟩:=yD aq;obtain⟨nh,ne⟩:=yD Q;have gq:Below w5.heap.size w5 w7:=HB.out.trans (am.mono HB.out.size);have b8:Below W0.heap.size W0 w7:=fp.out.trans (gq.mono fp.out.size);have kn:=za (GW p1 c1 M1 l.length p2 c2 M2 r.length rsl (yQ l) (by omega) ts y ps w7 g6.out (EQ HT.out).1 ⟨ch.out.1.below b8,ch.out.2.below b8⟩);have jk:=za gq;have fg:=za aq;have fc:=za Q;have fe:=za b8;clear am aq Q gq b8;go_wp2_with fail;refine kn.out.mono ?_;rintro e w8 ⟨rfl,dq⟩;have aq:=(dq.block _ (yz fg.out)).trans fg.out;have Q:=(dq.block _ (yz fc.out)).trans fc.out;obtain⟨mf,mi⟩:=yD aq;obtain⟨mo,mh⟩:=yD Q;have gk:Below w5.heap.size w5 w8:=jk.out.trans (dq.mono jk.out.size);have fs:Below W0.heap.size W0 w8:=fe.out.trans (dq.mono fe.out.size);have mb:=dz.out;have kv:=za (Od p1 c1 M1 l.length p2 c2 M2 r.length rsl (yQ l) (by omega) W0.heap.size W0 ⟨ch.out.1,ch.out.2⟩ (zn _) ts y ps w8 nT gt g6.out (EQ HT.out).1 fs (H.out.below gk H.out.lt) (by omega));have kt:eW (W1.grownBy w8 (some W0.heap.size)):=za (yc dn.out (yM gk));clear dq aq Q gk fs mb;go_wp2_with fail;refine kv.out.mono ?_;rintro e w9 ⟨rfl,mc,kj⟩;go_wp2_with fail;go_roundw
       case rel=>exact⟨y+1,nT+ts.size,_,by omega,by go_num,yc kt.out kj,mc,by have:=dz.out;omega,.inl ⟨HC.out.1,HC.out.2,f8.out.more HT.out g6.out⟩⟩
       case measure=>simp[intOf];omega
    .have kh:eW (∀y,y<rsr.length->(GQ rsr (yQ r) y).2=false):=za λy hy=>by
      rcases H3.out with h|h|h
      .exact absurd h hC
      .have h1:=h x (by rw[<-ap.out];exact g3);have h2:=HT.out;rw[h1]at h2;cases h2
      .exact h y (by rw[<-du.out];exact hy)
     have f7:=za hC;clear hC;go_loopw [69] (λjv W=>∃y:Nat,y<=rsr.length/\jv=.int .i64 y/\Below w5.heap.size w5 W) (λjv _=>rsr.length-(intOf jv).toNat)
     case atStart=>exact⟨0,by omega,rfl,zt _ _⟩
     case round=>
      obtain⟨y,hy,rfl,hb⟩:=hrel;have HB:=za hb;have Q:=(hb.block _ (yz bk.out)).trans bk.out;obtain⟨o0,o1⟩:=yD Q;by_cases dp:y<rsr.length
      .have S:yw (y:Int):=Bg (by omega) (by omega);have ah:=ca.out.below hb;have hM:=H.out.below hb H.out.lt;have df:=za (JL p2 c2 M2 r.length rsr (yQ r) y wr ah dp (by omega) (λr' hr'=>by have:=OR.out.par y r' hr';omega));have ae:=hM.look_ok S;generalize(gt (y:Int)).getD 0=g0 at ae;generalize(gt (y:Int)).isSome=g1 at ae;have HQ:=za (kh.out y dp);clear hb Q ah hM;go_wp2_with fail;refine df.out.mono ?_;rintro e w7 ⟨rfl,am⟩;rw[HQ.out];generalize(GQ rsr (yQ r) y).1=qq;go_wp2_with fail;go_roundw
       case rel=>exact⟨y+1,by omega,by go_num,HB.out.trans (am.mono HB.out.size)⟩
       case measure=>simp[intOf];omega
      .obtain rfl:y=rsr.length:=by omega
       clear hb Q;go_wp2_with fail;go_roundw
       case rel=>
        refine⟨x+1,nT,gt,by omega,by go_num,yc dn.out (yM HB.out),H.out.below HB.out H.out.lt,by have:=dz.out;omega,?_⟩;rcases da.out with⟨h1,h2,h3⟩|h
        .exact absurd ⟨h1,h2⟩ f7.out
        .exact .inr h
       case measure=>simp[intOf];omega
   .have HT:=za ht;clear ht;go_wp2_with fail;refine gu.out.mono ?_;rintro e w5 ⟨rfl,ce⟩;rw[HT.out];go_wp2;go_roundw
    case rel=>
     refine⟨x+1,nT,gt,by omega,by go_num,yc n.out (yM ce),P.out.below ce P.out.lt,by have:=dz.out;omega,?_⟩;rcases da.out with⟨h1,h2,h3⟩|h
     .exact .inl ⟨h1,h2,h3.skip HT.out⟩
     .exact .inr h
    case measure=>simp[intOf];omega
  .obtain rfl:x=rsl.length:=by omega
   obtain⟨W2,f9⟩:∃W2,W2=wr.alloc (.cells #[.slice none 0 0,.slice none 0 0,.slice none 0 0,.int .i64 0] 57):=⟨_,rfl⟩
   have b7:=ya (w:=wr) (.cells #[.slice none 0 0,.slice none 0 0,.slice none 0 0,.int .i64 0] 57);have de:=zx wr (.cells #[.slice none 0 0,.slice none 0 0,.slice none 0 0,.int .i64 0] 57);have Y:=ye wr (.cells #[.slice none 0 0,.slice none 0 0,.slice none 0 0,.int .i64 0] 57);rw[<-f9]at b7 de Y;have an:Below w1.heap.size w1 W2:=bi.trans (b7.mono bi.size);obtain⟨A0,_,_,_⟩:=dr.out W2 an;obtain⟨a0,a1,a2,a3⟩:=yi A0;have k9:=za (OB tb _ _ W2 (j8.out W2 an) sb);have ju:=za an;have c7:=za b7;have dm:=za de;have gh:=za Y;rw[f9]at a0 a1 a2 a3;have gp:=bi.size;have dc:=dj;have dk:=ah;clear V U dj ah fb bi A0 b7 de Y an;go_wp2_with fail;rw[<-f9];refine k9.out.mono ?_;rintro e w6 ⟨rfl,c5⟩;obtain⟨B,hB⟩:∃B,B=wr.heap.size:=⟨_,rfl⟩
   rw[<-hB]at dm gh⊢;have ki:B<w6.heap.size:=by have:=c5.size;have:=gh.out;omega
   have ar:=c7.out.trans (c5.mono c7.out.size);have j7:=za ((c5.block B (by have:=gh.out;omega)).trans dm.out);have J:=za (ju.out.trans (c5.mono ju.out.size));have gs:=dc.below ar;have gn:=dk.below ar;have bu:=(ar.block _ (yz ao.out)).trans ao.out;have bw:=(ar.block _ (yz ac.out)).trans ac.out;have b4:=P.out.below ar P.out.lt;have fm:=yz ao.out;have fq:=yz ac.out;have jd:=P.out.lt;have hw:=dc.map.lt;have jw:=dk.map.lt;rw[<-hB]at fm fq jd hw jw;have bh:eW (∀W,w6.grownBy W (some B)->W.heap[hu]?=some (.cells #[.slice p1 rsl.length c1,.map (some M1)] 87 (0,0))/\W.heap[jr]?=some (.cells #[.slice p2 rsr.length c2,.map (some M2)] 87 (0,0))/\Am W M1 l.length (yQ l)/\Am W M2 r.length (yQ r)/\Am W W0.heap.size nT gt):=za λW h=>⟨(h.block _ (yz bu) (by simp;omega)).trans bu,(h.block _ (yz bw) (by simp;omega)).trans bw,Ae.block gs.map (h.block _ gs.map.lt (by simp;omega)),Ae.block gn.map (h.block _ gn.map.lt (by simp;omega)),Ae.block b4 (h.block _ b4.lt (by simp;omega))⟩
   have d6:eW (w1.heap.size<=B):=za (by rw[hB];exact gp);clear hB c5 ar gs gn bu bw b4 dc dk fm fq jd hw jw ao ac P c7 dm n;obtain⟨is,hi,a7,ad,Y⟩:=iY Br;go_wp2;go_loopw [112] (λiv W=>∃(k:Nat)(u:zg),k<=tb.size/\iv=.int .i64 k/\W.heap[B]?=some (.cells #[u,.slice none 0 0,.slice none 0 0,.int .i64 k] 57 (0,0))/\yj W w6.heap.size u ((ev k).map λi=>((i:Nat):Int))/\w6.grownBy W (some B)) (λiv _=>tb.size-(intOf iv).toNat)
   case atStart=>exact⟨0,.slice none 0 0,by omega,rfl,j7.out,ed _ _ _ _,⟨rfl,rfl,rfl,zn _,λ_ _ _=>rfl⟩⟩
   case round=>
    obtain⟨k,u,hk,rfl,O,G,A⟩:=hrel;have z:=za O;have d:=za G;have n:=za A;have I:=A.size;obtain⟨d0,d1,d2,d3⟩:=yi O;clear O G A;by_cases m3:k<tb.size
    .
     have j:((ev k).map λi=>((i:Nat):Int)).length=k:=by simp
     go_wp2_with (at_builtin;refine ew _ rfl _ _ 55 rfl w6.heap.size 3 is (.int .i64 0) 1 8 Tryz.underlying55 hi a7 ad Y rfl (by decide) _ ((ev k).map λi=>((i:Nat):Int)).length (((ev k).map λi=>((i:Nat):Int)).map (zX .i64)) rfl (zy d.out _) ⟨wr.heap.size,0,none⟩ 1 1 [.int .i64 k] rfl rfl (AR _ _ _) (by simp[ej]) (by simp[maxLen];omega) (by omega) (zI I (ya _).size) ?_;intro v' E a f X;obtain⟨pv,cv,rfl⟩:=yq a;have f5:(wr.alloc (.cells #[.int .i64 (k:Int)] 3)).heap[B]?=_:=((ya (w:=wr) (.cells #[.int .i64 (k:Int)] 3)).block B (by omega)).trans z.out;have m:=(f.block B (yz f5) (λe=>by have:=yf d.out B e.symm;omega)).trans f5;obtain⟨x0,x1,x2,x3⟩:=yi m;have f0:=zk E B 0 _ _ m;have f3:=zk E B 3 _ _ m;have Z:=za m;clear f5 m);go_roundw
     case rel=>refine⟨k+1,_,by omega,by go_num,zA _ _ 3 _ _ _ (zA E _ 0 _ _ _ Z.out),?_⟩;rw[P4];rw[j]at a;exact Dn n.out d.out a (by rw[j]) f ki (OH _ _ _ _ _ _)
     case measure=>simp[intOf];omega
    .obtain rfl:k=tb.size:=by omega
     obtain⟨V,U,bj,be,az⟩:=bh.out wr n.out;obtain⟨y0,y1⟩:=yD V;obtain⟨W7,dw⟩:∃W:ze,W=wr:=⟨_,rfl⟩
     have dt:B<W7.heap.size:=by rw[dw];exact yz z.out
     have fv:eW (w6.heap.size<=W7.heap.size):=za (by rw[dw];exact I);rw[<-dw]at z d n y0 y1⊢;clear dw I V U bj be az d0 d1 d2 d3;have fa:=z;have bq:=d;have ai:=n;clear z d n;go_wp2;go_loopw [129] (λiv W=>∃(x:Nat)(u2:zg),x<=rsl.length/\iv=.int .i64 x/\W.heap[B]?=some (.cells #[u,u2,.slice none 0 0,.int .i64 (BR (yQ l) tb.size x).2] 57 (0,0))/\yj W W7.heap.size u2 (BR (yQ l) tb.size x).1/\W7.grownBy W (some B)) (λiv _=>rsl.length-(intOf iv).toNat)
     case atStart=>exact⟨0,.slice none 0 0,by omega,rfl,fa.out,ed _ _ _ _,⟨rfl,rfl,rfl,zn _,λ_ _ _=>rfl⟩⟩
     case round=>
      obtain⟨x,u2,hx,rfl,O,G,A⟩:=hrel;have z:=za O;have d:=za G;have n:=za A;have I:=A.size;obtain⟨d0,d1,d2,d3⟩:=yi O;obtain⟨V,U,bj,be,az⟩:=bh.out wr (yc ai.out A);obtain⟨y0,y1⟩:=yD V;obtain⟨z0,z1⟩:=yD U;have g8:=za bj;clear O G A V U bj be az;by_cases nx:x<rsl.length
      .have j:(BR (yQ l) tb.size x).1.length=x:=BI _ _ _;have dd:=Ct (yQ l) tb.size x;have hp:yw (x:Int):=Bg (by omega) (by omega);cases hg:yQ l x with
       |none=>
        have kc:=g8.out.look_none hp hg;have HG:=za (Cw (n0:=(tb.size:Int)) hg);clear hg;generalize hq:BR (yQ l) (tb.size:Int) x=q at*;obtain⟨L,c⟩:=q;dsimp only at z d d3 j dd HG;have HR:eW (yj (wr.setCell ⟨B,3,none⟩ (.int .i64 (c+1))) W7.heap.size u2 L):=za (A8 d.out (yn wr B 3 _) (λk hk e=>by have:=yf d.out k hk;omega));have bo:eW ((wr.setCell ⟨B,3,none⟩ (.int .i64 (c+1))).heap[B]?=some (.cells #[u,u2,.slice none 0 0,.int .i64 (c+1)] 57 (0,0))):=za (zA wr _ 3 _ _ _ z.out);have f3:=zk wr B 3 _ _ z.out;clear hq;go_wp2_with (at_builtin;refine ew _ rfl _ _ 55 rfl W7.heap.size 3 is (.int .i64 0) 1 8 Tryz.underlying55 hi a7 ad Y rfl (by decide) _ L.length (L.map (zX .i64)) rfl (zy HR.out _) ⟨wr.heap.size,0,none⟩ 1 1 [.int .i64 c] rfl rfl (Qy (wr.setCell ⟨B,3,none⟩ (.int .i64 (c+1))) wr.heap.size (.int .i64 c) 3 (by simp)) (by simp[ej]) (by simp[maxLen];omega) (by omega) (by simp;omega) ?_;intro v' E a f X;obtain⟨pv,cv,rfl⟩:=yq a;have m:=EY HR.out f dt bo.out;obtain⟨x0,x1,x2,x3⟩:=yi m;have f1:=zk E B 1 _ _ m;have Z:=za m;clear m);go_roundw
        case rel=>
         refine⟨x+1,.slice pv (x+1) cv,by omega,by go_num,?_,?_⟩
         .rw[HG.out];exact zA E _ 1 _ _ _ Z.out
         rw[HG.out];rw[j]at a;exact Dn (yc n.out (yn _ _ _ _)) HR.out a (by rw[j]) f dt (yn _ _ _ _)
        case measure=>simp[intOf];omega
       |some o=>
        have kc:=g8.out.look_some hp hg;have HG:=za (CY (n0:=(tb.size:Int)) hg);clear hg;generalize hq:BR (yQ l) (tb.size:Int) x=q at*;obtain⟨L,c⟩:=q;dsimp only at z d d3 j dd HG;have HR:=d;have bo:=z;clear hq;go_wp2_with (at_builtin;refine ew _ rfl _ _ 55 rfl W7.heap.size 3 is (.int .i64 0) 1 8 Tryz.underlying55 hi a7 ad Y rfl (by decide) _ L.length (L.map (zX .i64)) rfl (zy HR.out _) _ 1 1 [.int .i64 o] rfl rfl (AR _ _ _) (by simp[ej]) (by simp[maxLen];omega) (by omega) (by simp;omega) ?_;intro v' E a f X;obtain⟨pv,cv,rfl⟩:=yq a;have m:=EY HR.out f dt bo.out;obtain⟨x0,x1,x2,x3⟩:=yi m;have f1:=zk E B 1 _ _ m;have Z:=za m;clear m);go_roundw
        case rel=>
         refine⟨x+1,.slice pv (x+1) cv,by omega,by go_num,?_,?_⟩
         .rw[HG.out];exact zA E _ 1 _ _ _ Z.out
         rw[HG.out];rw[j]at a;exact Dn n.out HR.out a (by rw[j]) f dt (yn _ _ _ _)
        case measure=>simp[intOf];omega
      .obtain rfl:x=rsl.length:=by omega
       have g2:=za (Ct (yQ l) tb.size rsl.length);obtain⟨W8,d7⟩:∃W:ze,W=wr:=⟨_,rfl⟩
       have bm:B<W8.heap.size:=by rw[d7];exact yz z.out
       have fh:eW (W7.heap.size<=W8.heap.size):=za (by rw[d7];exact I);rw[<-d7]at z d n z0 z1⊢;clear d7 I d0 d1 d2 d3 g8;have b6:=z;have F:=d;have aj:=n;have a9:eW (yj W8 w6.heap.size u ((ev tb.size).map λi=>((i:Nat):Int))):=za (A8 bq.out aj.out (λk hk e=>by have:=yf bq.out k hk;omega));clear z d n fa bq;by_cases hC:tl=tr/\l=r
       .have c4:=jt.out hC;have jh:AQ rsl (yQ l) gt rsl.length:=by
         rcases da.out with⟨_,_,h⟩|⟨h,_⟩
         .exact h
         .exact absurd hC h
        have dh:yQ r=yQ l:=by rw[hC.2]
        have js:eW (∀y:Nat,y<rsl.length->yQ l y=none->gt y=some (y:Int)):=za λy hy hg=>fx.out hC gt jh y hy hg;have HC:=za hC;rw[<-c4]at z0 bh;rw[dh]at bh;clear jh dh hC c4;generalize hq:BR (yQ l) (tb.size:Int) rsl.length=q at*;obtain⟨N,c8⟩:=q;dsimp only at b6 F g2;obtain⟨pu,cu,rfl⟩:=yq F.out;have ga:N.length=rsl.length:=by have:=BI (yQ l) (tb.size:Int) rsl.length;rw[hq]at this;exact this
        have jm:eW (∀y:Nat,y<rsl.length->∃v,N[y]?=some v/\yw v/\∀o,yQ l y=some o->v=o):=za λy hy=>by
         have h:=Ix (yQ l) (tb.size:Int) rsl.length hy;rw[hq]at h;have hn:=Ct (yQ l) (tb.size:Int) y;refine⟨_,h,?_,λo ho=>by rw[ho];rfl⟩;cases hg:yQ l y with
         |none=>exact Bg (by simp;omega) (by simp;omega)
         |some o=>have:=OL.out.fit y o hg;exact Bg (by simp;omega) (by simp;omega)
        have HQ:=za hq;clear hq;go_wp2;go_loopw [157] (λiv W=>∃(y:Nat)(u3:zg),y<=rsl.length/\iv=.int .i64 y/\W.heap[B]?=some (.cells #[u,.slice pu N.length cu,u3,.int .i64 c8] 57 (0,0))/\yj W W8.heap.size u3 (N.take y)/\W8.grownBy W (some B)) (λiv _=>rsl.length-(intOf iv).toNat)
        case atStart=>exact⟨0,.slice none 0 0,by omega,rfl,b6.out,ed _ _ _ _,⟨rfl,rfl,rfl,zn _,λ_ _ _=>rfl⟩⟩
        case round=>
         obtain⟨y,u3,hy,rfl,O,G,A⟩:=hrel;have z:=za O;have d:=za G;have n:=za A;have I:=A.size;obtain⟨d0,d1,d2,d3⟩:=yi O;have cn:eW (yj wr W7.heap.size (.slice pu N.length cu) N):=za (A8 F.out A (λk hk e=>by have:=yf F.out k hk;omega));obtain⟨V,U,bj,be,az⟩:=bh.out wr (yc ai.out (yc aj.out A));obtain⟨y0,y1⟩:=yD U;have c3:=za be;have ci:=za az;clear O G A V U bj be az;by_cases f6:y<rsl.length
         .
          have j:(N.take y).length=y:=by rw[iR];omega
          have S:yw (y:Int):=Bg (by omega) (by omega);obtain⟨v,hv,ky,fz⟩:=jm.out y f6;have HV:=za hv;clear bh ky;cases hg:yQ l y with
          |some o=>
           obtain rfl:=fz o hg;have fw:=c3.out.look_some S hg;have ae:=ci.out.look_ok S;generalize(gt (y:Int)).getD 0=g0 at ae;generalize(gt (y:Int)).isSome=g1 at ae;clear hg hv fz;go_wp2_with (at_builtin;refine ew _ rfl _ _ 55 rfl W8.heap.size 3 is (.int .i64 0) 1 8 Tryz.underlying55 hi a7 ad Y rfl (by decide) _ (N.take y).length ((N.take y).map (zX .i64)) rfl (zy d.out _) _ 1 1 [.int .i64 v] rfl rfl (AR _ _ _) (by simp[ej]) (by simp[maxLen];omega) (by omega) (by simp;omega) ?_;intro v' E a f X;obtain⟨pv,cv,rfl⟩:=yq a;have m:=EY d.out f bm z.out;obtain⟨x0,x1,x2,x3⟩:=yi m;have f1:=zk E B 2 _ _ m;have Z:=za m;clear m);go_roundw
           case rel=>
            refine⟨y+1,.slice pv (y+1) cv,by omega,by go_num,zA E _ 2 _ _ _ Z.out,?_⟩;rw[j]at a;have HT:N.take (y+1)=N.take y++[v]:=by rw[z6,HV.out];rfl
            rw[HT];exact Dn n.out d.out a (by rw[j]) f bm (yn _ _ _ _)
           case measure=>simp[intOf];omega
          |none=>
           have fw:=c3.out.look_none S hg;have ae:=ci.out.look_some S (js.out y f6 hg);obtain⟨b,ng,rfl,_,c0⟩:=cn.out.ints.at hv;clear hg hv fz;go_wp2_with (at_builtin;refine ew _ rfl _ _ 55 rfl W8.heap.size 3 is (.int .i64 0) 1 8 Tryz.underlying55 hi a7 ad Y rfl (by decide) _ (N.take y).length ((N.take y).map (zX .i64)) rfl (zy d.out _) _ 1 1 [.int .i64 v] rfl rfl (AR _ _ _) (by simp[ej]) (by simp[maxLen];omega) (by omega) (by simp;omega) ?_;intro v' E a f X;obtain⟨pv,cv,rfl⟩:=yq a;have m:=EY d.out f bm z.out;obtain⟨x0,x1,x2,x3⟩:=yi m;have f1:=zk E B 2 _ _ m;have Z:=za m;clear m);go_roundw
           case rel=>
            refine⟨y+1,.slice pv (y+1) cv,by omega,by go_num,zA E _ 2 _ _ _ Z.out,?_⟩;rw[j]at a;have HT:N.take (y+1)=N.take y++[v]:=by rw[z6,HV.out];rfl
            rw[HT];exact Dn n.out d.out a (by rw[j]) f bm (yn _ _ _ _)
           case measure=>simp[intOf];omega
         .obtain rfl:y=rsl.length:=by omega
          rw[List.take_of_length_le (by omega)]at d;obtain⟨_,_,_,D⟩:=dr.out wr (yd J.out (yc ai.out (yc aj.out n.out)) (λk e=>by cases e;exact d6.out) J.out.size);obtain⟨r0,r1,r2,r3⟩:=yi D;have f0:=zk wr _ 0 _ _ D;have f1:=zk wr _ 1 _ _ D;have f2:=zk wr _ 2 _ _ D;have f3:=zk wr _ 3 _ _ D;have dl:=za D;have C:eW (yj wr w6.heap.size u ((ev tb.size).map λi=>((i:Nat):Int))):=za (A8 a9.out n.out (λk hk e=>by have:=yf a9.out k hk;omega));obtain⟨L1,bx⟩:∃L,L=((ev tb.size).map λi=>((i:Nat):Int)):=⟨_,rfl⟩
          rw[<-bx]at C;have gg:=za bx;clear bx;obtain⟨bs,bz,rfl⟩:=yq C.out;obtain⟨bt,bn,rfl⟩:=yq d.out;have kx:w.heap.size+4<=w6.heap.size:=by have:=J.out.size;omega
          have k0:=fv.out;have k5:=fh.out;clear D ga I y0 y1 z0 hi a7 ad Y;go_wp2;have a4:=AT wr (w.heap.size+3) (.slice bs L1.length bz) (.slice pu N.length cu) (.slice bt N.length bn) (.int .i64 c8);have gc:=AO wr (w.heap.size+3) 57 _ _ _ _ (.slice bs L1.length bz) (.slice pu N.length cu) (.slice bt N.length bn) (.int .i64 c8) dl.out;have gm:=Au (A8 C.out a4 (λk hk e=>by have:=yf C.out k hk;omega)) (show w.heap.size<=w6.heap.size by omega);have gx:=Au (A8 cn.out a4 (λk hk e=>by have:=yf cn.out k hk;omega)) (show w.heap.size<=W7.heap.size by omega);have fy:=Au (A8 d.out a4 (λk hk e=>by have:=yf d.out k hk;omega)) (show w.heap.size<=W8.heap.size by omega);have db:Below w.heap.size w wr:=aa.out wr (yd J.out (yc ai.out (yc aj.out n.out)) (λk e=>by cases e;exact d6.out) J.out.size);refine eG (IE rfl _ _ (w.heap.size+3) _ _ _ _ _ rfl gc _ rfl) rfl ⟨.slice bs L1.length bz,.slice pu N.length cu,.slice bt N.length bn,N,c8,rfl,by rw[<-gg.out];exact gm,by rw[<-ap.out,HQ.out];exact gx,fy,.inl ⟨HC.out.1,HC.out.2,by rw[<-ap.out,HQ.out],by rw[<-ap.out,HQ.out]⟩,yd db a4 (λk e=>by cases e;omega) db.size⟩
       .have km:gt=λ_=>none:=by
         rcases da.out with⟨h1,h2,_⟩|⟨_,h⟩
         .exact absurd ⟨h1,h2⟩ hC
         .exact h
        have f7:=za hC;subst km;clear hC;generalize hq:BR (yQ l) (tb.size:Int) rsl.length=q at*;obtain⟨N,c8⟩:=q;dsimp only at b6 F g2;obtain⟨pu,cu,rfl⟩:=yq F.out;have ga:N.length=rsl.length:=by have:=BI (yQ l) (tb.size:Int) rsl.length;rw[hq]at this;exact this
        have nk:=g2.out;have HQ:=za hq;clear hq;go_wp2;go_loopw [157] (λiv W=>∃(y:Nat)(u3:zg),y<=rsr.length/\iv=.int .i64 y/\W.heap[B]?=some (.cells #[u,.slice pu N.length cu,u3,.int .i64 (BR (yQ r) c8 y).2] 57 (0,0))/\yj W W8.heap.size u3 (BR (yQ r) c8 y).1/\W8.grownBy W (some B)) (λiv _=>rsr.length-(intOf iv).toNat)
        case atStart=>exact⟨0,.slice none 0 0,by omega,rfl,b6.out,ed _ _ _ _,⟨rfl,rfl,rfl,zn _,λ_ _ _=>rfl⟩⟩
        case round=>
         obtain⟨y,u3,hy,rfl,O,G,A⟩:=hrel;have z:=za O;have d:=za G;have n:=za A;have I:=A.size;obtain⟨d0,d1,d2,d3⟩:=yi O;have cn:eW (yj wr W7.heap.size (.slice pu N.length cu) N):=za (A8 F.out A (λk hk e=>by have:=yf F.out k hk;omega));obtain⟨V,U,bj,be,az⟩:=bh.out wr (yc ai.out (yc aj.out A));obtain⟨y0,y1⟩:=yD U;have c3:=za be;have ci:=za az;clear O G A V U bj be az;by_cases f6:y<rsr.length
         .
          have j:(BR (yQ r) c8 y).1.length=y:=BI _ _ _;have dd:=Ct (yQ r) c8 y;have S:yw (y:Int):=Bg (by omega) (by omega);have ae:=ci.out.look_none S rfl;clear bh;cases hg:yQ r y with
          |some o=>
           have fw:=c3.out.look_some S hg;have HG:=za (CY (n0:=c8) hg);clear hg;generalize hq:BR (yQ r) c8 y=q at*;obtain⟨L,c⟩:=q;dsimp only at z d d3 j dd HG;have HR:=d;have bo:=z;clear hq;go_wp2_with (at_builtin;refine ew _ rfl _ _ 55 rfl W8.heap.size 3 is (.int .i64 0) 1 8 Tryz.underlying55 hi a7 ad Y rfl (by decide) _ L.length (L.map (zX .i64)) rfl (zy HR.out _) _ 1 1 [.int .i64 o] rfl rfl (AR _ _ _) (by simp[ej]) (by simp[maxLen];omega) (by omega) (by simp;omega) ?_;intro v' E a f X;obtain⟨pv,cv,rfl⟩:=yq a;have m:=EY HR.out f bm bo.out;obtain⟨x0,x1,x2,x3⟩:=yi m;have f1:=zk E B 2 _ _ m;have Z:=za m;clear m);go_roundw
           case rel=>
            refine⟨y+1,.slice pv (y+1) cv,by omega,by go_num,?_,?_⟩
            .rw[HG.out];exact zA E _ 2 _ _ _ Z.out
            rw[HG.out];rw[j]at a;exact Dn n.out HR.out a (by rw[j]) f bm (yn _ _ _ _)
           case measure=>simp[intOf];omega
          |none=>
           have fw:=c3.out.look_none S hg;have HG:=za (Cw (n0:=c8) hg);clear hg;generalize hq:BR (yQ r) c8 y=q at*;obtain⟨L,c⟩:=q;dsimp only at z d d3 j dd HG;have HR:eW (yj (wr.setCell ⟨B,3,none⟩ (.int .i64 (c+1))) W8.heap.size u3 L):=za (A8 d.out (yn wr B 3 _) (λk hk e=>by have:=yf d.out k hk;omega));have bo:eW ((wr.setCell ⟨B,3,none⟩ (.int .i64 (c+1))).heap[B]?=some (.cells #[u,.slice pu N.length cu,u3,.int .i64 (c+1)] 57 (0,0))):=za (zA wr _ 3 _ _ _ z.out);have f3:=zk wr B 3 _ _ z.out;clear hq;go_wp2_with (at_builtin;refine ew _ rfl _ _ 55 rfl W8.heap.size 3 is (.int .i64 0) 1 8 Tryz.underlying55 hi a7 ad Y rfl (by decide) _ L.length (L.map (zX .i64)) rfl (zy HR.out _) ⟨wr.heap.size,0,none⟩ 1 1 [.int .i64 c] rfl rfl (Qy (wr.setCell ⟨B,3,none⟩ (.int .i64 (c+1))) wr.heap.size (.int .i64 c) 3 (by simp)) (by simp[ej]) (by simp[maxLen];omega) (by omega) (by simp;omega) ?_;intro v' E a f X;obtain⟨pv,cv,rfl⟩:=yq a;have m:=EY HR.out f bm bo.out;obtain⟨x0,x1,x2,x3⟩:=yi m;have f1:=zk E B 2 _ _ m;have Z:=za m;clear m);go_roundw
           case rel=>
            refine⟨y+1,.slice pv (y+1) cv,by omega,by go_num,?_,?_⟩
            .rw[HG.out];exact zA E _ 2 _ _ _ Z.out
            rw[HG.out];rw[j]at a;exact Dn (yc n.out (yn _ _ _ _)) HR.out a (by rw[j]) f bm (yn _ _ _ _)
           case measure=>simp[intOf];omega
         .obtain rfl:y=rsr.length:=by omega
          generalize jb:BR (yQ r) c8 rsr.length=q9 at*;obtain⟨L3,c9⟩:=q9;dsimp only at z d d3;have ko:=za jb;clear jb;obtain⟨_,_,_,D⟩:=dr.out wr (yd J.out (yc ai.out (yc aj.out n.out)) (λk e=>by cases e;exact d6.out) J.out.size);obtain⟨r0,r1,r2,r3⟩:=yi D;have f0:=zk wr _ 0 _ _ D;have f1:=zk wr _ 1 _ _ D;have f2:=zk wr _ 2 _ _ D;have f3:=zk wr _ 3 _ _ D;have dl:=za D;have C:eW (yj wr w6.heap.size u ((ev tb.size).map λi=>((i:Nat):Int))):=za (A8 a9.out n.out (λk hk e=>by have:=yf a9.out k hk;omega));obtain⟨L1,bx⟩:∃L,L=((ev tb.size).map λi=>((i:Nat):Int)):=⟨_,rfl⟩
          rw[<-bx]at C;have gg:=za bx;clear bx;obtain⟨bs,bz,rfl⟩:=yq C.out;obtain⟨bt,bn,rfl⟩:=yq d.out;have kx:w.heap.size+4<=w6.heap.size:=by have:=J.out.size;omega
          have k0:=fv.out;have k5:=fh.out;clear D ga I y0 y1 z0 hi a7 ad Y;go_wp2;have a4:=AT wr (w.heap.size+3) (.slice bs L1.length bz) (.slice pu N.length cu) (.slice bt L3.length bn) (.int .i64 c9);have gc:=AO wr (w.heap.size+3) 57 _ _ _ _ (.slice bs L1.length bz) (.slice pu N.length cu) (.slice bt L3.length bn) (.int .i64 c9) dl.out;have gm:=Au (A8 C.out a4 (λk hk e=>by have:=yf C.out k hk;omega)) (show w.heap.size<=w6.heap.size by omega);have gx:=Au (A8 cn.out a4 (λk hk e=>by have:=yf cn.out k hk;omega)) (show w.heap.size<=W7.heap.size by omega);have fy:=Au (A8 d.out a4 (λk hk e=>by have:=yf d.out k hk;omega)) (show w.heap.size<=W8.heap.size by omega);have db:Below w.heap.size w wr:=aa.out wr (yd J.out (yc ai.out (yc aj.out n.out)) (λk e=>by cases e;exact d6.out) J.out.size);refine eG (IE rfl _ _ (w.heap.size+3) _ _ _ _ _ rfl gc _ rfl) rfl ⟨.slice bs L1.length bz,.slice pu N.length cu,.slice bt L3.length bn,L3,c9,rfl,by rw[<-gg.out];exact gm,by rw[<-ap.out,HQ.out];exact gx,fy,.inr ⟨f7.out,by rw[<-ap.out,<-du.out,HQ.out];exact ko.out.symm⟩,yd db a4 (λk e=>by cases e;omega) db.size⟩
end Go.Proofs
