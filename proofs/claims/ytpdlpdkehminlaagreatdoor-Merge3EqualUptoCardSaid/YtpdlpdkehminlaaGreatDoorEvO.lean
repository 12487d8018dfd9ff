/-
  Part of the proof: The operation copy.
-/
import Derived.Test.YtpdlpdkehminlaaGreatDoorEvN
import Derived.Lib.UnsafeStr
import Derived.Maps.RangeRun
import Derived.LoopN
import Derived.Orders
set_option linter.all false
set_option maxRecDepth 100000
set_option maxHeartbeats 20000000
open Array renaming getElem?_eq_some_iff->eh,getElem?_modify->zaB
open Bool renaming and_eq_true->zo,false_eq_true->zH,or_eq_true->iX
open Go renaming Act->lH,Call->zaR,Oper->eS,Operand->eo,Program->zZ,TypeId->zL,Value->zg,World->ze,run_underlying->eT,undef->zl
open Go.Builtin renaming clear_->zbg,copy_->zah,unsafeString_->zbW
open Go.Conv renaming seenAt->zd7,unsafePointer->zaf
open Go.Exit renaming «then»->ef
open Go.Instr renaming range->zdU
open Go.IntKind renaming i64->iw
open Go.Lib renaming run_unsafeString_none->zbe
open Go.Made renaming depth->zeg
open Go.Oper renaming wp->zbE
open Go.Region renaming wanted->lS
open Go.Result renaming andThen_ok->zr
open Go.Sem renaming run->o8,run_bind->zK,run_pure->zP
open Go.World renaming shape?->zaX
open Int renaming natCast_zero->zdu,ofNat_eq_natCast->zaW
open List renaming getElem?_map->ig,length_eq_zero_iff->oL,length_map->l8,map_cons->iZ,range'->oS
open Nat renaming add_zero->oT,beq->zD,beq_refl->zca,ble->ic,blt->zB
open Nat.succ renaming inj->zdh
open Option renaming bind_eq_some_iff->zu,map_eq_some_iff->zh,map_some->zQ,rec->iO
open Option.some renaming injEq->zb
open UInt8 renaming ofNat->eX
namespace Go.Ev
section
variable{P:zZ} {o:eS}
theorem Js{ρ:Ren}{S:St}{w:ze}{x:CV}{X:zg}(h:Has ρ S w)(size:Nat)(hx:yx ρ x=some X)(hl:lenOf x=some 0):(Builtin.lenOf X).run P w=.ok 0 w/\(Builtin.firstCells size 0 X).run P w=.ok #[] w:=by
 obtain⟨b,a,c⟩:=DC (P:=P) (size:=size) (new:=[]) h hx hl (by
  cases x<;>simp only[lenOf,reduceCtorEq,zb]at hl
  .simp[firstCells,Do,Cm]
  .rfl
  .simp[firstCells])
 have:=c w rfl;simp only[yG,zb]at a;subst a;exact this
theorem R5{c:zaR}{t u:zL}{d x:eo}{i:TyE}{e:zL}{ei:TyE}(hc:c.callee=.builtin .copy)(hts:c.argTypes.toList=[t,u])(has:c.args.toList=[d,x])(ht:Ac P t=some i)(hi:i.desc=.slice e)(he:Ac P e=some ei)(ho:o.op=.call c):Bn P o (UU ei.size (opd P d) (opd P x)):=by
 intro ρ nt tm a r S S' w hf hg hr h;have hts:=JT hts;have has:=Gu has;have m:P.underlying t=some (.slice e):=by obtain⟨_,_,M,_⟩:=Be ht;rw[M,hi]
 obtain⟨Q,j⟩:=Aq (P:=P) hc ho a w;rw[hts,has]at j;have j:(execOp a.eval o).run P w=((zah #[t,u] o.type #[a.eval d,a.eval x]).run P w).andThen λv w'=>.ok (.value v) w':=by rw[j];simp[builtin]
 rw[j];have p:=yW he w;unfold UU at h;split at h
 .rename_i dv xv f k;have f:=ym hf hg d dv f;have k:=ym hf hg x xv k;split at h
  .rename_i n hl;cases h0:zD n 0 with
   |true=>
    rw[h0,cond_true]at h;obtain rfl:=yZ h0;obtain⟨F,G⟩:=Js (P:=P) hr.has ei.size k hl;split at h
    .cases h;simp only[yx,zb]at f;refine⟨ρ,w,_,Stp.refl hr,rfl,?_⟩;rw[<-f];simp[zah,eT m,F,G,p,goInt]
    .cases h;simp only[yx,zu,zh]at f;obtain⟨⟨B,D⟩,H,C,I,f⟩:=f;refine⟨ρ,w,_,Stp.refl hr,rfl,?_⟩;rw[<-f];simp[zah,eT m,F,G,p,goInt,storeCells]
    .cases h
   |false=>
    rw[h0,cond_false]at h;split at h
    .rename_i b off l cap _;cases g:ic n l with
     |false=>rw[g]at h;cases h
     |true=>
      rw[g,cond_true]at h;have g:=A9 g;split at h
      .rename_i new hnew;cases hpl:Aa new with
       |false=>rw[hpl]at h;cases h
       |true=>
        rw[hpl,cond_true]at h;split at h
        .rename_i S2 hst;cases h;obtain⟨A,z,q⟩:=DC (P:=P) hr.has k hl hnew;obtain⟨O,R,E,y,N⟩:=G8 (P:=P) hr hst z hpl;simp only[yx,zu,zh]at f;obtain⟨⟨B,D⟩,H,C,I,f⟩:=f;rw[H]at E;cases E;refine⟨ρ,_,.int .i64 n,N,rfl,?_⟩;rw[<-f];have y:=y w rfl;obtain⟨L,J⟩:=q w rfl;have s:Nat.min n l=n:=Nat.min_eq_left g;simp[zah,eT m,L,J,p,s,y,goInt]
        .cases h
      .cases h
    .cases h
  .cases h
 .cases h
end
section
variable{P:zZ} {o:eS}
theorem Kz{w:ze}{B:Nat}{cs:Array zg}{t:zL}{fz:Nat×Nat}(h:w.heap[B]?=some (.cells cs t fz))(off:Nat):(zd7 ⟨B,off,none⟩).run P w=.ok ⟨B,off,none⟩ w:=by simp[zd7,viewAt,zaX,h]
theorem OU{w:ze}{B:Nat}{cs:Array zg}{t:zL}{fz:Nat×Nat}(h:w.heap[B]?=some (.cells cs t fz)):(cellsIn B).run P w=.ok (some cs.size) w:=by simp[cellsIn,zaX,h]
theorem LH{s d u:zL}{x:eo}{i j ui:TyE}(hs:Ac P s=some i)(hi:i.desc=.pointer u)(hd:Ac P d=some j)(hj:j.desc=.unsafePointer)(hu:Ac P u=some ui)(h0:ui.size≠0)(ho:o.op=.convert s d x):Gf P o (Iw (opd P x)):=by
 intro ρ nt tm a v S w hf hg hh h;have l:=Ex hs;have k:=Ex hd;rw[hi]at l;rw[hj]at k;unfold Iw at h;split at h
 .rename_i hx;cases h;have g:=ym hf hg x _ hx;simp only[yx,zb]at g;exact⟨.pointer none,rfl,by simp[execOp,ho,convert,eT l,eT k,zaf,<-g]⟩
 .rename_i b q hx;have g:=ym hf hg x _ hx;split at h
  .rename_i c sh hi0 wr id sz ty hb;cases hlt:zB q hi0 with
   |false=>rw[hlt]at h;cases h
   |true=>
    rw[hlt,cond_true]at h;cases h;obtain⟨B,D,m,t,F,n,p,y,_⟩:=Li hh hb;obtain⟨_,V,_,_,z,_⟩:=y q (yF hlt);have C:q+D<m.size:=(eh.1 z).1;simp only[yx,n,zQ,zb]at g;have f:=yW hu w;refine⟨.pointer (some ⟨B,q+D,none⟩),by simp[yx,n],?_⟩;have r:=Kz (P:=P) p (q+D);have A:=OU (P:=P) p;have E:¬m.size<=q+D:=by omega
    simp[execOp,ho,convert,eT l,eT k,zaf,<-g,r,A,E,f,h0]
  .cases h
 .cases h
theorem PE{u size count n:Nat}(hc:P.cellsOf u=size)(h0:size≠0)(hn:n<=count):liesAt P P.depth u count 0 u n=true:=by have a:P.depth=(2*(P.types.size+zeg)+1)+1:=rfl;rw[a];simp only[liesAt,iX];left;rw[a];simp[rowAt,hc,h0,hn,sameLayout]
theorem JX{e:zL}(hc:P.cellsOf e=1)(count off n:Nat)(hn:off+n<=count):liesAt P P.depth e count off e n=true:=by have a:P.depth=(2*(P.types.size+zeg)+1)+1:=rfl;rw[a];simp only[liesAt,iX];left;rw[a];simp[rowAt,hc,hn,sameLayout,Nat.mod_one]
theorem Kl{u:zL}{ui:TyE}(hu:Ac P u=some ui):P.cellsOf u=ui.size:=by obtain⟨a,b,_,c,_⟩:=Be hu;simp[Program.cellsOf,b,c]
theorem IM{s d u:zL}{x:eo}{i j ui:TyE}(hs:Ac P s=some i)(hi:i.desc=.unsafePointer)(hd:Ac P d=some j)(hj:j.desc=.pointer u)(hu:Ac P u=some ui)(h0:ui.size≠0)(ho:o.op=.convert s d x):Gf P o (E7 u ui.size (opd P x)):=by
 intro ρ nt tm a v S w hf hg hh h;have p:=Ex hs;have m:=Ex hd;rw[hi]at p;rw[hj]at m;unfold E7 at h;split at h
 .rename_i hx;cases h;have k:=ym hf hg x _ hx;simp only[yx,zb]at k;exact⟨.pointer none,rfl,by simp[execOp,ho,convert,eT p,eT m,zaf,<-k]⟩
 .rename_i b hx;have k:=ym hf hg x _ hx;split at h
  .rename_i c sh hi0 wr id sz ty hb;cases hlt:(zD sz 0&&zD ty (u+1)&&ic ui.size hi0)with
   |false=>rw[hlt]at h;cases h
   |true=>
    rw[hlt,cond_true]at h;cases h;simp only[zo]at hlt;obtain⟨⟨n,l⟩,y⟩:=hlt;have n:=yZ n;have l:=yZ l;have y:=A9 y;obtain⟨B,D,q,t,N,A,z,G,g,E⟩:=Li hh hb;have L:D=0:=by
     rcases g with g|g
     .exact g.2
     .exact absurd n g.1
    subst L;have H:t=u:=zdh ((E (by omega)).trans l);subst H;have r:=Kl hu;obtain⟨_,V,_,_,I,_⟩:=G (ui.size-1) (by omega);have J:ui.size<=q.size:=by have:=(eh.1 I).1;omega
    simp only[yx,A,zQ,zb,Nat.zero_add]at k;have f:=yW hu w;refine⟨.pointer (some ⟨B,0,none⟩),by simp[yx,A],?_⟩;have C:=Kz (P:=P) z 0;have M:1<=q.size/P.cellsOf t:=by rw[r];exact(Nat.le_div_iff_mul_le (by omega)).2 (by omega)
    have F:=PE (P:=P) r h0 M;simp[execOp,ho,convert,eT p,eT m,zaf,<-k,C,f,h0,variablesAt,zaX,z,F]
  .cases h
 .cases h
theorem J3{c:zaR}{x:eo}(hc:c.callee=.builtin .unsafeSliceData)(has:c.args.toList=[x])(ho:o.op=.call c):Ax P o (BE (opd P x) GS):=by
 intro ρ nt tm a v hf hg h;obtain⟨u,k,d⟩:=AJ h;have f:=ym hf hg x u k;have has:=Lm has;cases u<;>simp only[GS,reduceCtorEq,zb]at d
 .subst d;simp only[yx,zb]at f;refine⟨.pointer none,rfl,λw=>?_⟩;obtain⟨g,e⟩:=Aq (P:=P) hc ho a w;rw[e,has];have:=Go.Lib.run_unsafeSliceData_nil (P:=P) w c.argTypes o.type 0 0;simp[builtin,<-f,this]
 .rename_i b q len cap;cases hcp:Il 1 cap with
  |false=>rw[hcp]at d;cases d
  |true=>rw[hcp,cond_true]at d;cases d;simp only[yx,zu,zh]at f;obtain⟨y,l,C,i,f⟩:=f;have j:=Jc hcp i;refine⟨.pointer (some ⟨y.1,q+y.2,none⟩),by simp[yx,l],λw=>?_⟩;obtain⟨g,e⟩:=Aq (P:=P) hc ho a w;rw[e,has];have:=Go.Lib.run_unsafeSliceData_row (P:=P) w c.argTypes o.type ⟨y.1,q+y.2,none⟩ len C (by omega);simp[builtin,<-f,this]
theorem Gt {c : zaR} {t n' : zL} {x n : eo} {i ei : TyE} {e : zL} (hc : c.callee = .builtin .unsafeString) (hts : c.argTypes.toList = [t, n']) (has : c.args.toList = [x, n])
    (ht : Ac P t = some i) (hi : i.desc = .pointer e) (he : Ac P e = some ei) (hes : ei.size = 1) (ho : o.op = .call c) : Bn P o (CR e (opd P x) (opd P n)) := by
  intro ρ nt tm a r S S' w hf hg hr h
  have hts := JT hts
  have has := Gu has
  obtain ⟨a6, z⟩ := Aq (P := P) hc ho a w
  rw [hts, has] at z
  have z : (execOp a.eval o).run P w = ((zbW #[t, n'] o.type #[a.eval x, a.eval n]).run P w).andThen fun v w' => .ok (.value v) w' := by
    rw [z]
    simp [builtin]
  rw [z]
  have ut := Ex ht
  rw [hi] at ut
  unfold CR at h
  split at h
  · rename_i f l
    cases h
    have f := ym hf hg x _ f
    have l := ym hf hg n _ l
    simp only [yx, zb] at f l
    refine ⟨ρ, w, .string .empty, Stp.refl hr, by simp [yx, yH]; rfl, ?_⟩
    rw [← f, ← l]
    have := zbe (P := P) w t n' o.type none
    simp only [zaW, zdu] at this ⊢
    rw [this]
    rfl
  · rename_i b q m f l
    have f := ym hf hg x _ f
    have l := ym hf hg n _ l
    simp only [yx, zb] at l
    cases E : zD m 0 with
    | true =>
      rw [E, cond_true] at h
      cases h
      have E := yZ E
      subst E
      simp only [yx, zh] at f
      obtain ⟨y, hy, f⟩ := f
      refine ⟨ρ, w, .string .empty, Stp.refl hr, by simp [yx, yH]; rfl, ?_⟩
      rw [← f, ← l]
      have := zbe (P := P) w t n' o.type (some ⟨y.1, q + y.2, none⟩)
      simp only [zaW, zdu] at this ⊢
      rw [this]
      rfl
    | false =>
      rw [E, cond_false] at h
      have U : m ≠ 0 := fun e => by rw [e] at E; cases E
      split at h
      · rename_i cs hld
        obtain ⟨X, nx, nk⟩ := S
        split at h
        · rename_i S0 s h0 nx0 nk0 hby hS
          cases hS
          split at h
          · rename_i c1 sh hi0 id sz ty hb
            cases hcc : (zD ty (e + 1) && zB b lim && zB m lim) with
            | false => rw [hcc] at h; cases h
            | true =>
              rw [hcc, cond_true] at h
              cases h
              simp only [zo] at hcc
              obtain ⟨⟨k1, k2⟩, k3⟩ := hcc
              have k1 := yZ k1
              have k2 := yF k2
              have k3 := yF k3
              obtain ⟨B, D, p, tt, fz, f1, f2, f3, f4, f5⟩ := Li hr.has hb
              have ai : tt = e := zdh ((f5 (by omega)).trans k1)
              subst ai
              obtain ⟨B', D', L, g1, g2, g3, g4, g5⟩ := DL (P := P) hr.has hld
              rw [f1] at g1
              cases g1
              obtain ⟨O, Z⟩ := Hy hby
              have M : s.length = m := by rw [← g4, O, l8]
              obtain ⟨a4, af⟩ : q + m ≤ hi0 ∧ Vx c1 (q + sh) m = some cs := by
                unfold L8 at hld
                rw [show (St.mk X nx nk).heap.get b = _ from hb] at hld
                simp only at hld
                cases hq : ic (q + m) hi0 with
                | false => rw [hq] at hld; cases hld
                | true => rw [hq, cond_true] at hld; exact ⟨A9 hq, hld⟩
              have ao := Gm af
              have F : ∀ j v, s[j]? = some v → p[q + D + j]? = some (.int .u8 (.ofNat v)) ∧ v < 256 := by
                intro j v N
                have hj : j < m := by rw [← M]; exact (List.getElem?_eq_some_iff.1 N).1
                obtain ⟨u, V, Q, I, R, _⟩ := f3 (q + j) (by omega)
                have := ao.2 j hj
                rw [show q + sh + j = q + j + sh by omega, Q, O, ig, N] at this
                simp only [zQ, zb] at this
                subst this
                simp only [yx, zb] at I
                subst I
                exact ⟨by rw [show q + D + j = q + j + D by omega]; exact R, Z v (List.mem_of_getElem? N)⟩
              have G : q + D + m ≤ p.size := by
                obtain ⟨u, V, _, _, R, _⟩ := f3 (q + (m - 1)) (by omega)
                have := (eh.1 R).1
                omega
              have C := Kl he
              rw [hes] at C
              have A := Go.Lib.run_loadBytes (P := P) w (s.map eX) ⟨B, q + D, none⟩ .empty (fun j y hy => by
                rw [ig, zh] at hy
                obtain ⟨v, N, rfl⟩ := hy
                obtain ⟨Q, I⟩ := F j v N
                rw [Addr.add_lit]
                simp only [World.cell?, f2]
                simp only [Option.isSome_none, zH, if_false, Q]
                simp [UInt8.toNat_ofNat', Nat.mod_eq_of_lt I])
              rw [l8, M] at A
              have H := JX (P := P) C (p.size / P.cellsOf tt) (q + D) m (by rw [C]; simpa using G)
              simp only [yx, f1, zQ, zb] at f
              refine ⟨ρ, w.freeze ⟨B, q + D, none⟩ m, .string (yH s), ?_, rfl, ?_⟩
              · have g : (w.freeze ⟨B, q + D, none⟩ m) = { w with heap := w.heap.modify B fun
                    | .cells c elem (Y, hi) => .cells c elem (if Y == hi then (q + D, q + D + m) else (min Y (q + D), max hi (q + D + m)))
                    | o => o } := by
                  unfold World.freeze
                  rw [if_neg U]
                  rfl
                obtain ⟨Y, up⟩ := fz
                refine Stp.write (S := ⟨X, nx, nk⟩) hr ⟨_, hb, rfl⟩ f1 k2 (O' := .cells p tt (if Y == up then (q + D, q + D + m) else (min Y (q + D), max up (q + D + m)))) ?_ ⟨fun i' hi' => ?_, ?_, f5⟩ (fun k hk => ?_) ?_ ?_ ?_ ?_
                · rw [g]
                  simp only [zaB]
                  rw [if_pos trivial, f2]
                  rfl
                · obtain ⟨u, V, Q, I, R, _⟩ := f3 i' hi'
                  exact ⟨u, V, Q, I, R, fun h => by cases h⟩
                · rcases f4 with f4 | ⟨b1, y, b2, b3⟩
                  · exact .inl f4
                  · exact .inr ⟨b1, y, b2, fun j hj => ⟨(b3 j hj).1, fun h => by cases h⟩⟩
                · rw [g]
                  simp only [zaB]
                  rw [if_neg (fun e => hk e.symm)]
                · rw [g]; simp
                · rw [g]
                · rw [g]
                · rw [g]
              · obtain ⟨e1, e2, e3, W⟩ : ∃ e1 e2 e3, zbW #[t, n'] o.type #[.pointer (some ⟨B, q + D, none⟩), .int .i64 (.ofNat m)] =
                    (do
                      let n ← asInt (.int .i64 (.ofNat m))
                      if n < 0 then runtimePanic e1
                      if n > iw.max then unsupported e2
                      if n = 0 then pure (.string .empty)
                      else if ← variablesAt ⟨B, q + D, none⟩ (← elemOf t) n.toNat then do
                        let s ← loadBytes ⟨B, q + D, none⟩ .empty n.toNat
                        freeze ⟨B, q + D, none⟩ n.toNat
                        pure (.string s)
                      else unsupported e3) := ⟨_, _, _, rfl⟩
                rw [← f, ← l, W]
                have J : iw.max = 9223372036854775807 := rfl
                have T : ¬ (m : Int) < 0 := by omega
                have ae : ¬ (9223372036854775807 : Int) < (m : Int) := by unfold lim at k3; omega
                have al : (⟨ByteArray.empty.data ++ (s.map eX).toArray⟩ : ByteArray) = yH s := by
                  apply ByteArray.ext
                  simp [yH]
                rw [al] at A
                simp [asInt, asIntOf, J, ae, T, U, variablesAt, zaX, f2, elemOf, eT ut, H, A]
          · cases h
        · cases h
      · cases h
  · cases h
end
open Go.ChangeMaps (setBlock)
theorem Ii.alike{N:Nat}{ρ ρ':Ren}{S S':St}{w w' w2:ze}(h:Ii N ρ S w ρ' S' w')(e:w2.heap=w'.heap)(h1:w2.os=w'.os)(h2:w2.tape=w'.tape)(h3:w2.output=w'.output):Ii N ρ S w ρ' S' w2:=⟨h.ext,h.rel.heap e,h.next,h.nk,λx hx hn=>by rw[e];exact h.keep x hx hn,by rw[e];exact h.size,h.dom,h1.trans h.os,h2.trans h.tape,h3.trans h.output,h.old,h.domW⟩
section
variable{P:zZ} {o:eS}
theorem Py{c:zaR}{t:zL}{x:eo}{i:TyE}{kt et:zL}(hc:c.callee=.builtin .clear)(hts:c.argTypes.toList=[t])(has:c.args.toList=[x])(ht:Ac P t=some i)(hi:i.desc=.map kt et)(ho:o.op=.call c):Bn P o (PT (opd P x)):=by
 intro ρ nt tm a r S S' w hf hg hr h;obtain⟨k,n,p⟩:=S;have hts:=IR hts;have has:c.args=#[x]:=by apply Array.ext';simpa using has
 obtain⟨m,b⟩:=Aq (P:=P) hc ho a w;rw[hts,has]at b;have b:(execOp a.eval o).run P w=((zbg #[t] o.type #[a.eval x]).run P w).andThen λv w'=>.ok (.value v) w':=by rw[b];simp[builtin]
 have f:=yg ht w;rw[hi]at f;unfold PT at h;split at h
 .rename_i S0 h0 nx0 nk0 d hS;cases hS;have d:=ym hf hg x _ d;cases h;simp only[yx,zb]at d;refine⟨ρ,w,.tuple #[],Stp.refl hr,by simp[yx,yG],?_⟩;rw[b,<-d];simp[zbg,f]
 .rename_i S0 R0 h0 nx0 nk0 d hS;cases hS;have d:=ym hf hg x _ d;split at h
  .rename_i es clock hes;cases hlt:zB R0 lim with
   |false=>rw[hlt]at h;cases h
   |true=>rw[hlt,cond_true]at h;cases h;obtain⟨R,l,j,g,q⟩:=C2 hr.has hes;simp only[yx,j,zQ,zb]at d;refine⟨ρ,_,.tuple #[],Stp.setObj hr hes j (yF hlt) g (O':=.map #[] clock) ⟨rfl,rfl,[],rfl,rfl,λi e h=>by simp at h⟩,by simp[yx,yG],?_⟩;rw[b,<-d];simp[zbg,f,Ar g,CS g]
  .cases h
 .cases h
theorem J7{t:zL}{x:eo}{i:TyE}{kt et:zL}(ht:Ac P t=some i)(hi:i.desc=.map kt et)(ho:o.op=.range t x):Bn P o (GM (opd P x)):=by
 intro ρ nt tm a r S S' w hf hg hr h;obtain⟨g,f,k⟩:=S;have c:=yg ht w;rw[hi]at c;unfold GM at h;split at h
 .rename_i S0 h0 nx0 nk0 b hS;cases hS;have b:=ym hf hg x _ b;cases hlt:zB f lim with
  |false=>rw[hlt]at h;cases h
  |true=>rw[hlt,cond_true]at h;cases h;simp only[yx,zb]at b;refine⟨_,w.alloc (.mapIter none 0 #[] 0),.pointer (some ⟨w.heap.size,0,none⟩),Stp.alloc hr (O:=.mapIter none 0 #[] 0) ⟨rfl,rfl,rfl,rfl,rfl⟩ (yF hlt) rfl rfl rfl rfl,by simp[yx,Ren.extb],?_⟩;simp[execOp,ho,zdU,c,<-b]
 .rename_i S0 R0 h0 nx0 nk0 b hS;cases hS;have b:=ym hf hg x _ b;split at h
  .rename_i es clock hes;cases hlt:zB f lim with
   |false=>rw[hlt]at h;cases h
   |true=>rw[hlt,cond_true]at h;cases h;obtain⟨R,l,d,j,m⟩:=C2 hr.has hes;simp only[yx,d,zQ,zb]at b;refine⟨_,w.alloc (.mapIter (some R) clock #[] clock),.pointer (some ⟨w.heap.size,0,none⟩),Stp.alloc hr (O:=.mapIter (some R) clock #[] clock) ⟨rfl,⟨R,d,rfl⟩,rfl,rfl,rfl⟩ (yF hlt) rfl rfl rfl rfl,by simp[yx,Ren.extb],?_⟩;simp[execOp,ho,zdU,c,<-b,Ar j]
  .cases h
 .cases h
theorem PJ(b:Nat):∀l:List Nat,UD b l=l.contains b
 |[]=>rfl
 |x::l=>by
  simp only[UD,List.contains_cons,PJ b l];congr 1;cases h:zD b x with
  |true=>rw[yZ h];simp
  |false=>
   have:b≠x:=λe=>by rw[e,zca]at h;cases h
   simp[this]
theorem JR{ρ:Ren}{seen:List Nat}:∀(es:List (CV×CV×Nat))(l:List (zg×zg×Nat)),GR ρ es l->GR ρ (IZ seen es) (l.filter λe=> !seen.contains e.2.2)
 |[],l,he=>by have:l=[]:=oL.1 he.1;subst this;exact he
 |(k,v,b)::es,l,he=>by
  obtain⟨g,h,rfl,f,d,c,a⟩:=he.tail;have ih:=JR (seen:=seen) es h a;simp only at c;subst c;simp only[IZ,PJ];cases hb:seen.contains g.2.2 with
  |true=>rw[cond_true,List.filter_cons_of_neg (by simp only[hb];decide)];exact ih
  |false=>rw[cond_false,List.filter_cons_of_pos (by simp only[hb];decide)];exact ih.cons f d rfl
theorem T3(l:List (zg×zg×Nat))(seen:List Nat):(leftOf (l.map yC).toArray seen.toArray).toList=(l.filter λe=> !seen.contains e.2.2).map yC:=by
 unfold leftOf;rw[Array.toList_filter];induction l with
 |nil=>rfl
 |cons e l ih=>simp only[iZ,List.filter_cons];simp only[yC,List.contains_toArray];split<;>simp_all [yC]
theorem F7{ρ:Ren}{n:Nat}:∀(es:List (CV×CV×Nat))(l:List (zg×zg×Nat)),ES n es=true->GR ρ es l->∀e,e∈l->e.2.2<n
 |[],l,_,he,e,h=>by have:l=[]:=oL.1 he.1;subst this;cases h
 |(k,v,b)::es,l,hb,he,e,h=>by
  obtain⟨i,c,rfl,g,f,d,a⟩:=he.tail;simp only[ES,zo]at hb;rcases List.mem_cons.1 h with rfl|h
  .have:=yF hb.1;simp only at d;omega
  .exact F7 es c hb.2 a e h
theorem Jg{ρ:Ren}{S:St}{w:ze}(h:Has ρ S w){r:Nat}{m:Option Nat}{since last:Nat}{seen:List Nat}(hr:S.heap.get r=some (.miter m since seen last)):∃R m',ρ.b r=some (R,0)/\w.heap[R]?=some (.mapIter m' since seen.toArray last)/\(match(generalizing:=false) m with|none=>m'=none|some q=>∃Q,ρ.b q=some (Q,0)/\m'=some Q):=by
 obtain⟨B,D,O,c,f,a⟩:=h r _ hr;cases O with
 |mapIter m' since' seen' last'=>obtain⟨rfl,d,rfl,rfl,rfl⟩:=a;exact⟨B,m',c,f,d⟩
 |_=>exact a.elim
theorem Ml{it:eo}(ho:o.op=.next it false):Bn P o (Iy (opd P it)):=by
 intro ρ nt tm a r S S' w hf hg hr h;obtain⟨t,H,J⟩:=S;unfold Iy at h;split at h
 .rename_i S0 r0 F nx0 nk0 n hS;cases hS;have n:=ym hf hg it _ n;split at h
  .rename_i since seen last hit;cases h;obtain⟨R,W,B,A,rfl⟩:=Jg hr.has hit;simp only[yx,B,zQ,zb,oT]at n;refine⟨ρ,w,.tuple #[.bool false],Stp.refl hr,by simp[yx,yG],?_⟩;have s:(getObj R).run P w=.ok (.mapIter none since seen.toArray last) w:=by simp[getObj,o8,A]
   simp[execOp,ho,Instr.next,<-n,s]
  .rename_i m since seen last hit;obtain⟨R,W,B,A,Q,M,rfl⟩:=Jg hr.has hit;simp only[yx,B,zQ,zb,oT]at n;split at h
   .rename_i es clock hes;obtain⟨Z,l,I,X,G⟩:=C2 hr.has hes;rw[M]at I;cases I;cases hc:(ES since es&&ic since last&&zB r0 lim)with
    |false=>rw[hc]at h;cases h
    |true=>
     rw[hc,cond_true]at h;simp only[zo]at hc;have y:∀x∈((l.map yC).toArray).toList,x.born<since:=by intro x O;obtain⟨e,j,rfl⟩:=List.mem_map.1 (show x∈l.map yC from O);exact F7 es l hc.1.1 G e j
     have c:=JR (seen:=seen) es l G;have f:=T3 l seen;have g:=run_next_at (P:=P) w o.type R Q since last seen.toArray (l.map yC).toArray clock A X y (A9 hc.1.2);split at h
     .rename_i hnone;cases h;rw[hnone]at c;have T:(l.filter λe=> !seen.contains e.2.2)=[]:=oL.1 c.1;rw[T]at f;rcases g with⟨_,d⟩|⟨e,j,_⟩
      .refine⟨ρ,w,.tuple #[.bool false],Stp.refl hr,by simp[yx,yG],?_⟩;simp only[execOp,ho,<-n,zK,d,zr,zP]
      .rw[f]at j;cases j
     .rename_i k v b hone;cases h;rw[hone]at c;obtain⟨q,Y,D,U,V,L,C⟩:=c.tail;have z:Y=[]:=oL.1 C.1;subst z;rw[D]at f;rcases g with⟨F,_⟩|⟨e,j,N,E,d⟩
      .exfalso;have:=congrArg List.length f;rw[Array.length_toList,F]at this;simp at this
      .rw[f]at j;simp only[iZ,List.map_nil,List.mem_singleton]at j;subst j;simp only at L;subst L;have i:=Stp.setObj hr hit B (yF hc.2) A (o':=.miter (some m) since (seen++[q.2.2]) clock) (O':=.mapIter (some Q) since (seen.toArray.push q.2.2) clock) ⟨rfl,⟨Q,M,rfl⟩,rfl,by simp,rfl⟩;have p:Stp ρ ⟨t,H,J⟩ w ρ ⟨t.set big r0 (some (.miter (some m) since (seen++[q.2.2]) clock)),H,J⟩ (setBlock N R (.mapIter (some Q) since (seen.toArray.push q.2.2) clock)):=by
        rcases E with rfl|rfl
        .exact i
        .exact i.alike rfl rfl rfl rfl
       refine⟨ρ,_,.tuple #[.bool true,q.1,q.2.1],p,by simp[yx,yG,U,V],?_⟩;simp only[execOp,ho,<-n,zK,d,zr,zP];rfl
     .cases h
   .cases h
  .cases h
 .cases h
theorem Hq{ρ:Ren}{b:Nat}:∀(es:List (CV×CV×Nat))(l:List (zg×zg×Nat))(k v:CV),Ga b es=some (k,v)->GR ρ es l->∃e',yx ρ k=some e'.1/\yx ρ v=some e'.2.1/\(l.map yC).find? (λx=>x.born==b)=some (yC e')
 |[],l,k,v,h,he=>by simp[Ga]at h
 |(k',v',b')::es,l,k,v,h,he=>by
  obtain⟨e',l',rfl,a1,a2,a3,he'⟩:=he.tail;simp only at a3;subst a3;simp only[Ga]at h;cases hb:zD e'.2.2 b with
  |true=>rw[hb,cond_true]at h;cases h;refine⟨e',a1,a2,?_⟩;rw[iZ,List.find?_cons_of_pos (by simp only[yC];rw[yZ hb];simp)]
  |false=>rw[hb,cond_false]at h;obtain⟨x,d,a,c⟩:=Hq es l' k v h he';refine⟨x,d,a,?_⟩;rw[iZ,List.find?_cons_of_neg (by simp only[yC,beq_iff_eq];intro e;rw[e,zca]at hb;cases hb)];exact c
theorem LN{it:eo}(ho:o.op=.entry it):Gf P o (F0 (opd P it)):=by
 intro ρ nt tm a v S w hf hg hh h;unfold F0 at h;split at h
 .rename_i r0 g;have g:=ym hf hg it _ g;split at h
  .rename_i m since seen last hit;obtain⟨R,B,r,q,Q,s,rfl⟩:=Jg hh hit;simp only[yx,r,zQ,zb,oT]at g;split at h
   .rename_i es clock b hes hlast;obtain⟨A,l,j,z,n⟩:=C2 hh hes;rw[s]at j;cases j;cases hc:zD clock last with
    |false=>rw[hc]at h;cases h
    |true=>
     rw[hc,cond_true]at h;obtain rfl:=yZ hc;split at h
     .rename_i k u hfb;cases h;obtain⟨i,t,p,y⟩:=Hq es l k u hfb n;refine⟨.tuple #[i.1,i.2.1],by simp[yx,yG,t,p],?_⟩;have f:(getObj R).run P w=.ok (.mapIter (some Q) since seen.toArray clock) w:=by simp[getObj,o8,q]
      have c:seen.toArray.back?=some b:=by rw[List.back?_toArray];exact hlast
      have d:(l.map yC).toArray.find? (λx=>x.born==b)=some (yC i):=by rw[List.find?_toArray];exact y
      simp only[execOp,ho,Instr.entry,<-g,zK,f,zr,c,Ar z,bne_self_eq_false,zH,if_false,d];rfl
     .cases h
   .cases h
  .cases h
 .cases h
end
def UY(P:zZ)(o:eS):OpC->Prop
 |.pure f=>Ax P o f
 |.read f=>Gf P o f
 |.new f=>NB P o f
 |.chain f=>Bn P o f
 |.bad=>True
section
variable{P:zZ} {o:eS}
theorem Q7{c:Bool}{X:OpC}(h:c=true->UY P o X):UY P o (bif c then X else .bad):=by
 cases c with
 |true=>exact h rfl
 |false=>trivial
theorem EJ{c:Bool}{X:OpC}(h:c=false->UY P o X):UY P o (bif c then .bad else X):=by
 cases c with
 |true=>trivial
 |false=>exact h rfl
theorem WH{c:Bool}{X Y:OpC}(h:c=true->UY P o X)(h':c=false->UY P o Y):UY P o (bif c then X else Y):=by
 cases c with
 |true=>exact h rfl
 |false=>exact h' rfl
theorem CT{n m:Nat}(h:zD n m=false):n≠m:=by intro e;subst e;rw[zca]at h;cases h
theorem N7{c:zaR}{b:Builtin}(hc:c.callee=.builtin b)(ho:o.op=.call c):UY P o (F4 P b c.argTypes.toList c.args.toList):=by
 unfold F4;split
 .rename_i t x hts has;split
  .trivial
  .rename_i i hi;split
   .rename_i hd;exact K6 (k:=.str) hc hts has hi (by rw[hd];trivial) ho
   .rename_i hd;exact K6 (k:=.sl) hc hts has hi (by rw[hd];trivial) ho
   .rename_i n e hd;exact K6 (k:=.arr n) hc hts has hi (by rw[hd];rfl) ho
   .rename_i hd;exact Pn hc hts has hi hd ho
   .trivial
 .rename_i t u s x hts has;split
  .rename_i i j hi hj;split
   .trivial
   .rename_i d e hd hn;split
    .rename_i ei z hei hz;refine Q7 λhb=>?_;simp only[zo]at hb;exact Nd hc hts has hi ‹_› hj (λk hk=>by first|exact hn k hk|exact hd k hk) hei hz (yZ hb.1) (yF hb.2) ho
    .trivial
   .trivial
  .trivial
 .rename_i t x hts has;split
  .rename_i i hi;split
   .rename_i hd;exact Py hc hts has hi hd ho
   .trivial
  .trivial
 .rename_i x has;exact J3 hc has ho
 .rename_i t n' x n hts has;split
  .rename_i i hi;split
   .rename_i e hd;split
    .rename_i ei hei;split
     .exact Q7 λh=>Gt hc hts has hi hd hei (yZ h) ho
     .trivial
    .trivial
   .trivial
  .trivial
 .rename_i t u d x hts has;split
  .rename_i i hi;split
   .rename_i e hd;split
    .rename_i ei hei;exact R5 hc hts has hi hd hei ho
    .trivial
   .trivial
  .trivial
 .rename_i x y has;exact UG hc has ho
 .rename_i x y has;exact Vd hc has ho
 .rename_i x y z has;exact Su hc has ho
 .trivial
theorem SE(P:zZ)(o:eS):UY P o (opC P o.op):=by
 cases ho:o.op
 case move x=>exact Sz ho
 case assign x=>exact Pz ho
 case pick c x y=>exact SK ho
 case alloc t=>
  simp only[opC];split
  .rename_i z hz;exact Q7 λh=>TM hz (yF h) ho
  .trivial
 case box t x=>exact V5 ho
 case build t ps=>
  simp only[opC];split
  .rename_i i z hi hz;split
   .rename_i fields hd;split
    .rename_i pl hpl;split
     .rename_i l hl;exact Ig hi hz hd hpl hl ho
     .trivial
    .trivial
   .rename_i n e hd;split
    .rename_i ei hei;split
     .rename_i l hl;exact Lr hi hz hd hei hl ho
     .trivial
    .trivial
   .trivial
  .trivial
 case buildSlice t len ps=>
  simp only[opC];split
  .rename_i i hi;split
   .rename_i e hd;split
    .rename_i ei hei;split
     .rename_i l hl;refine WH (λh0=>?_) (λh0=>?_)
      .exact Ft hi hd hei hl (.inl ⟨yZ h0,rfl⟩) ho
      .split
       .rename_i z hz;refine Q7 λh=>?_;simp only[zo]at h;exact Ft hi hd hei hl (.inr ⟨CT h0,A9 h.1,z,hz,yZ h.2,rfl⟩) ho
       .trivial
     .trivial
    .trivial
   .trivial
  .trivial
 case load t a=>
  simp only[opC];split
  .rename_i i hi;exact So hi ho
  .trivial
 case store t a x=>
  simp only[opC];split
  .rename_i i hi;exact I5 hi ho
  .trivial
 case nilCheck x=>exact Me ho
 case binOp op t x y t'=>
  simp only[opC];split
  .rename_i i hi;split
   .rename_i k f hd hf;exact Oi hf ho
   .rename_i ms hd;exact Q7 λh=>PA hi hd h ho
   .refine EJ λh=>?_;refine Tl (λhe j hj hagg=>?_) ho;rw[hi]at hj;cases hj;rw[he,hagg]at h;simpa using h
  .trivial
 case unOp op t x=>
  cases op
  case not=>exact Vn ho
  case neg=>exact US ho
  all_goals trivial
 case convert s t x=>
  simp only[opC];split
  .rename_i i j hi hj;split
   .rename_i hd hd';exact Ng hi hj hd hd' ho
   .rename_i hd hd';exact NL hi hj hd hd' ho
   .rename_i u hd hd';split
    .rename_i ui hu;exact EJ λh=>LH hi hd hj hd' hu (CT h) ho
    .trivial
   .rename_i u hd hd';split
    .rename_i ui hu;exact EJ λh=>IM hi hd hj hd' hu (CT h) ho
    .trivial
   .rename_i e hd hd';split
    .rename_i k hk;split
     .rename_i hk';exact Io hi hj hd hd' hk hk' ho
     .trivial
    .trivial
   .rename_i e hd hd';split
    .rename_i k hk;split
     .rename_i hk';exact IQ hi hj hd hd' hk hk' ho
     .trivial
    .trivial
   .trivial
  .trivial
 case makeInterface t x=>
  simp only[opC];split
  .rename_i i hi;split
   .trivial
   .rename_i hd;exact Mw hi (λms h=>hd ms h) ho
  .trivial
 case makeFunc f fi ca=>
  cases f
  case func f=>exact OZ ho
  all_goals trivial
 case makeMap t r=>
  cases r
  case none=>exact Oy ho
  case some=>trivial
 case makeSlice t l c=>
  simp only[opC];split
  .rename_i i hi;split
   .rename_i e hd;split
    .rename_i ei hei;refine EJ λh0=>?_;split
     .rename_i z hz;exact Q7 λh=>LM hi hd hei hz (yZ h) (CT h0) ho
     .trivial
    .trivial
   .trivial
  .trivial
 case slice t x lo hi mx=>
  simp only[opC];split
  .rename_i i hi;split
   .rename_i hd;exact K8 hi hd ho
   .rename_i e hd;split
    .rename_i ei hei;exact Ni hi hd hei ho
    .trivial
   .rename_i n e hd;split
    .rename_i ei hei;exact LC hi hd hei ho
    .trivial
   .trivial
  .trivial
 case fieldAddr t x f=>
  simp only[opC];split
  .rename_i i hi;split
   .rename_i fields hd;split
    .rename_i fd hfd;split
     .rename_i fi hfi;exact EJ λh=>J1 hi hd hfd hfi (CT h) ho
     .trivial
    .trivial
   .trivial
  .trivial
 case field t x f=>
  simp only[opC];split
  .rename_i i hi;split
   .rename_i fields hd;split
    .rename_i fd hfd;split
     .rename_i fi hfi;exact QQ hi hd hfd hfi ho
     .trivial
    .trivial
   .trivial
  .trivial
 case indexAddr t x ix=>
  simp only[opC];split
  .rename_i i hi;split
   .rename_i n e hd;split
    .rename_i ei hei;exact Hk hi hd hei ho
    .trivial
   .rename_i e hd;split
    .rename_i ei hei;exact Ik hi hd hei ho
    .trivial
   .trivial
  .trivial
 case index t x ix=>
  simp only[opC];split
  .rename_i i hi;split
   .rename_i n e hd;split
    .rename_i ei hei;exact LS hi hd hei ho
    .trivial
   .rename_i hd;exact Mc hi hd ho
   .trivial
  .trivial
 case lookup t x k ok=>
  simp only[opC];split
  .rename_i i hi;split
   .rename_i kt et hd;split
    .rename_i ki z hki hz;exact Ps hi hd hki hz ho
    .trivial
   .trivial
  .trivial
 case mapUpdate t m k x=>
  simp only[opC];split
  .rename_i i hi;split
   .rename_i kt et hd;split
    .rename_i ki hki;exact Ez hi hd hki (.inl ho)
    .trivial
   .trivial
  .trivial
 case insert t m k x=>
  simp only[opC];split
  .rename_i i hi;split
   .rename_i kt et hd;split
    .rename_i ki hki;exact Ez hi hd hki (.inr ho)
    .trivial
   .trivial
  .trivial
 case mapEntry t m k=>
  simp only[opC];split
  .rename_i i hi;split
   .rename_i kt et hd;split
    .rename_i ki z hki hz;exact JY hi hd hki hz ho
    .trivial
   .trivial
  .trivial
 case entryStore t m s x=>exact Ip ho
 case range t x=>
  simp only[opC];split
  .rename_i i hi;split
   .rename_i hd;exact NW hi hd ho
   .rename_i hd;exact J7 hi hd ho
   .trivial
  .trivial
 case next it b=>
  cases b
  case true=>exact Lo ho
  case false=>exact Ml ho
 case entry it=>exact LN ho
 case extract t i=>exact MP ho
 case call c=>
  simp only[opC];split
  .rename_i f hc;exact Pv hc ho
  .rename_i b hc;exact N7 hc ho
  .trivial
 case defer c=>
  simp only[opC];split
  .rename_i f hc has;exact Pt hc has ho
  .trivial
 all_goals trivial
end
def GI(P:zZ)(call:Call):Prop:=∀(f:FuncId)(args:List CV)(S:St)(v:CV)(S':St)(ρ:Ren)(w:ze)(L:List zg),call f args S= .ok v S'->Rel ρ S w->FE P ρ->yG ρ args=some L->∀(o:eS)(a:lH)(next:lH->ze->Prop)(Q:Exit->lH->ze->Prop),(∀ρ' w' V,Stp ρ S w ρ' S' w'->yx ρ' v=some V->next (a.put o.dst V) w')->o.upon P a next Q ((callFunc f L.toArray).run P w)
section
variable{P:zZ}
theorem PR{o:eS}{f:Tm->St->Option (Jd×St)}(hc:Bn P o f){call:Call}(hcall:GI P call){tm:Tm}{S S':St}{v:CV}(hrun:Ch call (f tm S)=.ok v S'){ρ:Ren}{nt:Nat}{a:lH}{w:ze}(hf:A6 ρ nt tm a)(hg:FE P ρ)(hr:Rel ρ S w){K:lH->ze->Prop}{Q:Exit->lH->ze->Prop}(hK:∀ρ' w' V(a':lH),a'.tmps=a.tmps->As P a.defers a'.defers->Stp ρ S w ρ' S' w'->yx ρ' v=some V->K (a'.put o.dst V) w'):o.wp P a w K Q:=by
 unfold zbE;cases hfs:f tm S with
 |none=>rw[hfs]at hrun;simp[Ch]at hrun
 |some q=>
  obtain⟨r,k⟩:=q;have:=hc ρ nt tm a r S k w hf hg hr hfs;rw[hfs]at hrun;cases r with
  |val u=>obtain⟨ρ',w',V,c,h,b⟩:=this;simp only[Ch,N6.ok.injEq]at hrun;obtain⟨rfl,rfl⟩:=hrun;rw[b];exact hK ρ' w' V a rfl (.refl _) c h
  |undef=>
   obtain⟨ρ',w',c,b⟩:=this;simp only[Ch,N6.ok.injEq]at hrun;obtain⟨rfl,rfl⟩:=hrun;rcases b with b|⟨j,d,b⟩
   .rw[b];exact hK ρ' w' zl a rfl (.refl _) c rfl
   .rw[b];exact hK ρ' w' zl {a with defers:=j::a.defers} rfl (.cons d) c rfl
  |call g args=>obtain⟨rfl,L,i,b⟩:=this;simp only[Ch]at hrun;rw[b];exact hcall g args _ v S' ρ w L hrun hr hg i o a K Q (λρ' w' V c h=>hK ρ' w' V a rfl (.refl _) c h)
theorem TN{o:eS}{f:Tm->Option CV}(hc:Ax P o f){tm:Tm}{S:St}{v:CV}(hrun:f tm=some v){ρ:Ren}{nt:Nat}{a:lH}{w:ze}(hf:A6 ρ nt tm a)(hg:FE P ρ)(hr:Rel ρ S w){K:lH->ze->Prop}{Q:Exit->lH->ze->Prop}(hK:∀ρ' w' V,Stp ρ S w ρ' S w'->yx ρ' v=some V->K (a.put o.dst V) w'):o.wp P a w K Q:=by unfold zbE;obtain⟨V,b,c⟩:=hc ρ nt tm a v hf hg hrun;rw[c w];exact hK ρ w V (Stp.refl hr) b
theorem VO{o:eS}{f:Tm->St->Option CV}(hc:Gf P o f){tm:Tm}{S:St}{v:CV}(hrun:f tm S=some v){ρ:Ren}{nt:Nat}{a:lH}{w:ze}(hf:A6 ρ nt tm a)(hg:FE P ρ)(hr:Rel ρ S w){K:lH->ze->Prop}{Q:Exit->lH->ze->Prop}(hK:∀ρ' w' V,Stp ρ S w ρ' S w'->yx ρ' v=some V->K (a.put o.dst V) w'):o.wp P a w K Q:=by unfold zbE;obtain⟨V,b,c⟩:=hc ρ nt tm a v S w hf hg hr.has hrun;rw[c];exact hK ρ w V (Stp.refl hr) b
theorem Xf{o:eS}{f:Tm->Option (Bp×(Nat->CV))}(hc:NB P o f){tm:Tm}{S S':St}{obj:Bp}{mk:Nat->CV}{b:Nat}(hrun:f tm=some (obj,mk))(hal:alloc S obj=some (b,S')){ρ:Ren}{nt:Nat}{a:lH}{w:ze}(hf:A6 ρ nt tm a)(hg:FE P ρ)(hr:Rel ρ S w){K:lH->ze->Prop}{Q:Exit->lH->ze->Prop}(hK:∀ρ' w' V,Stp ρ S w ρ' S' w'->yx ρ' (mk b)=some V->K (a.put o.dst V) w'):o.wp P a w K Q:=by
 unfold zbE;obtain⟨O,i,j⟩:=hc ρ nt tm a obj mk hf hg hrun;obtain⟨V,h,d⟩:=j w;obtain⟨g,k,l⟩:=S;simp only[alloc]at hal;cases hb:zB k lim with
 |false=>rw[hb]at hal;cases hal
 |true=>rw[hb,cond_true]at hal;cases hal;rw[h];have c:=Stp.alloc (S:=⟨g,_,l⟩) (w':={w with heap:=w.heap.push O}) hr i (yF hb) rfl rfl rfl rfl;exact hK _ _ V c (d _ _ (by simp[Ren.extb]))
theorem KT{ρ:Ren}{nt:Nat}{tm:Tm}{a:lH}(hf:A6 ρ nt tm a){ops:Array eS}{j d:Nat}{oj:eS}(hj:ops.toList[j]?=some oj)(hd:oj.dst=some d){v:CV}(hv:(RQ d).eval tm=some v):yielded ops a.tmps j=(match v with|.bool b=>some b|_=>none):=by
 rw[CD]at hv;split at hv
 .rename_i hlt;obtain⟨V,c,h⟩:=hf.val d v hlt hv;have g:ops[j]?=some oj:=by simpa using hj
  have f:a.tmps[(d:Nat)]?=some V:=h;simp only[yielded,g,Option.bind_some,hd];rw[f];cases v<;>simp only[yx,zb,zh,zu]at c;all_goals(first|(subst c;rfl)|(obtain⟨_,_,rfl⟩:=c;rfl)|(obtain⟨a,_,rfl⟩:=c;cases a<;>rfl)|(obtain⟨_,_,_,_,rfl⟩:=c;rfl))
 .cases hv
theorem Eu{ρ:Ren}{nt:Nat}{tm:Tm}{a:lH}(hf:A6 ρ nt tm a){ops:Array eS}{o:eS}{b:Bool}(hw:Bm (guC ops.toList o) tm=some b):lS o (yielded ops a.tmps)=b:=by
 unfold guC at hw;cases hg:o.guard with
 |none=>simp only[JM,hg]at hw;simp only[Bm,zb]at hw;subst hw;simp[lS,hg]
 |some p=>
  obtain⟨j,f⟩:=p;simp only[JM,hg]at hw;cases hj:ops.toList[j]?with
  |none=>rw[hj]at hw;simp[Bm]at hw
  |some oj=>
   rw[hj]at hw;simp only at hw;cases hd:oj.dst with
   |none=>rw[hd]at hw;simp[Bm]at hw
   |some d=>
    rw[hd]at hw;simp only[Bm]at hw;split at hw
    .rename_i c hv;simp only[zb]at hw;subst hw;have:=KT hf hj hd hv;simp only[lS,hg,this];cases c<;>cases f<;>rfl
    .rename_i v hn hv;simp only[zb]at hw;subst hw;have:=KT hf hj hd hv;simp only[lS,hg,this];cases v<;>first|rfl|exact(hn _ rfl).elim
    .cases hw
theorem SQ(R:Nat)(f:Tm->Option CV)(d:Dst)(next:CC)(call:Call)(tm:Tm)(S:St):DA R (.pure f d next) call tm S=(match f tm with|none=>.fail|some v=>DA R next call (De d v tm) S):=by show iO (motive:=λ_=>Res) _ _ (f tm)=_;cases f tm<;>rfl
theorem TI(R:Nat)(f:Tm->St->Option CV)(d:Dst)(next:CC)(call:Call)(tm:Tm)(S:St):DA R (.read f d next) call tm S=(match f tm S with|none=>.fail|some v=>DA R next call (De d v tm) S):=by show iO (motive:=λ_=>Res) _ _ (f tm S)=_;cases f tm S<;>rfl
theorem Uc(R:Nat)(f:Tm->Option (Bp×(Nat->CV)))(d:Dst)(next:CC)(call:Call)(tm:Tm)(S:St):DA R (.new f d next) call tm S=(match f tm with|none=>.fail|some (o,mk)=>(match alloc S o with|none=>.fail|some (b,S)=>DA R next call (De d (mk b) tm) S)):=by
 show iO (motive:=λ_=>Res) _ _ (f tm)=_;cases f tm with
 |none=>rfl
 |some p=>
  obtain⟨o,mk⟩:=p;show iO (motive:=λ_=>Res) _ _ (alloc S o)=_;simp only;cases alloc S o with
  |none=>rfl
  |some q=>rfl
theorem Sd(R:Nat)(f:Tm->St->Option (Jd×St))(d:Dst)(next:CC)(call:Call)(tm:Tm)(S:St):DA R (.chain f d next) call tm S=(match Ch call (f tm S)with|.fail=>.fail|.ok v S=>DA R next call (De d v tm) S):=by show N6.rec (motive:=λ_=>Res) _ _ (Ch call (f tm S))=_;cases Ch call (f tm S)<;>rfl
theorem RM(R:Nat)(d:Dst)(next:CC)(call:Call)(tm:Tm)(S:St):DA R (.undef d next) call tm S=DA R next call (De d AV tm) S:=rfl
theorem RG(R:Nat)(x:Opd)(want:Bool)(yes no:CC)(call:Call)(tm:Tm)(S:St):DA R (.guard x want yes no) call tm S=(match Bm (.on x want) tm with|none=>.fail|some true=>DA R yes call tm S|some false=>DA R no call tm S):=by
 show(match x.eval tm with
   |some (.bool b)=>bif b==want then DA R yes call tm S else DA R no call tm S
   |some _=>DA R no call tm S
   |none=>Res.fail)=_
 have e:Bm (.on x want) tm=(match x.eval tm with|some (.bool b)=>some (b==want)|some _=>some false|none=>none):=rfl;rw[e];generalize x.eval tm=q;cases q with
 |none=>rfl
 |some v=>
  cases v with
  |bool b=>cases b<;>cases want<;>rfl
  |_=>rfl
theorem SC(R:Nat)(x:Opd)(yes no:CC)(call:Call)(tm:Tm)(S:St):DA R (.cond x yes no) call tm S=(match x.eval tm with|some (.bool b)=>(match b with|true=>DA R yes call tm S|false=>DA R no call tm S)|_=>.fail):=by
 show iO (motive:=λ_=>Res) _ _ (x.eval tm)=_;cases x.eval tm with
 |none=>rfl
 |some v=>
  cases v with
  |bool b=>cases b<;>rfl
  |_=>rfl
theorem Q3(R:Nat)(id:Nat)(body next:CC)(call:Call)(tm:Tm)(S:St):DA R (.block id body next) call tm S=(match DA R body call tm S with
   |.fail=>.fail
   |.normal tm S=>DA R next call tm S
   |.exit i tm S=>(match zD i id with|true=>DA R next call tm S|false=>.exit i tm S)
   |.ret tm S=>.ret tm S):=by
 show Res.rec (motive:=λ_=>Res) _ _ _ _ (DA R body call tm S)=_;cases DA R body call tm S with
 |fail=>rfl
 |normal tm S=>rfl
 |exit i tm S=>show Bool.rec (motive:=λ_=>Res) _ _ (zD i id)=_;simp only;cases zD i id<;>rfl
 |ret tm S=>rfl
noncomputable def FG(R:Nat)(body:CC)(call:Call):Nat->Tm->St->Res
 |0,_,_=>.fail
 |n+1,tm,S=>(match DA R body call tm S with
  |.fail=>.fail
  |.normal tm S=>FG R body call n tm S
  |.exit i tm S=>.exit i tm S
  |.ret tm S=>.ret tm S)
theorem Sr(R:Nat)(body:CC)(call:Call)(tm:Tm)(S:St):DA R (.loop body) call tm S=FG R body call R tm S:=by
 have a:∀(n:Nat)(tm:Tm)(S:St),Nat.rec (motive:=λ_=>Tm->St->Res) (λ_ _=>.fail) (λ_ again tm S=>Res.rec (motive:=λ_=>Res) .fail (λtm S=>again tm S) (λi tm S=>.exit i tm S) (λtm S=>.ret tm S) (DA R body call tm S)) n tm S=FG R body call n tm S:=by
  intro n;induction n with
  |zero=>intro tm S;rfl
  |succ n ih=>
   intro tm S;show Res.rec (motive:=λ_=>Res) _ _ _ _ (DA R body call tm S)=FG R body call (n+1) tm S;rw[FG];cases DA R body call tm S with
   |normal tm S=>exact ih tm S
   |_=>rfl
 exact a R tm S
structure At(P:zZ)(nt:Nat)(ρ:Ren)(tm:Tm)(S:St)(a:lH)(w:ze):Prop where
 rel:Rel ρ S w
 fr:A6 ρ nt tm a
 glob:FE P ρ
theorem At.step{nt:Nat}{ρ ρ':Ren}{tm:Tm}{S S':St}{a:lH}{w w':ze}(h:At P nt ρ tm S a w)(hs:Stp ρ S w ρ' S' w'){dst:Option Tmp}{d:Dst}(hd:Dg nt dst=some d){v:CV}{V:zg}(hv:yx ρ' v=some V):At P nt ρ' (De d v tm) S' (a.put dst V) w':=⟨hs.rel,(h.fr.mono hs.ext).put hd hv,h.glob.mono hs.ext⟩
theorem A6.act{ρ:Ren}{nt:Nat}{tm:Tm}{a a':lH}(h:A6 ρ nt tm a)(ht:a'.tmps=a.tmps):A6 ρ nt tm a':=⟨by rw[ht];exact h.size,λt v h1 h2=>by rw[ht];exact h.val t v h1 h2⟩
theorem At.act{nt:Nat}{ρ:Ren}{tm:Tm}{S:St}{a a':lH}{w:ze}(h:At P nt ρ tm S a w)(ht:a'.tmps=a.tmps):At P nt ρ tm S a' w:=⟨h.rel,⟨by rw[ht];exact h.fr.size,λt v h1 h2=>by rw[ht];exact h.fr.val t v h1 h2⟩,h.glob⟩
theorem MS{call:Call}(hcall:GI P call){nt:Nat}{ops:Array eS}{R:Nat}{next:CC}{r:Res}(hr:r≠ .fail){K:lH->ze->Prop}{Q:Exit->lH->ze->Prop}:∀(l:List eS)(i:Nat),ops.toList.drop i=l->∀(ρ:Ren)(tm:Tm)(S:St)(a:lH)(w:ze),At P nt ρ tm S a w->DA R (Ny P nt ops.toList l next) call tm S=r->(∀ρ' tm' S' a' w',Stp ρ S w ρ' S' w'->At P nt ρ' tm' S' a' w'->As P a.defers a'.defers->DA R next call tm' S'=r->K a' w')->wpOps P ops (ef K Q) (oS i l.length) a w
 |[],i,hl,ρ,tm,S,a,w,hat,hrun,hK=>by simp only[List.length_nil,List.range'_zero,wpOps,ef];exact hK ρ tm S a w (Stp.refl hat.rel) hat (.refl _) hrun
 |o::l,i,hl,ρ,tm,S,a,w,hat,hrun,hK=>by
  have ho:ops[i]?=some o:=by
   have:ops.toList[i]?=some o:=by have h:=congrArg (λm=>m[0]?) hl;simpa using h
   simpa using this
  have q:ops.toList.drop (i+1)=l:=by have h:=congrArg (List.drop 1) hl;simpa[List.drop_drop,Nat.add_comm]using h
  simp only[List.length_cons,List.range'_succ,wpOps,ho];simp only[Ny]at hrun;split at hrun
  .rename_i d hd;have k:∀(v:CV)(j:St),DA R (Ny P nt ops.toList l next) call (De d v tm) j=r->∀ρ' w' V(a1:lH),a1.tmps=a.tmps->As P a.defers a1.defers->Stp ρ S w ρ' j w'->yx ρ' v=some V->wpOps P ops (ef K Q) (oS (i+1) l.length) (a1.put o.dst V) w':=by intro v j n ρ' w' V a1 ht1 hd1 hs hv;refine MS hcall hr l (i+1) q ρ' _ j _ w' ((hat.act ht1).step hs hd hv) n (λρ'' tm'' S'' a'' w'' h1 h2 h3 h4=>?_);exact hK ρ'' tm'' S'' a'' w'' (hs.trans h1) h2 ((hd1.trans (As.of (BO _ _ _))).trans h3) h4
   have g:∀(v:CV)(j:St),DA R (Ny P nt ops.toList l next) call (De d v tm) j=r->∀ρ' w' V,Stp ρ S w ρ' j w'->yx ρ' v=some V->wpOps P ops (ef K Q) (oS (i+1) l.length) (a.put o.dst V) w':=λv j h ρ' w' V hs hv=>k v j h ρ' w' V a rfl (.refl _) hs hv;have p:DA R (Wz (opC P o.op) d (Ny P nt ops.toList l next)) call tm S=r->o.wp P a w (wpOps P ops (ef K Q) (oS (i+1) l.length)) (ef K Q):=by
    intro hrun;have c:=SE P o;cases hc:opC P o.op with
    |bad=>rw[hc]at hrun;exact absurd hrun.symm hr
    |pure f=>
     rw[hc]at hrun c;simp only[Wz,SQ]at hrun;split at hrun
     .exact absurd hrun.symm hr
     .rename_i v hv;exact TN c hv hat.fr hat.glob hat.rel (g v S hrun)
    |read f=>
     rw[hc]at hrun c;simp only[Wz,TI]at hrun;split at hrun
     .exact absurd hrun.symm hr
     .rename_i v hv;exact VO c hv hat.fr hat.glob hat.rel (g v S hrun)
    |new f=>
     rw[hc]at hrun c;simp only[Wz,Uc]at hrun;split at hrun
     .exact absurd hrun.symm hr
     .rename_i obj mk hv;split at hrun
      .exact absurd hrun.symm hr
      .rename_i b j hal;exact Xf c hv hal hat.fr hat.glob hat.rel (g (mk b) j hrun)
    |chain f=>
     rw[hc]at hrun c;simp only[Wz,Sd]at hrun;split at hrun
     .exact absurd hrun.symm hr
     .rename_i v j hv;exact PR c hcall hv hat.fr hat.glob hat.rel (k v j hrun)
   cases hg:guC ops.toList o with
   |bad=>rw[hg]at hrun;exact absurd hrun.symm hr
   |free=>rw[hg]at hrun;simp only[XB]at hrun;have:=Eu hat.fr (ops:=ops) (o:=o) (b:=true) (by rw[hg];rfl);rw[this,if_pos rfl];exact .inl (p hrun)
   |on x want=>
    rw[hg]at hrun;simp only[XB,RG]at hrun;split at hrun
    .exact absurd hrun.symm hr
    .rename_i hw;have:=Eu hat.fr (ops:=ops) (o:=o) (b:=true) (by rw[hg];exact hw);rw[this,if_pos rfl];exact .inl (p hrun)
    .rename_i hw;have:=Eu hat.fr (ops:=ops) (o:=o) (b:=false) (by rw[hg];exact hw);rw[this];simp only[zH,if_false];rw[RM]at hrun;exact g AV S hrun ρ w zl (Stp.refl hat.rel) rfl
  .exact absurd hrun.symm hr
end
end Go.Ev
