/-
  Part of the proof: The evaluator's code and calls are sound.
-/
import Derived.Test.YtpdlpdkehminlaaGreatDoorEvO
set_option linter.all false
set_option maxRecDepth 100000
set_option maxHeartbeats 20000000
open Array renaming getElem?_eq_getElem->zU,getElem?_eq_some_iff->eh,getElem?_push_lt->zaw,replicate->eD,toList_append->lU
open Bool renaming and_eq_true->zo,false_eq_true->zH,or_eq_true->iX
open Go renaming Act->lH,Deferred->zam,Operand->eo,Program->zZ,ResultVar->zdZ,Value->zg,World->ze,undef->zl
open Go.Call renaming operands->zbX
open Go.Exit renaming inBlock->zdX,«then»->ef
open Go.Op renaming operands->zJ
open Go.Region renaming binds->zR
open Go.Result renaming andThen_ok->zr
open Go.Sem renaming run_bind->zK,run_pure->zP
open List renaming getElem?_cons_zero->zW,length_cons->lN,map_cons->iZ,mem_append->eZ,mem_cons->zO,mem_cons_of_mem->eJ,mem_filter->ie,nodup_cons->zbO,not_mem_nil->e8
open List.Sublist renaming map->zeh
open Nat renaming ble->ic,casesOn->zei,le_refl->zn,lt_or_ge->ly
open Option renaming bind_eq_some_iff->zu
open Option.some renaming injEq->zb
open Prod.mk renaming injEq->eH
namespace Go.Ev
theorem Stp.same{ρ ρ':Ren}{S S':St}{w w2 w':ze}(h:Stp ρ S w2 ρ' S' w')(e:w2.heap=w.heap)(e1:w2.os=w.os)(e2:w2.tape=w.tape)(e3:w2.output=w.output):Stp ρ S w ρ' S' w':=⟨h.ext,h.rel,h.next,h.nk,λx hx hn=>by rw[h.keep x (by rw[e];exact hx) hn,e],by rw[<-e];exact h.size,λb B D hb hB hlt=>h.dom b B D hb hB (by rw[e];exact hlt),h.os.trans e1,h.tape.trans e2,h.output.trans e3,h.old,λb B D hb hB hlt=>h.domW b B D hb hB (by rw[e];exact hlt)⟩
def Qs(P:zZ):Prop:=∀(call:Call),GI P call->∀(nt:Nat)(ops:Array Oper)(K:lH->ze->Prop)(Q:Exit->lH->ze->Prop)(r:Res)(k:Tm->St->Res)(ρ:Ren)(tm:Tm)(S:St)(a:lH)(w:ze),At P nt ρ tm S a w->OW (T6 P nt ops.toList) call tm S k=r->r≠ .fail->(∀ρ' tm' S' a' w',Stp ρ S w ρ' S' w'->At P nt ρ' tm' S' a' w'->As P a.defers a'.defers->k tm' S'=r->K a' w')->wpAny P .any ops (ef K Q) ops.size (eD ops.size false) a w
def Ug(P:zZ)(nt:Nat)(ρ:Ren)(S:St)(w:ze)(dfs:List zam)(r:Res)(e:Exit)(a:lH)(w':ze):Prop:=
 match r with
 |.fail=>False
 |.normal tm S'=>e=.normal/\∃ρ',Stp ρ S w ρ' S' w'/\At P nt ρ' tm S' a w'/\As P dfs a.defers
 |.exit id tm S'=>e=.exit id/\∃ρ',Stp ρ S w ρ' S' w'/\At P nt ρ' tm S' a w'/\As P dfs a.defers
 |.ret tm S'=>e=.ret/\∃ρ',Stp ρ S w ρ' S' w'/\At P nt ρ' tm S' a w'/\As P dfs a.defers
theorem Ug.from{P:zZ}{nt:Nat}{ρ ρ1:Ren}{S S1:St}{w w1 w':ze}{d1 dfs:List zam}{r:Res}{e:Exit}{a:lH}(h:Ug P nt ρ1 S1 w1 d1 r e a w')(hs:Stp ρ S w ρ1 S1 w1)(hd:As P dfs d1):Ug P nt ρ S w dfs r e a w':=by
 cases r with
 |fail=>exact h
 |normal tm S'=>obtain⟨b,ρ',d,f,c⟩:=h;exact⟨b,ρ',hs.trans d,f,hd.trans c⟩
 |exit id tm S'=>obtain⟨b,ρ',d,f,c⟩:=h;exact⟨b,ρ',hs.trans d,f,hd.trans c⟩
 |ret tm S'=>obtain⟨b,ρ',d,f,c⟩:=h;exact⟨b,ρ',hs.trans d,f,hd.trans c⟩
section
variable{P:zZ}
theorem QN(hm:P.follows .mixedOrders=true)(hdraw:Qs P){call:Call}(hcall:GI P call){nt R:Nat}(c:Code):∀(next:CC)(r:Res)(K:lH->ze->Prop)(Q:Exit->lH->ze->Prop)(ρ:Ren)(tm:Tm)(S:St)(a:lH)(w:ze),At P nt ρ tm S a w->DA R (Cf P nt c next) call tm S=r->r≠ .fail->(∀ρ' tm' S' a' w',Stp ρ S w ρ' S' w'->At P nt ρ' tm' S' a' w'->As P a.defers a'.defers->DA R next call tm' S'=r->K a' w')->(∀e a' w',e≠ .normal->Ug P nt ρ S w a.defers r e a' w'->Q e a' w')->c.wp P (ef K Q) a w:=by
 induction c with
 |skip=>intro next r K Q ρ tm S a w hat b hr hK hQ;exact wp_skip (hK ρ tm S a w (Stp.refl hat.rel) hat (.refl _) b)
 |label l=>intro next r K Q ρ tm S a w hat b hr hK hQ;exact wp_label (hK ρ tm S a w (Stp.refl hat.rel) hat (.refl _) b)
 |exit id=>intro next r K Q ρ tm S a w hat b hr hK hQ;have b:Res.exit id tm S=r:=b;subst b;exact wp_exit (hQ _ a w (by simp) ⟨rfl,ρ,Stp.refl hat.rel,hat,.refl _⟩)
 |ret=>intro next r K Q ρ tm S a w hat b hr hK hQ;have b:Res.ret tm S=r:=b;subst b;exact wp_ret (hQ _ a w (by simp) ⟨rfl,ρ,Stp.refl hat.rel,hat,.refl _⟩)
 |seq x y ihx ihy=>
  intro next r K Q ρ tm S a w hat b hr hK hQ;refine wp_seq (ihx (Cf P nt y next) r (y.wp P (ef K Q)) (ef K Q) ρ tm S a w hat b hr (λρ' tm' S' a' w' d g f j=>?_) (λe a' w' he h=>?_))
  .refine ihy next r K Q ρ' tm' S' a' w' g j hr (λρ2 tm2 S2 a2 w2 g1 g2 g3 g4=>hK ρ2 tm2 S2 a2 w2 (d.trans g1) g2 (f.trans g3) g4) (λe a2 w2 he h=>hQ e a2 w2 he (h.from d f))
  .have:=hQ e a' w' he h;cases e<;>first|exact(he rfl).elim|exact this
 |cond x yes no ihy ihn=>
  intro next r K Q ρ tm S a w hat b hr hK hQ;simp only[Cf,SC]at b;cases ht:(opd P x).eval tm with
  |none=>rw[ht]at b;exact absurd b.symm hr
  |some u=>
   rw[ht]at b;cases u with
   |bool t=>
    have o:=ym hat.fr hat.glob x _ ht;simp only[yx,zb]at o;cases t with
    |true=>exact wp_cond_true o.symm (ihy next r K Q ρ tm S a w hat b hr hK hQ)
    |false=>exact wp_cond_false o.symm (ihn next r K Q ρ tm S a w hat b hr hK hQ)
   |_=>exact absurd b.symm hr
 |block id body ih=>
  intro next r K Q ρ tm S a w hat b hr hK hQ;simp only[Cf,Q3]at b;refine wp_block ?_;refine wp_mono (ih .fin (DA R (Cf P nt body .fin) call tm S) K (zdX id (ef K Q)) ρ tm S a w hat rfl (λe=>by rw[e]at b;exact hr b.symm) (λρ' tm' S' a' w' d g f j=>?_) (λe a' w' he h=>?_)) (λe a' w' h=>?_)
  .have j:Res.normal tm' S'=_:=j;rw[<-j]at b;exact hK ρ' tm' S' a' w' d g f b
  .generalize DA R (Cf P nt body .fin) call tm S=q at b h;cases q with
   |fail=>exact h.elim
   |normal tm' S'=>exact(he h.1).elim
   |exit i tm' S'=>
    obtain⟨rfl,ρ',d,g,f⟩:=h;simp only at b;simp only[zdX];split at b
    .rename_i hb;rw[if_pos (yZ hb)];exact hK ρ' tm' S' a' w' d g f b
    .rename_i hb;rw[if_neg (CT hb)];subst b;exact hQ _ a' w' he ⟨rfl,ρ',d,g,f⟩
   |ret tm' S'=>obtain⟨rfl,ρ',d,g,f⟩:=h;subst b;exact hQ _ a' w' he ⟨rfl,ρ',d,g,f⟩
  .cases e<;>exact h
 |loop body ih=>
  intro next r K Q ρ tm S a w hat b hr hK hQ;simp only[Cf,Sr]at b;have m:∀(n:Nat)(ρ1:Ren)(tm1:Tm)(S1:St)(a1:lH)(w1:ze),Stp ρ S w ρ1 S1 w1->At P nt ρ1 tm1 S1 a1 w1->As P a.defers a1.defers->FG R (Cf P nt body .fin) call n tm1 S1=r->Code.rounds P body (ef K Q) n a1 w1:=by
   intro n;induction n with
   |zero=>intro ρ1 tm1 S1 a1 w1 _ _ _ h;exact absurd h.symm hr
   |succ n ihn=>
    intro ρ1 tm1 S1 a1 w1 hs1 hat1 hd1 h;rw[rounds_succ];rw[FG]at h;refine ih .fin (DA R (Cf P nt body .fin) call tm1 S1) _ _ ρ1 tm1 S1 a1 w1 hat1 rfl (λe=>by rw[e]at h;exact hr h.symm) (λρ' tm' S' a' w' d g f j=>?_) (λe a' w' he h'=>?_)
    .have j:Res.normal tm' S'=_:=j;rw[<-j]at h;exact ihn ρ' tm' S' a' w' (hs1.trans d) g (hd1.trans f) h
    .generalize DA R (Cf P nt body .fin) call tm1 S1=q at h h';cases q with
     |fail=>exact h'.elim
     |normal tm' S'=>exact(he h'.1).elim
     |exit i tm' S'=>obtain⟨rfl,ρ',d,g,f⟩:=h';subst h;exact hQ _ a' w' he ⟨rfl,ρ',hs1.trans d,g,hd1.trans f⟩
     |ret tm' S'=>obtain⟨rfl,ρ',d,g,f⟩:=h';subst h;exact hQ _ a' w' he ⟨rfl,ρ',hs1.trans d,g,hd1.trans f⟩
  exact wp_loop_rounds R (m R ρ tm S a w (Stp.refl hat.rel) hat (.refl _) b)
 |region id ops draws=>
  intro next r K Q ρ tm S a w hat b hr hK hQ;cases draws with
  |false=>refine wp_region ?_;have:=MS hcall (R:=R) (ops:=ops) (next:=next) hr (K:=K) (Q:=Q) ops.toList 0 rfl ρ tm S a w hat b hK;rwa [Array.length_toList,<-List.range_eq_range']at this
  |true=>
   refine wp_region_any hm ?_;have k:At P nt ρ tm S a {w with drawn:=w.drawn+1}:=⟨hat.rel.heap rfl,hat.fr,hat.glob⟩
   exact hdraw call hcall nt ops K Q r (λtm S=>DA R next call tm S) ρ tm S a _ k b hr (λρ' tm' S' a' w' d g f j=>hK ρ' tm' S' a' w' (d.same rfl rfl rfl rfl) g f j)
 |_=>intro next r K Q ρ tm S a w hat b hr hK hQ;exact absurd b.symm hr
end
section
variable{P:zZ}
theorem Qo:∀(vs:List CV)(tm:Tm)(i t:Nat),i+vs.length<=256->t<256->Ei t (VN tm i vs)=if i<=t/\t<i+vs.length then vs[t-i]?else Ei t tm
 |[],tm,i,t,h,ht=>by rw[if_neg (by simp only[List.length_nil];omega)];rfl
 |v::vs,tm,i,t,h,ht=>by
  simp only[lN]at h;simp only[VN];rw[Qo vs _ (i+1) t (by omega) ht];by_cases h1:i+1<=t/\t<i+1+vs.length
  .rw[if_pos h1,if_pos (by simp;omega)];rw[show t-i=(t-(i+1))+1 by omega];simp
  .rw[if_neg h1];by_cases h2:t=i
   .subst h2;rw[if_pos (by simp),CH _ _ _ ht];simp
   .rw[if_neg (by simp;omega),Cz _ _ _ _ (by omega) ht (λe=>h2 e.symm)]
theorem Ob{ρ:Ren}{args:List CV}{L:List zg}(h:yG ρ args=some L){nt:Nat}(h1:args.length<=nt)(h2:args.length<=256)(dfs:List zam):A6 ρ nt (VN .empty 0 args) {tmps:=L.toArray++eD (nt-L.toArray.size) zl,defers:=dfs}:=by
 have b:=Af h;refine⟨by simp;omega,λt v ht e=>?_⟩;rw[Qo args .empty 0 t (by omega) ht]at e;split at e
 .rename_i hlt;obtain⟨V,c,a⟩:=AX h _ _ e;refine⟨V,c,?_⟩;rw[Array.getElem?_append_left (by simp;omega)];simpa using a
 .rw[QX t ht]at e;cases e
def Qv(tmps:Array zg)(r:zdZ):Sem zg:=
 match r with
 |.tmp t=>pure (tmps.getD t zl)
 |.cell a t=>do loadVar t (<-asAddr (tmps.getD a zl))
theorem V3{r:zdZ}{f:Tm->St->Option CV}(hr:Xm P r=some f){nt:Nat}{ρ:Ren}{tm:Tm}{S:St}{a:lH}{w:ze}(hat:At P nt ρ tm S a w){v:CV}(hv:f tm S=some v):∃V,yx ρ v=some V/\(Qv a.tmps r).run P w=.ok V w:=by
 cases r with
 |tmp t=>simp only[Xm,zb]at hr;subst hr;exact⟨_,ym hat.fr hat.glob (.tmp t) v hv,rfl⟩
 |cell x t=>
  simp only[Xm]at hr;split at hr
  .rename_i i hi;cases hr;unfold Rn at hv;split at hv
   .rename_i p hp;have g:=ym hat.fr hat.glob (.tmp x) p hp;obtain⟨V,c,_,y,h,d⟩:=No hat.rel.has hi hv g;refine⟨V,c,?_⟩;have b:a.tmps.getD x zl=.pointer (some y):=h;simp only[Qv,b,asAddr,zK,zP,zr,d]
   .cases hv
  .cases hr
theorem H9{nt:Nat}{ρ:Ren}{tm:Tm}{S:St}{a:lH}{w:ze}(hat:At P nt ρ tm S a w):∀(rs:List zdZ)(l:List (Tm->St->Option CV))(vs:List CV),WB P rs=some l->Rl l tm S=some vs->∃L,yG ρ vs=some L/\(rs.mapM (Qv a.tmps)).run P w=.ok L w
 |[],l,vs,h,h'=>by simp only[WB,zb]at h;subst h;simp only[Rl,zb]at h';subst h';exact⟨[],rfl,rfl⟩
 |r::rs,l,vs,h,h'=>by
  simp only[WB]at h;split at h
  .rename_i f l' hf hl;cases h;simp only[Rl]at h';split at h'
   .rename_i v hv;split at h'
    .rename_i us hus;cases h';obtain⟨V,h1,h2⟩:=V3 hf hat hv;obtain⟨L,b,c⟩:=H9 hat rs l' us hl hus;refine⟨V::L,BM h1 b,?_⟩;rw[List.mapM_cons];simp only[zK,h2,zr,c,zP]
    .cases h'
   .cases h'
  .cases h
theorem Q4(fn:Func)(tmps:Array zg):results fn tmps=((fn.results.mapM (Qv tmps))>>=λvs=>pure (if h:vs.size=1 then vs[0]else .tuple vs)):=rfl
theorem Pm{nt:Nat}{ρ:Ren}{tm:Tm}{S:St}{a:lH}{w:ze}(hat:At P nt ρ tm S a w){fn:Func}{l:List (Tm->St->Option CV)}{vs:List CV}(h:WB P fn.results.toList=some l)(h':Rl l tm S=some vs):∃V,yx ρ (Tq vs)=some V/\(results fn a.tmps).run P w=.ok V w:=by
 obtain⟨L,b,d⟩:=H9 hat fn.results.toList l vs h h';have e:(results fn a.tmps).run P w=.ok (if h:L.toArray.size=1 then L.toArray[0]else .tuple L.toArray) w:=by rw[Q4,Array.mapM_eq_mapM_toList];simp only[zK,Sem.run_map,zr,d,zP]
 rw[e];clear e d h' h;cases vs with
 |nil=>simp only[yG,zb]at b;subst b;exact⟨_,rfl,rfl⟩
 |cons v vs=>
  cases vs with
  |nil=>simp only[yG,zu,Option.map_eq_some_iff,zb]at b;obtain⟨V,f,_,rfl,rfl⟩:=b;exact⟨V,f,rfl⟩
  |cons u vs=>have c:=Af b;refine⟨.tuple L.toArray,by simp[Tq,yx,b],?_⟩;rw[dif_neg (by simp only[List.size_toArray,c,lN];omega)]
def Ha(P:zZ)(prims:QS):Prop:=∀(f:FuncId)(p:List CV->St->N6),prims f=some p->∀(args:List CV)(S:St)(v:CV)(S':St)(ρ:Ren)(w:ze)(L:List zg),p args S= .ok v S'->Rel ρ S w->FE P ρ->yG ρ args=some L->∀(o:Oper)(a:lH)(next:lH->ze->Prop)(Q:Exit->lH->ze->Prop),(∀ρ' w' V,Stp ρ S w ρ' S' w'->yx ρ' v=some V->next (a.put o.dst V) w')->o.upon P a next Q ((callFunc f L.toArray).run P w)
theorem Ja{fn:Func}{tmps:Array zg}{R:Ending->ze->Prop}{v:zg}{w:ze}(hr:(results fn tmps).run P w=.ok v w)(hR:R (.returned v) w):∀ds:List zam,(∀d,d∈ds->UX P d)->Leaves P fn tmps R ds .returning w
 |[],_=>⟨v,hr,hR⟩
 |d::ds,h=>by obtain⟨fv,cap,f,args,e1,e2,e3⟩:=h d (by simp);refine⟨by simp,fv,cap,f,args,e1,e2 w,(e3 w).mono λe u' w' hh=>?_⟩;obtain⟨⟨a,rfl⟩,rfl,rfl⟩:=hh;exact Ja hr hR ds (λd hd=>h d (by simp[hd]))
theorem QE(hm:P.follows .mixedOrders=true)(hdraw:Qs P){call:Call}(hcall:GI P call){f:FuncId}{args:List CV}{S S':St}{v:CV}(h:TH (fnC P f) call args S=.ok v S'){ρ:Ren}{w:ze}{L:List zg}(hr:Rel ρ S w)(hg:FE P ρ)(hL:yG ρ args=some L):(∃fn,P.funcs[f]?=some fn/\fn.body.isSome=true)/\Calls P f L.toArray w λe w'=>∃ρ' V,e=.returned V/\Stp ρ S w ρ' S' w'/\yx ρ' v=some V:=by
 unfold fnC at h;split at h
 .rename_i fn hfn;split at h
  .rename_i c hc;split at h
   .rename_i rs hrs;refine⟨⟨fn,hfn,by simp[hc]⟩,?_⟩;simp only[TH]at h;cases hb:(ic args.length fn.ntmps&&ic args.length 256)with
    |false=>rw[hb]at h;cases h
    |true=>
     rw[hb,cond_true]at h;simp only[zo]at hb;refine calls_of_wp_defers hfn hc ?_;have n:At P fn.ntmps ρ (VN .empty 0 args) S {tmps:=L.toArray++eD (fn.ntmps-L.toArray.size) zl,defers:=[]} w:=⟨hr,Ob hL (A9 hb.1) (A9 hb.2) [],hg⟩
     generalize p:XL (Cf P fn.ntmps c .fin) call (VN .empty 0 args) S=q at h;have g:∀(ρ':Ren)(tm':Tm)(S1:St)(a':lH)(w':ze),Stp ρ S w ρ' S1 w'->At P fn.ntmps ρ' tm' S1 a' w'->As P [] a'.defers->P6 rs tm' S1=.ok v S'->Leaves P fn a'.tmps (λe w'=>∃ρ' V,e=.returned V/\Stp ρ S w ρ' S' w'/\yx ρ' v=some V) a'.defers .returning w':=by
      intro ρ' tm' S1 a' w' b j k a;unfold P6 at a;split at a
      .rename_i vs hvs;cases a;obtain⟨V,r,s⟩:=Pm j hrs hvs;obtain⟨m,d,l⟩:=k;rw[List.append_nil]at d;rw[d];exact Ja s ⟨ρ',V,rfl,b,r⟩ m l
      .cases a
     have o:q≠ .fail:=λe=>by rw[e]at h;cases h
     refine wp_mono (QN hm hdraw hcall (R:=rounds) c .fin q (λa' w'=>∀e,(e=Exit.normal\/e=.ret)->bodyPostD P fn (λe w'=>∃ρ' V,e=.returned V/\Stp ρ S w ρ' S' w'/\yx ρ' v=some V) e a' w') (bodyPostD P fn (λe w'=>∃ρ' V,e=.returned V/\Stp ρ S w ρ' S' w'/\yx ρ' v=some V)) ρ _ S _ w n p o (λρ' tm' S1 a' w' b j k a e he=>?_) (λe a' w' he ha=>?_)) (λe a' w' h'=>?_)
     .have a:Res.normal tm' S1=q:=a;subst a;have:=g ρ' tm' S1 a' w' b j k h;rcases he with rfl|rfl<;>exact this
     .cases q with
      |fail=>exact ha.elim
      |normal tm' S1=>exact(he ha.1).elim
      |exit i tm' S1=>cases h
      |ret tm' S1=>obtain⟨rfl,ρ',b,j,k⟩:=ha;exact g ρ' tm' S1 a' w' b j k h
     .cases e<;>first|exact h' .normal (.inl rfl)|exact h'
   .cases h
  .cases h
 .cases h
theorem Qj(hm:P.follows .mixedOrders=true)(hdraw:Qs P)(hn:∀(f:FuncId)(fn:Func),P.funcs[f]?=some fn->fn.body.isSome=true->(fn.name== "runtime.NumGoroutine")=false){prims:QS}(hp:Ha P prims):∀n,GI P (Pe P prims n)
 |0=>by intro f args S v S' ρ w L h;cases h
 |n+1=>by
  intro f args S v S' ρ w L h hr hg hL o a next Q hK;have ih:=Qj hm hdraw hn hp n;have e:Pe P prims (n+1) f args S=(match prims f with|some p=>p args S|none=>TH (fnC P f) (Pe P prims n) args S):=rfl;rw[e]at h;cases hpf:prims f with
  |some p=>rw[hpf]at h;exact hp f p hpf args S v S' ρ w L h hr hg hL o a next Q hK
  |none=>
   rw[hpf]at h;obtain⟨⟨fn,h1,h2⟩,h3⟩:=QE hm hdraw ih h hr hg hL;have hc:(callFunc f L.toArray).run P w=.ok (.enter f L.toArray) w:=by
    have hnb:fn.body≠none:=by cases hb:fn.body<;>simp_all
    have hnn:fn.name≠ "runtime.NumGoroutine" :=by simpa using hn f fn h1 h2
    simp[callFunc,h1,hnn,hnb]
   rw[hc,Oper.upon_enter];refine Calls.mono h3 (λe' w' he=>?_);obtain⟨ρ',V,rfl,g1,g2⟩:=he;exact hK ρ' w' V g1 g2
end
theorem Kx:∀(a b:List Nat),Mm a b=true->a=b
 |[],[],_=>rfl
 |[],_::_,h=>by cases h
 |_::_,[],h=>by cases h
 |x::a,y::b,h=>by simp only[Mm,zo]at h;rw[yZ h.1,Kx a b h.2]
theorem Uz(a b:Cap)(h:VI a b=true):a=b:=by
 cases a<;>cases b<;>simp only[VI,zH,zo]at h
 .rw[yZ h]
 .rw[yZ h.1,yZ h.2]
theorem Gn{eq:CV->CV->Bool}(he:∀a b,eq a b=true->a=b):∀(a b:List CV),Pf eq a b=true->a=b
 |[],[],_=>rfl
 |[],_::_,h=>by cases h
 |_::_,[],h=>by cases h
 |x::a,y::b,h=>by simp only[Pf,zo]at h;rw[he _ _ h.1,Gn he a b h.2]
theorem QM{a b:Int}(h:Gh a b=true):a=b:=by rw[B4]at h;exact beq_iff_eq.1 h
theorem SH:∀(n:Nat)(a b:CV),Vr n a b=true->a=b
 |0,a,b,h=>by cases h
 |n+1,a,b,h=>by
  have ih:=SH n;cases a<;>cases b<;>simp only[Vr,zH,zo]at h
  .rw[beq_iff_eq.1 h]
  .rw[of_decide_eq_true h.1,QM h.2]
  .rw[Kx _ _ h]
  .rfl
  .rw[yZ h.1,yZ h.2]
  .rfl
  .rw[yZ h.1.1.1,yZ h.1.1.2,yZ h.1.2,Uz _ _ h.2]
  .rfl
  .rw[yZ h]
  .rw[show _=_ from yZ h.1.1,Gn ih _ _ h.1.2,Gn ih _ _ h.2]
  .rfl
  .rw[show _=_ from yZ h.1,ih _ _ h.2]
  .rfl
  .rw[Gn ih _ _ h]
  .rw[Gn ih _ _ h]
  .rw[yZ h]
theorem Jz{v:CV}{f:St->Option CV}{S:St}(h:PK v f S=true):f S=some v:=by
 unfold PK at h;split at h
 .rename_i u hu;rw[hu,SH 6 v u h]
 .cases h
theorem NF(m i:Nat):bit m i=m.testBit i:=by
 unfold bit;have a:Nat.mod (Nat.shiftRight m i) 2=(m>>>i)%2:=rfl;rw[a,Nat.testBit_eq_decide_div_mod_eq,Nat.shiftRight_eq_div_pow];by_cases h:m/2^i%2=1
 .simp[h]
 .simp only[h,decide_false];cases e:Nat.beq (m/2^i%2) 1 with
  |false=>rfl
  |true=>exact absurd (yZ e) h
theorem SV(a b i:Nat):bit (Nat.lor a b) i=(bit a i||bit b i):=by rw[NF,NF,NF];exact Nat.testBit_or a b i
theorem Wg(k i:Nat):bit (Nat.shiftLeft 1 k) i=decide (k=i):=by rw[NF];show(1<<<k).testBit i=_;rw[Nat.shiftLeft_eq,Nat.one_mul,Nat.testBit_two_pow]
theorem Ue(i:Nat):bit 0 i=false:=by rw[NF];exact Nat.zero_testBit i
theorem G5(done:List Nat):∀(l:List Edge)(j:Nat),bit (Fl done l) j=true->∃e∈l,zR .any e=true/\(e.on=j\/bit ((done[e.on]?).getD 0) j=true)
 |[],j,h=>by have:bit 0 j=true:=h;rw[Ue]at this;cases this
 |e::l,j,h=>by
  simp only[Fl]at h;cases hb:zR .any e with
  |false=>rw[hb,cond_false]at h;obtain⟨c,a,b⟩:=G5 done l j h;exact⟨c,by simp[a],b⟩
  |true=>
   rw[hb,cond_true,SV,SV,Wg]at h;simp only[iX,decide_eq_true_eq]at h;rcases h with(h|h)|h
   .exact⟨e,by simp,hb,.inl h⟩
   .exact⟨e,by simp,hb,.inr h⟩
   .obtain⟨c,a,b⟩:=G5 done l j h;exact⟨c,by simp[a],b⟩
theorem JK:∀(l:List Oper)(done:List Nat),∃r,Ce done l=done++r/\r.length=l.length/\∀i o,l[i]?=some o->∀m,(Ce done l)[done.length+i]?=some m->m=Fl ((Ce done l).take (done.length+i)) o.after.toList
 |[],done=>⟨[],by simp[Ce],rfl,λi o h=>by simp at h⟩
 |o::l,done=>by
  obtain⟨r,h1,h2,h3⟩:=JK l (done++[Fl done o.after.toList]);refine⟨Fl done o.after.toList::r,by simp[Ce,h1],by simp[h2],λi o' ho m hm=>?_⟩;have hlen:(done++[Fl done o.after.toList]).length=done.length+1:=by simp
  simp only[Ce]at hm⊢;cases i with
  |zero=>simp only[zW,zb]at ho;subst ho;rw[h1]at hm⊢;simp only[List.append_assoc,List.cons_append,List.nil_append,Nat.add_zero]at hm⊢;rw[List.getElem?_append_right (zn _)]at hm;simp only[Nat.sub_self,zW,zb]at hm;rw[<-hm,List.take_left'];rfl
  |succ i=>
   have b:l[i]?=some o':=by simpa using ho
   have a:done.length+(i+1)=(done++[Fl done o.after.toList]).length+i:=by rw[hlen];omega
   rw[a]at hm⊢;exact h3 i o' b m hm
section
variable{P:zZ}
def Agree(P:zZ)(op:Op)(tm tm':Tm):Prop:=∀x∈op.operands.toList,(opd P x).eval tm=(opd P x).eval tm'
def LQ(c:OpC)(tm tm':Tm):Prop:=
 match c with
 |.pure f=>f tm=f tm'
 |.read f=>∀S,f tm S=f tm' S
 |.new f=>f tm=f tm'
 |.chain f=>∀S,f tm S=f tm' S
 |.bad=>True
theorem Fa{tm tm':Tm}:∀(l:List eo),(∀x∈l,(opd P x).eval tm=(opd P x).eval tm')->If (Rg P l) tm=If (Rg P l) tm'
 |[],_=>rfl
 |x::l,h=>by rw[Rg,GY,GY,h x (by simp),Fa l (λy hy=>h y (by simp[hy]))]
theorem D4 {tm tm' : Tm} {place : Nat → Option (Nat × Nat)} : ∀ (l : List (Nat × eo)) (ps : List (Nat × Nat × Opd)), DH P place l = some ps → (∀ x ∈ l.map (·.2), (opd P x).eval tm = (opd P x).eval tm') → Fp ps tm = Fp ps tm'
  | [], ps, h, _ => by simp [DH] at h; subst h; rfl
  | (i, x) :: l, ps, h, hh => by
    simp only [DH] at h
    split at h
    · rename_i o n l' h1 h2
      cases h
      simp only [Fp]
      rw [hh x (by simp), D4 l l' h2 (fun y hy => hh y (by simp only [iZ, zO]; exact .inr hy))]
    · cases h
theorem Av{x:Opd}{f:CV->Option CV}{tm tm':Tm}(h:x.eval tm=x.eval tm'):BE x f tm=BE x f tm':=by simp only[BE,h]
theorem CW{x y:Opd}{f:CV->CV->Option CV}{tm tm':Tm}(h:x.eval tm=x.eval tm')(h':y.eval tm=y.eval tm'):Ca x y f tm=Ca x y f tm':=by simp only[Ca,h,h']
theorem FS{x:Option eo}{tm tm':Tm}(h:∀y∈x.toList,(opd P y).eval tm=(opd P y).eval tm'):Gy (x.map (opd P)) tm=Gy (x.map (opd P)) tm':=by
 cases x with
 |none=>rfl
 |some x=>simp only[Gy,Option.map_some,h x (by simp)]
theorem G2{c:Bool}{X:OpC}{tm tm':Tm}(h:LQ X tm tm'):LQ (bif c then X else .bad) tm tm':=by
 cases c with
 |true=>exact h
 |false=>trivial
theorem CX{c:Bool}{X:OpC}{tm tm':Tm}(h:LQ X tm tm'):LQ (bif c then .bad else X) tm tm':=by
 cases c with
 |true=>trivial
 |false=>exact h
theorem UE{c:Bool}{X Y:OpC}{tm tm':Tm}(h:LQ X tm tm')(h':LQ Y tm tm'):LQ (bif c then X else Y) tm tm':=by
 cases c with
 |true=>exact h
 |false=>exact h'
theorem L4{b:Builtin}{ts:List TypeId}{args:List eo}{tm tm':Tm}(h:∀x∈args,(opd P x).eval tm=(opd P x).eval tm'):LQ (F4 P b ts args) tm tm':=by
 unfold F4;split
 .rename_i t x;split
  .trivial
  .split
   .exact Av (h _ (by simp))
   .exact Av (h _ (by simp))
   .exact Av (h _ (by simp))
   .intro S;simp only[Qu,h _ (List.mem_singleton.2 rfl)]
   .trivial
 .rename_i t u s x;split
  .split
   .trivial
   .split
    .refine G2 λS=>?_;simp only[Mh,h s (by simp),h x (by simp)]
    .trivial
   .trivial
  .trivial
 .rename_i t x;split
  .split
   .intro S;simp only[PT,h x (by simp)]
   .trivial
  .trivial
 .exact Av (h _ (by simp))
 .rename_i t t' x n;split
  .split
   .split
    .split
     .refine G2 λS=>?_;simp only[CR,h x (by simp),h n (by simp)]
     .trivial
    .trivial
   .trivial
  .trivial
 .rename_i t u d x;split
  .split
   .split
    .intro S;simp only[UU,h d (by simp),h x (by simp)]
    .trivial
   .trivial
  .trivial
 .exact CW (h _ (by simp)) (h _ (by simp))
 .exact CW (h _ (by simp)) (h _ (by simp))
 .rename_i x y z;show Wv _ _ _ tm=Wv _ _ _ tm';simp only[Wv,CW (f:=VU) (h x (by simp)) (h y (by simp)),h z (by simp)]
 .trivial
theorem Ql (op : Op) {tm tm' : Tm} (h : Agree P op tm tm') : LQ (opC P op) tm tm' := by
  unfold Agree at h
  cases op
  case move x => exact h x (by simp [zJ])
  case assign x => exact h x (by simp [zJ])
  case pick c x y =>
    show QI _ _ _ tm = QI _ _ _ tm'
    simp only [QI, h c (by simp [zJ]), h x (by simp [zJ]), h y (by simp [zJ])]
  case alloc t =>
    simp only [opC]
    split
    · exact G2 rfl
    · trivial
  case box t x =>
    show Wx _ tm = Wx _ tm'
    simp only [Wx, h x (by simp [zJ])]
  case build t ps =>
    have g : ∀ x ∈ ps.toList.map (·.2), (opd P x).eval tm = (opd P x).eval tm' := by simpa [zJ] using h
    simp only [opC]
    split
    · split
      · split
        · split
          · rename_i l hl
            show Ej _ _ tm = Ej _ _ tm'
            simp only [Ej, D4 _ l hl g]
          · trivial
        · trivial
      · split
        · split
          · rename_i l hl
            show Ej _ _ tm = Ej _ _ tm'
            simp only [Ej, D4 _ l hl g]
          · trivial
        · trivial
      · trivial
    · trivial
  case buildSlice t len ps =>
    have g : ∀ x ∈ ps.toList.map (·.2), (opd P x).eval tm = (opd P x).eval tm' := by simpa [zJ] using h
    simp only [opC]
    split
    · split
      · split
        · split
          · rename_i l hl
            have d : ∀ zs, BG len zs l tm = BG len zs l tm' := fun zs => by simp only [BG, D4 _ l hl g]
            refine UE (d _) ?_
            split
            · exact G2 (d _)
            · trivial
          · trivial
        · trivial
      · trivial
    · trivial
  case load t a =>
    simp only [opC]
    split
    · intro S
      simp only [Rn, h a (by simp [zJ])]
    · trivial
  case store t a x =>
    simp only [opC]
    split
    · intro S
      simp only [KY, h a (by simp [zJ]), h x (by simp [zJ])]
    · trivial
  case nilCheck x => exact Av (h x (by simp [zJ]))
  case binOp op t x y t' =>
    have d : ∀ f, Ca (opd P x) (opd P y) f tm = Ca (opd P x) (opd P y) f tm' := fun f => CW (h x (by simp [zJ])) (h y (by simp [zJ]))
    simp only [opC]
    split
    · split
      · exact d _
      · exact G2 (Av (h x (by simp [zJ])))
      · exact CX (d _)
    · trivial
  case unOp op t x =>
    cases op
    case not => exact Av (h x (by simp [zJ]))
    case neg => exact Av (h x (by simp [zJ]))
    all_goals trivial
  case convert s t x =>
    simp only [opC]
    split
    · split
      · exact Av (h x (by simp [zJ]))
      · exact Av (h x (by simp [zJ]))
      · split
        · refine CX fun S => ?_
          simp only [Iw, h x (by simp [zJ])]
        · trivial
      · split
        · refine CX fun S => ?_
          simp only [E7, h x (by simp [zJ])]
        · trivial
      · split
        · split
          · intro S
            simp only [Fc, h x (by simp [zJ])]
          · trivial
        · trivial
      · split
        · split
          · intro S
            simp only [E6, h x (by simp [zJ])]
          · trivial
        · trivial
      · trivial
    · trivial
  case makeInterface t x =>
    simp only [opC]
    split
    · split
      · trivial
      · exact Av (h x (by simp [zJ]))
    · trivial
  case makeFunc f fi ca =>
    cases f
    case func f =>
      show KF _ _ _ tm = KF _ _ _ tm'
      simp only [KF, Fa fi.toList (fun x hx => h x (by simp only [zJ, lU, eZ]; exact .inl hx)), Fa ca.toList (fun x hx => h x (by simp only [zJ, lU, eZ]; exact .inr hx))]
    all_goals trivial
  case makeMap t r =>
    cases r
    case none => rfl
    case some => trivial
  case makeSlice t l c =>
    simp only [opC]
    split
    · split
      · split
        · refine CX ?_
          split
          · refine G2 ?_
            show GU _ _ _ _ tm = GU _ _ _ _ tm'
            simp only [GU, h l (by simp [zJ]), h c (by simp [zJ])]
          · trivial
        · trivial
      · trivial
    · trivial
  case slice t x lo hi mx =>
    have d : ∀ k, EI k (opd P x) (lo.map (opd P)) (hi.map (opd P)) (mx.map (opd P)) tm = EI k (opd P x) (lo.map (opd P)) (hi.map (opd P)) (mx.map (opd P)) tm' := by
      intro k
      have n := h x (by simp [zJ])
      have p := FS (x := lo) (fun y hy => h y (by simp only [zJ, lU, eZ]; exact .inl (.inl (.inr (by simpa using hy)))))
      have q := FS (x := hi) (fun y hy => h y (by simp only [zJ, lU, eZ]; exact .inl (.inr (by simpa using hy))))
      have o := FS (x := mx) (fun y hy => h y (by simp only [zJ, lU, eZ]; exact .inr (by simpa using hy)))
      simp only [EI, n, p, q, o]
    simp only [opC]
    split
    · split
      · exact d _
      · split
        · exact d _
        · trivial
      · split
        · exact d _
        · trivial
      · trivial
    · trivial
  case fieldAddr t x f =>
    simp only [opC]
    split
    · split
      · split
        · split
          · exact CX (Av (h x (by simp [zJ])))
          · trivial
        · trivial
      · trivial
    · trivial
  case field t x f =>
    simp only [opC]
    split
    · split
      · split
        · split
          · exact Av (h x (by simp [zJ]))
          · trivial
        · trivial
      · trivial
    · trivial
  case indexAddr t x ix =>
    have d : ∀ f, Ca (opd P x) (opd P ix) f tm = Ca (opd P x) (opd P ix) f tm' := fun f => CW (h x (by simp [zJ])) (h ix (by simp [zJ]))
    simp only [opC]
    split
    · split
      · split
        · exact d _
        · trivial
      · split
        · exact d _
        · trivial
      · trivial
    · trivial
  case index t x ix =>
    have d : ∀ f, Ca (opd P x) (opd P ix) f tm = Ca (opd P x) (opd P ix) f tm' := fun f => CW (h x (by simp [zJ])) (h ix (by simp [zJ]))
    simp only [opC]
    split
    · split
      · split
        · exact d _
        · trivial
      · exact d _
      · trivial
    · trivial
  case mapEntry t m k =>
    simp only [opC]
    split
    · split
      · split
        · intro S
          simp only [Gg, h m (by simp [zJ]), h k (by simp [zJ])]
        · trivial
      · trivial
    · trivial
  case entryStore t m s x =>
    intro S
    simp only [D7, h m (by simp [zJ]), h s (by simp [zJ]), h x (by simp [zJ])]
  case lookup t x k ok =>
    simp only [opC]
    split
    · split
      · split
        · intro S
          simp only [Md, h x (by simp [zJ]), h k (by simp [zJ])]
        · trivial
      · trivial
    · trivial
  case mapUpdate t m k x =>
    simp only [opC]
    split
    · split
      · split
        · intro S
          simp only [DO, h m (by simp [zJ]), h k (by simp [zJ]), h x (by simp [zJ])]
        · trivial
      · trivial
    · trivial
  case insert t m k x =>
    simp only [opC]
    split
    · split
      · split
        · intro S
          simp only [DO, h m (by simp [zJ]), h k (by simp [zJ]), h x (by simp [zJ])]
        · trivial
      · trivial
    · trivial
  case range t x =>
    simp only [opC]
    split
    · split
      · show Fb _ tm = Fb _ tm'
        simp only [Fb, h x (by simp [zJ])]
      · intro S
        simp only [GM, h x (by simp [zJ])]
      · trivial
    · trivial
  case next it b =>
    cases b
    case true =>
      intro S
      simp only [LV, h it (by simp [zJ])]
    case false =>
      intro S
      simp only [Iy, h it (by simp [zJ])]
  case entry it =>
    intro S
    simp only [F0, h it (by simp [zJ])]
  case extract t i => exact Av (h t (by simp [zJ]))
  case call c =>
    have j : ∀ x ∈ c.args.toList, (opd P x).eval tm = (opd P x).eval tm' := fun x hx => h x (by simp only [zJ, zbX, lU, eZ]; exact .inr hx)
    simp only [opC]
    split
    · rename_i f hc
      intro S
      simp only [U5, Fa c.args.toList j, h f (by simp [zJ, zbX, hc])]
    · exact L4 j
    · trivial
  case defer c =>
    simp only [opC]
    split
    · rename_i f hc has
      intro S
      simp only [Qe, h f (by simp [zJ, zbX, hc])]
    · trivial
  all_goals trivial
end
structure Sub(A B:St):Prop where
 get:∀b o,A.heap.get b=some o->B.heap.get b=some o
 next:A.next=B.next
 nk:A.nk=B.nk
theorem Rel.sub{ρ:Ren}{A B:St}{w:ze}(h:Rel ρ B w)(hs:Sub A B):Rel ρ A w:=⟨λb o hb=>h.obj b o (hs.get b o hb),λb b' X D D' hb hb' hw=>h.inj b b' X D D' (hb.elim λo ho=>⟨o,hs.get b o ho⟩) (hb'.elim λo ho=>⟨o,hs.get b' o ho⟩) (hw.imp (λ⟨o,g,g'⟩=>⟨o,hs.get b o g,g'⟩) (λ⟨o,g,g'⟩=>⟨o,hs.get b' o g,g'⟩)),λb hb=>h.fresh b (by rw[<-hs.next];exact hb),λi hi=>h.freshk i (by rw[<-hs.nk];exact hi)⟩
theorem Has.sub{ρ:Ren}{A B:St}{w:ze}(h:Has ρ B w)(hs:Sub A B):Has ρ A w:=λb o hb=>h b o (hs.get b o hb)
theorem Rel.lt{ρ:Ren}{S:St}{w:ze}(h:Rel ρ S w){b B D:Nat}(hb:S.has b)(e:ρ.b b=some (B,D)):B<w.heap.size:=by obtain⟨o,c⟩:=hb;obtain⟨C,E,O,a,d,_⟩:=h.obj b o c;rw[e]at a;cases a;exact(eh.1 d).1
structure We(A B:St):Prop where
 get:∀b,A.heap.get b=B.heap.get b
 next:A.next=B.next
 nk:A.nk=B.nk
theorem We.sub{A B:St}(h:We A B):Sub A B:=⟨λb o hb=>by rw[<-h.get];exact hb,h.next,h.nk⟩
theorem We.symm{A B:St}(h:We A B):We B A:=⟨λb=>(h.get b).symm,h.next.symm,h.nk.symm⟩
theorem Ii.right{N:Nat}{ρ ρ':Ren}{S S' S2:St}{w w':ze}(h:Ii N ρ S w ρ' S' w')(e:We S' S2):Ii N ρ S w ρ' S2 w':=⟨h.ext,h.rel.sub e.symm.sub,by rw[<-e.next];exact h.next,by rw[<-e.nk];exact h.nk,h.keep,h.size,λb B D hb=>h.dom b B D (hb.elim λo ho=>⟨o,by rw[e.get];exact ho⟩),h.os,h.tape,h.output,h.old,λb B D hb=>h.domW b B D (hb.elim λo ho=>⟨o,by rw[e.get];exact ho.1,ho.2⟩)⟩
theorem Ii.frame{N:Nat}{ρ ρ':Ren}{A T S' T':St}{w w':ze}(hr:Rel ρ T w)(hs:Sub A T)(h:Ii N ρ A w ρ' S' w')(hg:∀b o,T'.heap.get b=some o->S'.heap.get b=some o\/(T.heap.get b=some o/\A.heap.get b=none))(hn:T'.next=S'.next)(hk:T'.nk=S'.nk):Ii N ρ T w ρ' T' w':=by
 have hA:=hr.sub hs;have a:∀b o,T.heap.get b=some o->A.heap.get b=none->∃B D O,ρ.b b=some (B,D)/\w'.heap[B]?=some O/\Bt ρ' D o O/\B<w.heap.size:=by
  intro b o j C;obtain⟨B,D,O,p,I,U⟩:=hr.obj b o j;have q:=(eh.1 I).1;refine⟨B,D,O,p,?_,U.mono h.ext,q⟩;rw[h.keep B q (λc E hc e=>?_)]
  .exact I
  .obtain⟨P,F,Q⟩:=hc;have:=hr.inj b c B D E ⟨o,j⟩ ⟨P,hs.get c P F⟩ (.inr ⟨P,hs.get c P F,Q⟩) p e;subst this;rw[C]at F;cases F
 have t:∀b l(B D J:Nat),S'.has b->(∃o,T.heap.get l=some o/\A.heap.get l=none)->S'.hasW b\/T.hasW l->ρ'.b b=some (B,D)->ρ'.b l=some (B,J)->False:=by
  rintro b l B D J j ⟨m,d,s⟩ k e e';obtain⟨B',D2,O',v,S,g3,X⟩:=a l m d s;have:=h.ext.b _ _ v;rw[e']at this;cases this;obtain⟨r,y,⟨H,f⟩,G,z⟩:∃r y,A.has r/\ρ.b r=some (B,y)/\(T.hasW r\/T.hasW l):=by
   rcases k with k|k
   .obtain⟨r,y,⟨H,f,z⟩,G⟩:=h.domW b B D k e X;exact⟨r,y,⟨H,f⟩,G,.inl ⟨H,hs.get _ _ f,z⟩⟩
   .obtain⟨r,y,Z,G⟩:=h.dom b B D j e X;exact⟨r,y,Z,G,.inr k⟩
  have:=hr.inj r l B y _ ⟨H,hs.get _ _ f⟩ ⟨m,d⟩ z G v;subst this;rw[s]at f;cases f
 refine⟨h.ext,⟨?_,?_,λb j=>h.rel.fresh b (by rw[<-hn];exact j),λi hi=>h.rel.freshk i (by rw[<-hk];exact hi)⟩,by rw[hn,<-hs.next];exact h.next,by rw[hk,<-hs.nk];exact h.nk,?_,h.size,?_,h.os,h.tape,h.output,h.old,?_⟩
 .intro b o j;rcases hg b o j with j|⟨j,C⟩
  .exact h.rel.obj b o j
  .obtain⟨B,D,O,p,I,U,_⟩:=a b o j C;exact⟨B,D,O,h.ext.b _ _ p,I,U⟩
 .rintro b l B D J ⟨o,j⟩ ⟨m,L⟩ k e e';have k:o.wr=true\/m.wr=true:=by
   rcases k with⟨o2,g,R⟩|⟨o2,g,R⟩
   .rw[j]at g;cases g;exact .inl R
   .rw[L]at g;cases g;exact .inr R
  rcases hg b o j with d|⟨d,n⟩<;>rcases hg l m L with s|⟨s,M⟩
  .exact h.rel.inj b l B D J ⟨o,d⟩ ⟨m,s⟩ (k.imp (λg=>⟨o,d,g⟩) (λg=>⟨m,s,g⟩)) e e'
  .exact(t b l B D J ⟨o,d⟩ ⟨m,s,M⟩ (k.imp (λg=>⟨o,d,g⟩) (λg=>⟨m,s,g⟩)) e e').elim
  .exact(t l b B J D ⟨m,s⟩ ⟨o,d,n⟩ (k.symm.imp (λg=>⟨m,s,g⟩) (λg=>⟨o,d,g⟩)) e' e).elim
  .obtain⟨V,W,_,v,_⟩:=a b o d n;obtain⟨B2,D2,_,S,_⟩:=a l m s M;have p:=h.ext.b _ _ v;have I:=h.ext.b _ _ S;rw[e]at p;rw[e']at I;cases p;cases I;exact hr.inj b l B _ _ ⟨o,d⟩ ⟨m,s⟩ (k.imp (λg=>⟨o,d,g⟩) (λg=>⟨m,s,g⟩)) v S
 .intro x Y C;refine h.keep x Y (λb D j e=>?_);obtain⟨o,ho,k⟩:=j;exact C b D ⟨o,hs.get _ _ ho,k⟩ e
 .rintro b B D ⟨o,j⟩ e q;rcases hg b o j with d|⟨d,n⟩
  .obtain⟨r,y,⟨H,f⟩,G⟩:=h.dom b B D ⟨o,d⟩ e q;exact⟨r,y,⟨H,hs.get _ _ f⟩,G⟩
  .obtain⟨V,W,_,v,_⟩:=a b o d n;have p:=h.ext.b _ _ v;rw[e]at p;cases p;exact⟨b,_,⟨o,d⟩,v⟩
 .rintro b B D ⟨o,j,k⟩ e q;rcases hg b o j with d|⟨d,n⟩
  .obtain⟨r,y,⟨H,f,z⟩,G⟩:=h.domW b B D ⟨o,d,k⟩ e q;exact⟨r,y,⟨H,hs.get _ _ f,z⟩,G⟩
  .obtain⟨V,W,_,v,_⟩:=a b o d n;have p:=h.ext.b _ _ v;rw[e]at p;cases p;exact⟨b,_,⟨o,d,k⟩,v⟩
theorem Ii.newAt{N:Nat}{ρ:Ren}{T T':St}{w w':ze}(h:Rel ρ T w){r:Nat}(hr:r<T.next)(hN:N<=r)(hfree:ρ.b r=none){O:Obj}{o:Bp}(ho:Bt ρ 0 o O)(hg:T'.heap.get r=some o)(hold:∀b,b≠r->∀o',T'.heap.get b=some o'->T.heap.get b=some o')(hn:T'.next=T.next)(hk:T'.nk=T.nk)(hh:w'.heap=w.heap.push O)(h1:w'.os=w.os)(h2:w'.tape=w.tape)(h3:w'.output=w.output):Ii N ρ T w (ρ.extb r (w.heap.size,0)) T' w':=by
 have m:ρ.Le (ρ.extb r (w.heap.size,0)):=by
  refine⟨λi z hz=>?_,λi z hz=>hz,rfl⟩;have:i≠r:=λe=>by subst e;rw[hfree]at hz;cases hz
  simp[Ren.extb,this,hz]
 have c:∀i,i≠r->(ρ.extb r (w.heap.size,0)).b i=ρ.b i:=λi hi=>by simp[Ren.extb,hi]
 have p:(ρ.extb r (w.heap.size,0)).b r=some (w.heap.size,0):=by simp[Ren.extb]
 refine⟨m,⟨?_,?_,?_,λi hi=>h.freshk i (by rw[<-hk];exact hi)⟩,by omega,by omega,?_,by rw[hh];simp,?_,h1,h2,h3,λb p=>c b (by omega),?_⟩
 .intro b o' j;by_cases e:b=r
  .subst e;rw[hg]at j;cases j;exact⟨_,0,O,p,by rw[hh];simp,ho.mono m⟩
  .obtain⟨B,D,E,a,l,F⟩:=h.obj b o' (hold b e o' j);refine⟨B,D,E,m.b _ _ a,?_,F.mono m⟩;have:=(eh.1 l).1;rw[hh,zaw this,zU this]at*;exact l
 .rintro b s B D C ⟨k,f⟩ ⟨t,q⟩ v a l;by_cases d:b=r<;>by_cases n:s=r
  .rw[d,n]
  .subst d;rw[p]at a;cases a;rw[c _ n]at l;have:=h.lt ⟨t,hold s n t q⟩ l;omega
  .subst n;rw[p]at l;cases l;rw[c _ d]at a;have:=h.lt ⟨k,hold b d k f⟩ a;omega
  .rw[c _ d]at a;rw[c _ n]at l;exact h.inj b s B D C ⟨k,hold b d k f⟩ ⟨t,hold s n t q⟩ (v.imp (λ⟨o,g,g'⟩=>⟨o,hold b d o g,g'⟩) (λ⟨o,g,g'⟩=>⟨o,hold s n o g,g'⟩)) a l
 .intro b A;rw[c b (by omega)];exact h.fresh b (by omega)
 .intro x y _;rw[hh,zaw y,zU y]
 .rintro b B D ⟨k,f⟩ a hB;by_cases d:b=r
  .subst d;rw[p]at a;cases a;omega
  .rw[c _ d]at a;exact⟨b,D,⟨k,hold b d k f⟩,a⟩
 .rintro b B D ⟨k,f,v⟩ a hB;by_cases d:b=r
  .subst d;rw[p]at a;cases a;omega
  .rw[c _ d]at a;exact⟨b,D,⟨k,hold b d k f,v⟩,a⟩
theorem Jq:∀(l:List (Nat×Nat×Bp))(S:St),(AA l S).next=S.next/\(AA l S).nk=S.nk
 |[],S=>⟨rfl,rfl⟩
 |(_,b,o)::l,S=>by simp only[AA];exact Jq l _
def JN(base:Nat)(l:List (Nat×Nat×Bp)):Prop:=(l.map (·.1)).Nodup/\∀e∈l,e.2.1=base+e.1/\e.2.1+1<2^big
theorem E5{base:Nat}:∀(l:List (Nat×Nat×Bp))(S:St),JN base l->∀b,(∀e∈l,e.2.1=b->(AA l S).heap.get b=some e.2.2)/\((∀e∈l,e.2.1≠b)->(AA l S).heap.get b=S.heap.get b)
 |[],S,_,b=>⟨λe he=>(e8 he).elim,λ_=>rfl⟩
 |(j,c,o)::l,S,h,b=>by
  obtain⟨hnd,hp⟩:=h;simp only[iZ,zbO]at hnd;have hc:=hp (j,c,o) (by simp);simp only at hc;obtain⟨i1,i2⟩:=E5 l ⟨S.heap.set big c (some o),S.next,S.nk⟩ ⟨hnd.2,λe he=>hp e (by simp[he])⟩ b;refine⟨λe he heb=>?_,λhno=>?_⟩
  .simp only[AA];rcases zO.1 he with rfl|he
   .simp only at heb;subst heb;rw[i2 (λe he heq=>?_)]
    .exact Tr.get_set_eq _ _ _ _ hc.2
    .have:=(hp e (by simp[he])).1;exact hnd.1 (by
      have he':e.1=j:=by omega
      rw[<-he'];exact List.mem_map_of_mem he)
   .exact i1 e he heb
  .simp only[AA];rw[i2 (λe he=>hno e (by simp[he]))];have a:c≠b:=hno (j,c,o) (by simp);show(S.heap.set big c (some o)).get b=_;rw[Tr.get_set_ne _ _ _ _ _ a]
theorem BH(pre:Nat):∀(l:List (Nat×Nat×Bp)),(Ba pre l).1=l.filter (λe=>bit pre e.1)/\(Ba pre l).2=l.filter (λe=> !bit pre e.1)
 |[]=>⟨rfl,rfl⟩
 |(i,b,o)::l=>by
  obtain⟨h1,h2⟩:=BH pre l;simp only[Ba];cases hb:bit pre i with
  |true=>simp[hb,h1,h2]
  |false=>simp[hb,h1,h2]
theorem JN.filter{base:Nat}{l:List (Nat×Nat×Bp)}(h:JN base l)(p:Nat×Nat×Bp->Bool):JN base (l.filter p):=⟨h.1.sublist (zeh _ List.filter_sublist),λe he=>h.2 e (ie.1 he).1⟩
theorem Hx(S:St)(base:Nat)(p:Nat->Prop)(N:Nat->Option Bp):∀n,base+n+1<2^big->(∀j,j<n->p j->(N j).isSome=true)->∃T:St,T.next=S.next/\T.nk=S.nk/\(∀j,j<n->p j->T.heap.get (base+j)=N j)/\(∀b,(∀j,j<n->p j->b≠base+j)->T.heap.get b=S.heap.get b)
 |0,_,_=>⟨S,rfl,rfl,λj hj=>by omega,λ_ _=>rfl⟩
 |n+1,hn,hs=>by
  obtain⟨T,h1,h2,h3,h4⟩:=Hx S base p N n (by omega) (λj hj=>hs j (by omega));by_cases a:p n
  .refine⟨⟨T.heap.set big (base+n) (N n),T.next,T.nk⟩,h1,h2,λj hj hpj=>?_,λb hb=>?_⟩
   .obtain⟨o,c⟩:=Option.isSome_iff_exists.1 (hs n (by omega) a);rw[c];by_cases e:j=n
    .subst e;rw[c];show(T.heap.set big (base+j) (some o)).get (base+j)=some o;rw[Tr.get_set_eq _ _ _ _ (by omega)]
    .show(T.heap.set big (base+n) (some o)).get (base+j)=N j;rw[Tr.get_set_ne _ _ _ _ _ (by omega)];exact h3 j (by omega) hpj
   .show(T.heap.set big (base+n) (N n)).get b=S.heap.get b;rw[Tr.get_set_ne _ _ _ _ _ (λe=>hb n (by omega) a e.symm)];exact h4 b (λj hj hpj=>hb j (by omega) hpj)
  .refine⟨T,h1,h2,λj hj hpj=>?_,λb hb=>h4 b (λj hj hpj=>hb j (by omega) hpj)⟩;by_cases e:j=n
   .subst e;exact(a hpj).elim
   .exact h3 j (by omega) hpj
noncomputable def Pa(base:Nat)(call:Call)(d:DOp)(x:DSt):Option (CV×DSt):=
 match Bm d.g x.tm with
 |some true=>(match Xn d base call x with
  |some (v,y)=>some (v,⟨De d.dst v y.tm,y.S,y.hist,y.pend,y.recs⟩)
  |none=>none)
 |some false=>some (AV,⟨De d.dst AV x.tm,x.S,x.hist,x.pend,x.recs⟩)
 |none=>none
theorem Sn(base:Nat)(call:Call)(d:DOp)(l:List DOp)(x:DSt):Vy base call (d::l) x=(Pa base call d x).bind λp=>Vy base call l p.2:=by
 simp only[Vy,Pa];cases Bm d.g x.tm with
 |none=>rfl
 |some b=>
  cases b with
  |false=>rfl
  |true=>
   simp only;cases Xn d base call x with
   |none=>rfl
   |some p=>rfl
theorem Kr(base:Nat)(call:Call):∀(ds:List DOp)(x xf:DSt),Vy base call ds x=some xf->∃(X:Nat->DSt)(v:Nat->CV),X 0=x/\X ds.length=xf/\∀i d,ds[i]?=some d->Pa base call d (X i)=some (v i,X (i+1))
 |[],x,xf,h=>by simp only[Vy,zb]at h;exact⟨λ_=>x,λ_=>AV,rfl,h,λi d hd=>by simp at hd⟩
 |d::l,x,xf,h=>by
  rw[Sn]at h;simp only[zu]at h;obtain⟨⟨u,y⟩,h1,h2⟩:=h;obtain⟨X,v,a,c,b⟩:=Kr base call l y xf h2;refine⟨λi=>zei i x X,λi=>zei i u v,rfl,c,λi e he=>?_⟩;cases i with
  |zero=>simp only[zW,zb]at he;subst he;show Pa base call d x=some (u,X 0);rw[a];exact h1
  |succ i=>exact b i e (by simpa using he)
theorem DJ{base:Nat}{call:Call}{d:DOp}{x y:DSt}{v:CV}(h:Pa base call d x=some (v,y)):(Bm d.g x.tm=some false/\v=AV/\y=⟨De d.dst AV x.tm,x.S,x.hist,x.pend,x.recs⟩)\/(Bm d.g x.tm=some true/\((∃f,d.c=.pure f/\f x.tm=some v/\y=⟨De d.dst v x.tm,x.S,x.hist,x.pend,x.recs⟩)\/(∃f,d.c=.read f/\f x.tm (AA (Ba d.pre x.pend).1 x.S)=some v/\FZ d.pre v (λS=>f x.tm (AA (Ba d.pre x.pend).1 S)) x.hist=true/\y=⟨De d.dst v x.tm,x.S,x.hist,x.pend,bif d.keep then⟨d.i,(Ba d.pre x.pend).1,f x.tm,v⟩::x.recs else x.recs⟩)\/(∃f o mk,d.c=.new f/\f x.tm=some (o,mk)/\(v=mk (base+d.i)/\o.wr=true)/\y=⟨De d.dst v x.tm,x.S,x.hist,(d.i,base+d.i,o)::x.pend,x.recs⟩)\/(∃f S,d.c=.chain f/\Ch call (f x.tm (AA (Ba d.pre x.pend).1 x.S))=.ok v S/\FM d.pre S (Ew d.pre x.recs)=true/\y=⟨De d.dst v x.tm,S,(d.i,x.S)::x.hist,(Ba d.pre x.pend).2,Ew d.pre x.recs⟩))):=by
 unfold Pa at h;split at h
 .rename_i hw;refine .inr ⟨hw,?_⟩;split at h
  .rename_i u z hd;simp only[zb,eH]at h;obtain⟨rfl,rfl⟩:=h;unfold Xn at hd;split at hd
   .rename_i f hc;split at hd
    .rename_i w hf;simp only[zb,eH]at hd;obtain⟨rfl,rfl⟩:=hd;exact .inl ⟨f,hc,hf,rfl⟩
    .cases hd
   .rename_i f hc;generalize j:Ba d.pre x.pend=q at hd;obtain⟨a,b⟩:=q;simp only at hd;split at hd
    .rename_i w hf;cases ha:FZ d.pre w (λS=>f x.tm (AA a S)) x.hist with
     |false=>rw[ha]at hd;cases hd
     |true=>rw[ha,cond_true]at hd;simp only[zb,eH]at hd;obtain⟨rfl,rfl⟩:=hd;refine .inr (.inl ⟨f,hc,hf,ha,rfl⟩)
    .cases hd
   .rename_i f hc;split at hd
    .rename_i o mk hf;cases hwr:o.wr with
     |false=>rw[hwr]at hd;cases hd
     |true=>
     rw[hwr,cond_true]at hd;simp only[zb,eH]at hd;obtain⟨rfl,rfl⟩:=hd;exact .inr (.inr (.inl ⟨f,o,mk,hc,hf,⟨rfl,hwr⟩,rfl⟩))
    .cases hd
   .rename_i f hc;generalize j:Ba d.pre x.pend=q at hd;obtain⟨a,b⟩:=q;simp only at hd;split at hd
    .rename_i w S hf;cases ha:FM d.pre S (Ew d.pre x.recs)with
     |false=>rw[ha]at hd;cases hd
     |true=>rw[ha,cond_true]at hd;simp only[zb,eH]at hd;obtain⟨rfl,rfl⟩:=hd;exact .inr (.inr (.inr ⟨f,S,hc,hf,ha,rfl⟩))
    .cases hd
   .cases hd
  .cases h
 .rename_i hw;simp only[zb,eH]at h;obtain⟨rfl,rfl⟩:=h;exact .inl ⟨hw,rfl,rfl⟩
 .cases h
theorem JD{pre:Nat}{v:CV}{f:St->Option CV}:∀(l:List (Nat×St)),FZ pre v f l=true->∀c S,(c,S)∈l->bit pre c=false->f S=some v
 |(c',S')::l,h,c,S,hm,hb=>by
  simp only[FZ,zo,iX]at h;rcases zO.1 hm with e|hm
  .cases e;rcases h.1 with h1|h1
   .rw[hb]at h1;cases h1
   .exact Jz h1
  .exact JD l h.2 c S hm hb
theorem Jh{pre:Nat}{S:St}:∀(l:List Rec),FM pre S l=true->∀r∈l,bit pre r.i=false->r.f (AA r.pend S)=some r.v
 |r'::l,h,r,hm,hb=>by
  simp only[FM,zo,iX]at h;rcases zO.1 hm with e|hm
  .subst e;rcases h.1 with h1|h1
   .rw[hb]at h1;cases h1
   .exact Jz h1
  .exact Jh l h.2 r hm hb
theorem Ji{pre:Nat}:∀(l:List Rec)(r:Rec),r∈l->⟨r.i,(Ba pre r.pend).2,r.f,r.v⟩∈Ew pre l
 |r'::l,r,hm=>by
  simp only[Ew];rcases zO.1 hm with e|hm
  .subst e;simp
  .exact eJ _ (Ji l r hm)
structure Fj(base:Nat)(call:Call)(n:Nat)(d:Nat->DOp)(X:Nat->DSt)(v:Nat->CV):Prop where
 step:∀i,i<n->Pa base call (d i) (X i)=some (v i,X (i+1))
 idx:∀i,i<n->(d i).i=i
 pend0:(X 0).pend=[]
 small:base+n+1<2^big
 low:∀c,c<n->∀j,bit (d c).pre j=true->j<c
 keep:∀i,i<n->(∃c,c<n/\i<c/\yN (d c).c=true/\bit (d c).pre i=false)->(d i).keep=true
section
variable{base:Nat} {call:Call} {n:Nat} {d:Nat->DOp} {X:Nat->DSt} {v:Nat->CV}
def Wan(d:Nat->DOp)(X:Nat->DSt)(i:Nat):Prop:=Bm (d i).g (X i).tm=some true
def NO(base:Nat)(d:Nat->DOp)(X:Nat->DSt)(v:Nat->CV)(j:Nat)(o:Bp):Prop:=∃f mk,(d j).c=.new f/\Wan d X j/\f (X j).tm=some (o,mk)/\v j=mk (base+j)/\o.wr=true
def Un(d:Nat->DOp)(X:Nat->DSt)(m j:Nat):Prop:=∀c,c<m->yN (d c).c=true->Wan d X c->bit (d c).pre j=false
theorem NO.inj{j:Nat}{o o':Bp}(h:NO base d X v j o)(h':NO base d X v j o'):o=o':=by obtain⟨f,k,c,_,i,_⟩:=h;obtain⟨l,g,b,_,a,_⟩:=h';rw[c]at b;cases b;rw[i]at a;cases a;rfl
variable(t:Fj base call n d X v)
include t
theorem Fj.calm{i:Nat}(hi:i<n)(h:yN (d i).c=false\/¬Wan d X i):(X (i+1)).S=(X i).S/\(X (i+1)).hist=(X i).hist/\((X (i+1)).pend=(X i).pend\/∃o,NO base d X v i o/\(X (i+1)).pend=(i,base+i,o)::(X i).pend)/\(∀r∈(X i).recs,r∈(X (i+1)).recs):=by
 have l:=DJ (t.step i hi);rcases l with⟨_,_,e⟩|⟨g,⟨f,a,b,e⟩|⟨f,a,b,m,e⟩|⟨f,o,k,a,b,j,e⟩|⟨f,S,a,b,m,e⟩⟩
 .rw[e];exact⟨rfl,rfl,.inl rfl,λr hr=>hr⟩
 .rw[e];exact⟨rfl,rfl,.inl rfl,λr hr=>hr⟩
 .rw[e];refine⟨rfl,rfl,.inl rfl,λr hr=>?_⟩;show r∈(bif (d i).keep then _ else _);cases(d i).keep with
  |true=>exact eJ _ hr
  |false=>exact hr
 .rw[e];rw[t.idx i hi]at j⊢;exact⟨rfl,rfl,.inr ⟨o,⟨f,k,a,g,b,j⟩,rfl⟩,λr hr=>hr⟩
 .rcases h with h|h
  .rw[a]at h;cases h
  .exact(h g).elim
theorem Fj.chain{i:Nat}(hi:i<n)(h:yN (d i).c=true)(hw:Wan d X i):∃f,(d i).c=.chain f/\Ch call (f (X i).tm (AA (Ba (d i).pre (X i).pend).1 (X i).S))=.ok (v i) (X (i+1)).S/\(X (i+1)).hist=(i,(X i).S)::(X i).hist/\(X (i+1)).pend=(Ba (d i).pre (X i).pend).2/\(X (i+1)).recs=Ew (d i).pre (X i).recs/\FM (d i).pre (X (i+1)).S (X (i+1)).recs=true:=by
 have g:=DJ (t.step i hi);rcases g with⟨b,_,_⟩|⟨_,⟨f,a,_,_⟩|⟨f,a,_,_,_⟩|⟨f,o,l,a,_,_,_⟩|⟨f,S,a,j,k,e⟩⟩
 .unfold Wan at hw;rw[hw]at b;cases b
 .rw[a]at h;cases h
 .rw[a]at h;cases h
 .rw[a]at h;cases h
 .rw[e];refine⟨f,a,j,?_,rfl,rfl,k⟩;rw[t.idx i hi]
theorem Fj.still{m:Nat}:∀(i:Nat),m<=i->i<=n->(∀c,m<=c->c<i->yN (d c).c=false\/¬Wan d X c)->(X m).S=(X i).S
 |0,h1,h2,h=>by
  have:m=0:=by omega
  subst this;rfl
 |i+1,h1,h2,h=>by
  by_cases e:m=i+1
  .subst e;rfl
  .rw[(t.calm (i:=i) (by omega) (h i (by omega) (by omega))).1];exact Fj.still i (by omega) (by omega) (λc a b=>h c a (by omega))
theorem Fj.pend:∀(m:Nat),m<=n->JN base (X m).pend/\∀e:Nat×Nat×Bp,e∈(X m).pend↔e.1<m/\e.2.1=base+e.1/\NO base d X v e.1 e.2.2/\Un d X m e.1
 |0,_=>by rw[t.pend0];exact⟨⟨by simp,λe he=>(e8 he).elim⟩,λe=>⟨λhe=>(e8 he).elim,λh=>by omega⟩⟩
 |m+1,hm=>by
  obtain⟨h1,h2⟩:=Fj.pend m (by omega);by_cases hch:yN (d m).c=true/\Wan d X m
  .obtain⟨f,hc,_,_,hp,_,_⟩:=t.chain (i:=m) (by omega) hch.1 hch.2;rw[hp,(BH _ _).2];refine⟨h1.filter _,λe=>?_⟩;rw[ie,h2 e];constructor
   .rintro⟨⟨a,b,c,u⟩,hb⟩;refine⟨by omega,b,c,λk hk hkc hkw=>?_⟩;by_cases ek:k=m
    .subst ek;simpa using hb
    .exact u k (by omega) hkc hkw
   .rintro⟨a,b,c,u⟩;have hne:e.1≠m:=λee=>by obtain⟨f',_,g1,_⟩:=c;rw[ee,hc]at g1;cases g1
    exact⟨⟨by omega,b,c,λk hk=>u k (by omega)⟩,by simpa using u m (by omega) hch.1 hch.2⟩
  .have hcalm:yN (d m).c=false\/¬Wan d X m:=by
    by_cases s:yN (d m).c=true
    .exact .inr (λhw=>hch ⟨s,hw⟩)
    .exact .inl (by simpa using s)
   have g:∀j,Un d X (m+1) j↔Un d X m j:=by
    intro j;constructor
    .intro u k hk;exact u k (by omega)
    .intro u k hk hkc hkw;by_cases ek:k=m
     .subst ek;exact(hch ⟨hkc,hkw⟩).elim
     .exact u k (by omega) hkc hkw
   obtain⟨_,_,hp,_⟩:=t.calm (i:=m) (by omega) hcalm;rcases hp with hp|⟨o,l,hp⟩
   .rw[hp];refine⟨h1,λe=>?_⟩;rw[h2 e,g];constructor
    .rintro⟨a,r⟩;exact⟨by omega,r⟩
    .rintro⟨a,b,c,u⟩;refine⟨?_,b,c,u⟩;rcases ly e.1 m with h|h
     .exact h
     .
      have ee:e.1=m:=by omega
      exfalso;obtain⟨f,C,g1,q,y,F⟩:=c;rw[ee]at g1 q y;have x:=DJ (t.step m (by omega));rcases x with⟨p,_,_⟩|⟨_,⟨f',hc,_,_⟩|⟨f',hc,_,_,_⟩|⟨f',o,z,hc,_,_,A⟩|⟨f',S,hc,_,_,_⟩⟩
      .unfold Wan at q;rw[q]at p;cases p
      .rw[hc]at g1;cases g1
      .rw[hc]at g1;cases g1
      .rw[A]at hp;have:=congrArg List.length hp;simp at this
      .rw[hc]at g1;cases g1
   .rw[hp];refine⟨⟨?_,λe he=>?_⟩,λe=>?_⟩
    .simp only[iZ,zbO];refine⟨λhmem=>?_,h1.1⟩;obtain⟨e,he,w⟩:=List.mem_map.1 hmem;have:=((h2 e).1 he).1;omega
    .rcases zO.1 he with rfl|he
     .exact⟨rfl,by have:=t.small;simp only;omega⟩
     .exact h1.2 e he
    .rw[zO,h2 e,g];constructor
     .rintro(rfl|⟨a,r⟩)
      .refine⟨by simp,rfl,l,λk hk hkc hkw=>?_⟩;cases hb:bit (d k).pre m with
       |false=>rfl
       |true=>have:=t.low k (by omega) m hb;omega
      .exact⟨by omega,r⟩
     .rintro⟨a,b,c,u⟩;rcases ly e.1 m with h|h
      .exact .inr ⟨h,b,c,u⟩
      .have ee:e.1=m:=by omega
       obtain⟨D,B,E⟩:=e;simp only at ee b c;subst ee;have:=NO.inj c l;subst this;rw[b];exact .inl rfl
theorem Fj.hist{m:Nat}:∀(i:Nat),m<=i->i<=n->(X m).S=(X i).S\/∃c,m<=c/\c<i/\yN (d c).c=true/\(c,(X m).S)∈(X i).hist
 |0,h1,_=>by
  have:m=0:=by omega
  subst this;exact .inl rfl
 |i+1,h1,h2=>by
  by_cases e:m=i+1
  .subst e;exact .inl rfl
  .have ih:(X m).S=(X i).S\/∃c,m<=c/\c<i/\yN (d c).c=true/\(c,(X m).S)∈(X i).hist:=Fj.hist i (by omega) (by omega);by_cases f:yN (d i).c=true/\Wan d X i
   .obtain⟨_,_,_,l,_⟩:=t.chain (i:=i) (by omega) f.1 f.2;rw[l];rcases ih with ih|⟨c,a,b,j,h⟩
    .exact .inr ⟨i,by omega,by omega,f.1,by rw[ih];simp⟩
    .exact .inr ⟨c,a,by omega,j,eJ _ h⟩
   .have g:yN (d i).c=false\/¬Wan d X i:=by
     by_cases k:yN (d i).c=true
     .exact .inr (λhw=>f ⟨k,hw⟩)
     .exact .inl (by simpa using k)
    obtain⟨o,p,_⟩:=t.calm (i:=i) (by omega) g;rw[o,p];rcases ih with ih|⟨c,a,b,j,h⟩
    .exact .inl ih
    .exact .inr ⟨c,a,by omega,j,h⟩
def Xt(base n:Nat)(d:Nat->DOp)(X:Nat->DSt)(v:Nat->CV)(m i:Nat)(p:List (Nat×Nat×Bp)):Prop:=JN base p/\∀e∈p,e.1<n/\e.2.1=base+e.1/\NO base d X v e.1 e.2.2/\Un d X m e.1/\bit (d i).pre e.1=true
theorem Fj.mine{i m:Nat}(hi:i<n)(hm:m<=i):Xt base n d X v m i (Ba (d i).pre (X i).pend).1:=by obtain⟨f,g⟩:=t.pend i (by omega);rw[(BH _ _).1];refine⟨f.filter _,λe he=>?_⟩;rw[ie,g e]at he;obtain⟨⟨a,b,c,u⟩,h⟩:=he;exact⟨by omega,b,c,λk hk=>u k (Nat.lt_of_lt_of_le hk hm),h⟩
theorem Fj.read{i:Nat}(hi:i<n){f:Tm->St->Option CV}(hc:(d i).c=.read f)(hw:Wan d X i){m:Nat}(hm:m<=n)(h:(m<=i/\∀c,m<=c->c<i->yN (d c).c=true->bit (d i).pre c=false)\/(i<m/\∀c,i<c->c<m->yN (d c).c=true->bit (d c).pre i=false)):∃p,Xt base n d X v m i p/\f (X i).tm (AA p (X m).S)=some (v i):=by
 have U:=DJ (t.step i hi);have M:f (X i).tm (AA (Ba (d i).pre (X i).pend).1 (X i).S)=some (v i)/\FZ (d i).pre (v i) (λS=>f (X i).tm (AA (Ba (d i).pre (X i).pend).1 S)) (X i).hist=true/\X (i+1)=⟨De (d i).dst (v i) (X i).tm,(X i).S,(X i).hist,(X i).pend,bif (d i).keep then⟨(d i).i,(Ba (d i).pre (X i).pend).1,f (X i).tm,v i⟩::(X i).recs else(X i).recs⟩:=by
  rcases U with⟨A,_,_⟩|⟨_,⟨J,g,_,_⟩|⟨J,g,N,R,C⟩|⟨J,o,aa,g,_,_,_⟩|⟨J,S,g,_,_,_⟩⟩
  .unfold Wan at hw;rw[hw]at A;cases A
  .rw[hc]at g;cases g
  .rw[hc]at g;cases g;exact⟨N,R,C⟩
  .rw[hc]at g;cases g
  .rw[hc]at g;cases g
 obtain⟨L,s2,Z⟩:=M;rcases h with⟨x,r⟩|⟨F,r⟩
 .refine⟨_,t.mine hi x,?_⟩;rcases t.hist i x (by omega)with e|⟨c,a,b,I,y⟩
  .rw[e];exact L
  .exact JD _ s2 c _ y (r c a b I)
 .
  have E:∀m,i<m->m<=n->(∀c,i<c->c<m->yN (d c).c=true->bit (d c).pre i=false)->∃p,JN base p/\(∀e∈p,e∈(X m).pend/\bit (d i).pre e.1=true)/\f (X i).tm (AA p (X m).S)=some (v i)/\((∃c,c<n/\m<=c/\yN (d c).c=true/\bit (d c).pre i=false)->(⟨i,p,f (X i).tm,v i⟩:Rec)∈(X m).recs):=by
   intro m;induction m with
   |zero=>intro h;omega
   |succ m ih=>
    intro N R C;by_cases e:m=i
    .subst e;rw[Z];obtain⟨H,_⟩:=t.pend m (by omega);rw[(BH _ _).1]at L⊢;refine⟨_,H.filter _,λe q=>?_,L,λ⟨c,c1,c2,c3,c4⟩=>?_⟩
     .exact ie.1 q
     .have:=t.keep m hi ⟨c,c1,by omega,c3,c4⟩;rw[this,t.idx m hi];simp
    .obtain⟨p,B,D,G,Q⟩:=ih (by omega) (by omega) (λc a b=>C c a (by omega));by_cases l:yN (d m).c=true/\Wan d X m
     .obtain⟨_,_,_,_,Y,T,q3⟩:=t.chain (i:=m) (by omega) l.1 l.2;have P:=C m (by omega) (by omega) l.1;have w:=Q ⟨m,by omega,zn _,l.1,P⟩;have j:=Ji (pre:=(d m).pre) _ _ w;rw[<-T]at j;have k:=Jh _ q3 _ j P;simp only at k;refine⟨(Ba (d m).pre p).2,?_,λe q=>?_,k,λ_=>j⟩
      .rw[(BH _ _).2];exact B.filter _
      .rw[(BH _ _).2]at q;have q:=ie.1 q;have:=D e q.1;rw[Y,(BH _ _).2];exact⟨ie.2 ⟨this.1,q.2⟩,this.2⟩
     .have s:yN (d m).c=false\/¬Wan d X m:=by
       by_cases O:yN (d m).c=true
       .exact .inr (λhw=>l ⟨O,hw⟩)
       .exact .inl (by simpa using O)
      obtain⟨H,_,z,g4⟩:=t.calm (i:=m) (by omega) s;refine⟨p,B,λe q=>?_,by rw[H];exact G,λ⟨c,c1,c2,c3,c4⟩=>g4 _ (Q ⟨c,c1,by omega,c3,c4⟩)⟩;have:=D e q;refine⟨?_,this.2⟩;rcases z with z|⟨o,_,z⟩
      .rw[z];exact this.1
      .rw[z];exact eJ _ this.1
  obtain⟨p,B,D,G,_⟩:=E m F hm r;refine⟨p,⟨B,λe q=>?_⟩,G⟩;obtain⟨_,V⟩:=t.pend m hm;obtain⟨a,b⟩:=D e q;obtain⟨a1,W,a3,a4⟩:=(V e).1 a;exact⟨by omega,W,a3,a4,b⟩
end
end Go.Ev
