/-
  Part of the proof: An interface value compared with nil.
-/
import Derived.Test.YtpdlpdkehminlaaGreatDoorEvI
import Derived.Laws.BytesArg
import Derived.Recover
set_option linter.all false
set_option maxRecDepth 100000
set_option maxHeartbeats 20000000
open Array renaming ext'->iq,length_toList->oH,range->zdV
open Bool renaming and_eq_true->zo,false_eq_true->zH,not_eq_true'->za5
open Go renaming MapEntry->iM,Oper->eS,Operand->eo,Program->zZ,TypeDesc->lE,TypeId->zL,Value->zg,World->ze,run_underlying->eT
open Go.Act renaming put->z8
open Go.Builtin renaming len_->ot
open Go.Instr renaming buildSlice->zc2,checkKey->lz,findAsking->oV,findKey->io,findNow->iK,loadAt->zdI,lookup->ec,sameNow->iS
open Go.Op renaming equal->zbM,equalIn->oU,maxDepth->zdH
open Go.Oper renaming upon_value->zbm
open Go.Region renaming wanted->lS
open Go.Result renaming andThen_ok->zr
open Go.Result.ok renaming injEq->zb8
open Go.Sem renaming run_bind->zK,run_pure->zP
open Go.Value renaming int->zX,nilIface->zab
open List renaming drop->zdc,forIn_cons->zbK,getElem?_cons_succ->zav,getElem?_cons_zero->zW,getElem?_eq_getElem->zc,getElem?_eq_none->oC,getElem?_toArray->zci,length_cons->lN,length_nil->zbo,map_cons->iZ,mem_cons->zO,mem_cons_of_mem->eJ,mem_cons_self->eO,mem_iff_getElem?->o6,mem_map->lQ,range'_succ->zde,range'_zero->zdf,range_eq_range'->zaD,size_toArray->zbh
open Nat renaming beq->zD,blt->zB,eq_of_beq_eq_true->oF,lt_of_lt_of_le->ez,reduceAdd->zdW,sub_zero->zcZ,succ_mul->zbv,zero_add->eV
open Option renaming map_eq_some_iff->zh,map_some->zQ
open Option.some renaming inj->eF,injEq->zb
open Std.Legacy.Range renaming forIn_eq_forIn_range'->zb0,size->zb1
open UInt8 renaming ofNat->eX
namespace Go.Ev
def Has(ρ:Ren)(S:St)(w:ze):Prop:=∀b o,S.heap.get b=some o->∃B D O,ρ.b b=some (B,D)/\w.heap[B]?=some O/\Bt ρ D o O
theorem Gm:∀{c:Tr CV}{n i:Nat}{l:List CV},Vx c i n=some l->l.length=n/\∀j,j<n->c.get (i+j)=l[j]?
 |c,0,i,l,h=>by simp[Vx]at h;subst h;exact⟨rfl,λj hj=>by omega⟩
 |c,n+1,i,l,h=>by
  simp only[Vx]at h;split at h
  .cases h
  .rename_i v hv;split at h
   .cases h
   .rename_i vs hvs;cases h;obtain⟨h1,h2⟩:=Gm hvs;refine⟨by simp[h1],λj hj=>?_⟩;cases j with
    |zero=>simpa using hv
    |succ j=>have:=h2 j (by omega);rw[show i+(j+1)=i+1+j by omega,this];simp
section
variable{P:zZ} {ρ:Ren} {S:St} {w:ze}
theorem PV(h:Has ρ S w){b:Nat}{c:Tr CV}{sh hi:Nat}{wr:Bool}{id sz ty:Nat}(hb:S.heap.get b=some (.row c sh hi wr id sz ty)):∃B D cs t fz,ρ.b b=some (B,D)/\w.heap[B]?=some (.cells cs t fz)/\∀i,i<hi->∃v V,c.get (i+sh)=some v/\yx ρ v=some V/\w.cell? ⟨B,i+D,none⟩=some V/\(wr=true->w.frozen? ⟨B,i+D,none⟩=false):=by
 obtain⟨B,D,O,g,d,f⟩:=h b _ hb;cases O with
 |cells cs t fz=>
  refine⟨B,D,cs,t,fz,g,d,λi hi'=>?_⟩;obtain⟨v,V,k,j,n,m⟩:=f.1 i hi';refine⟨v,V,k,j,by simp[World.cell?,d,n],λhw=>?_⟩;have:=m hw;obtain⟨l,o⟩:=fz;simp only[World.frozen?,d];simp only[not_and]at this;by_cases a:l<=i+D
  .have:=this a;simp[a];omega
  .simp[a]
 |_=>exact f.elim
theorem DL(h:Has ρ S w){b o n:Nat}{l:List CV}(hl:L8 S b o n=some l):∃B D L,ρ.b b=some (B,D)/\yG ρ l=some L/\L.length=n/\l.length=n/\(loadCells ⟨B,o+D,none⟩ n).run P w=.ok L.toArray w:=by
 unfold L8 at hl;split at hl
 .rename_i c sh hi wr id sz ty hb;cases i:Nat.ble (o+n) hi with
  |false=>rw[i]at hl;cases hl
  |true=>
   rw[i,cond_true]at hl;have i:=A9 i;obtain⟨B,D,J,t,M,G,N,z⟩:=PV h hb;obtain⟨A,y⟩:=Gm hl;have x:∀(m:Nat)(a:List CV),a.length=m->(∀j,j<m->∃V,∀v,a[j]?=some v->yx ρ v=some V)->∃L,yG ρ a=some L:=by
    intro m;induction m with
    |zero=>intro a d _;cases a<;>simp at d;exact⟨[],rfl⟩
    |succ m ih=>
     intro a d C;cases a with
     |nil=>simp at d
     |cons v a=>obtain⟨V,s⟩:=C 0 (by omega);have q:=s v (by simp);obtain⟨L,f⟩:=ih a (by simpa using d) (λj hj=>by obtain⟨V,s⟩:=C (j+1) (by omega);exact⟨V,λv q=>s v (by simpa using q)⟩);exact⟨V::L,BM q f⟩
   obtain⟨L,f⟩:=x n l A (λj hj=>by obtain⟨v,V,p,k,_⟩:=z (o+j) (by omega);refine⟨V,λu hu=>?_⟩;have:=y j hj;rw[show o+sh+j=o+j+sh by omega,p,hu]at this;cases this;exact k);have F:=Af f;refine⟨B,D,L,G,f,by omega,A,?_⟩;have:=run_loadCells_list (P:=P) w ⟨B,o+D,none⟩ L (λj V hj=>by
    have r:j<n:=by
     rcases Nat.lt_or_ge j L.length with h|h
     .omega
     .simp[oC h]at hj
    obtain⟨v,I,p,k,H,_⟩:=z (o+j) (by omega);have:=y j r;rw[show o+sh+j=o+j+sh by omega,p]at this;obtain⟨U,E,g⟩:=AX f j v this.symm;rw[hj]at g;cases g;rw[k]at E;cases E;rw[GL,show o+D+j=o+j+D by omega];exact H)
   rw[show L.length=n by omega]at this;exact this
 .cases hl
theorem TJ(h:Has ρ S w){b o:Nat}{v:CV}(hl:VJ S b o=some v):∃B D V,ρ.b b=some (B,D)/\yx ρ v=some V/\w.cell? ⟨B,o+D,none⟩=some V:=by
 unfold VJ at hl;split at hl
 .rename_i c sh hi wr id sz ty hb;cases hc:zB o hi with
  |false=>rw[hc]at hl;cases hl
  |true=>rw[hc,cond_true]at hl;obtain⟨B,D,j,t,k,a,l,g⟩:=PV h hb;obtain⟨u,V,f,d,i,_⟩:=g o (yF hc);rw[f]at hl;cases hl;exact⟨B,D,V,a,d,i⟩
 .cases hl
theorem No(h:Has ρ S w){t:zL}{i:TyE}(ht:Ac P t=some i){p v:CV}(hl:Wn i.size (Bs i.desc) p S=some v){A:zg}(hp:yx ρ p=some A):∃V,yx ρ v=some V/\(zdI t A).run P w=.ok V w/\∃x,A=.pointer (some x)/\(loadVar t x).run P w=.ok V w:=by
 unfold Wn at hl;split at hl
 .rename_i b o;simp only[yx,zh]at hp;obtain⟨⟨B,D⟩,g,rfl⟩:=hp;have f:∃V,yx ρ v=some V/\(loadVar t ⟨B,o+D,none⟩).run P w=.ok V w:=by
   cases ha:Bs i.desc with
   |true=>
    rw[ha,cond_true]at hl;split at hl
    .rename_i l hn;cases hl;obtain⟨q,m,L,a,d,j,r,k⟩:=DL (P:=P) h hn;rw[g]at a;cases a;refine⟨.agg L.toArray,by simp[yx,d],?_⟩;simp[loadVar,E3 ht w,ha,yW ht w,k]
    .cases hl
   |false=>rw[ha,cond_false]at hl;obtain⟨q,m,V,a,d,j⟩:=TJ h hl;rw[g]at a;cases a;refine⟨V,d,?_⟩;simp[loadVar,E3 ht w,ha,j]
  obtain⟨V,n,c⟩:=f;exact⟨V,n,by simp[zdI,Instr.sureAddr,c],_,rfl,c⟩
 .cases hl
end
def Gf(P:zZ)(o:eS)(f:Tm->St->Option CV):Prop:=∀(ρ:Ren)(nt:Nat)(tm:Tm)(a:Act)(v:CV)(S:St)(w:ze),A6 ρ nt tm a->FE P ρ->Has ρ S w->f tm S=some v->∃V,yx ρ v=some V/\(execOp a.eval o).run P w=.ok (.value V) w
section
variable{P:zZ} {o:eS}
theorem So{t:zL}{x:eo}{i:TyE}(ht:Ac P t=some i)(ho:o.op=.load t x):Gf P o (Rn i.size (Bs i.desc) (opd P x)):=by
 intro ρ nt tm a v S w hf hg hh h;unfold Rn at h;split at h
 .rename_i p hp;obtain⟨V,c,b,_⟩:=No hh ht h (ym hf hg x p hp);exact⟨V,c,by simp[execOp,ho,b]⟩
 .cases h
def GB(P:zZ)(kt:zL)(d:lE)(K K':zg)(r:Bool):Prop:=iS d K K'=some r\/((∀A B,iS d A B=none)/\∀w,(zbM kt K K').run P w=.ok r w)
def DK(P:zZ)(kt:zL)(d:lE)(K:zg)(L:List iM)(i:Nat)(V:zg):Prop:=∃x,L[i]?=some x/\x.val=V/\GB P kt d K x.key true/\∀j,j<i->∀y,L[j]?=some y->GB P kt d K y.key false
theorem DK.zero{kt:zL}{d:lE}{K:zg}{x:iM}{L:List iM}(h:GB P kt d K x.key true):DK P kt d K (x::L) 0 x.val:=⟨x,rfl,rfl,h,λj hj=>by omega⟩
theorem DK.succ{kt:zL}{d:lE}{K V:zg}{y:iM}{L:List iM}{i:Nat}(hy:GB P kt d K y.key false)(h:DK P kt d K L i V):DK P kt d K (y::L) (i+1) V:=by
 obtain⟨x,a,c,f,b⟩:=h;refine⟨x,by simpa using a,c,f,λj hj z hz=>?_⟩;cases j with
 |zero=>simp only[zW,zb]at hz;subst hz;exact hy
 |succ j=>exact b j (by omega) z (by simpa using hz)
theorem OP{kt:zL}{d:lE}{K K':zg}{r:Bool}(h:GB P kt d K K' r)(hm:∀A B,iS d A B=none):∀w,(zbM kt K K').run P w=.ok r w:=by
 rcases h with h|⟨_,h⟩
 .rw[hm]at h;cases h
 .exact h
theorem O4{kt:zL}{d:lE}{K K':zg}{r:Bool}(h:GB P kt d K K' r)(hm:¬∀A B,iS d A B=none):iS d K K'=some r:=by
 rcases h with h|⟨h,_⟩
 .exact h
 .exact absurd h hm
theorem DK.run{kt:zL}{d:lE}{K V:zg}(hun:∀w,(underlying kt).run P w=.ok d w):∀{L:List iM}{i:Nat},DK P kt d K L i V->∀w,(io kt K L).run P w=.ok (some (i,V)) w:=by
 intro L i h w;by_cases c:∀A B,iS d A B=none
 .have k:∀(L:List iM)(i n:Nat),DK P kt d K L i V->(oV kt K L n).run P w=.ok (some (n+i,V)) w:=by
   intro L;induction L with
   |nil=>rintro i n ⟨x,a,_⟩;simp at a
   |cons y L ih=>
    rintro i n ⟨x,a,f,g,b⟩;cases i with
    |zero=>simp only[zW,zb]at a;subst a;have:=OP g c w;simp[oV,this,f]
    |succ i=>have:=OP (b 0 (by omega) y rfl) c w;have ih:=ih i (n+1) ⟨x,by simpa using a,f,g,λj hj z hz=>b (j+1) (by omega) z (by simpa using hz)⟩;simp only[oV,zK,this,zr,zH,if_false];rw[ih,show n+1+i=n+(i+1) by omega]
  have e:iK d K L 0=none:=by
   obtain⟨x,a,_⟩:=h;cases L with
   |nil=>simp at a
   |cons y L=>simp[iK,c]
  have:=k L i 0 h;rw[eV]at this;simp only[io,zK,hun,zr,e];exact this
 .have l:∀(L:List iM)(i n:Nat),DK P kt d K L i V->iK d K L n=some (some (n+i,V)):=by
   intro L;induction L with
   |nil=>rintro i n ⟨x,a,_⟩;simp at a
   |cons y L ih=>
    rintro i n ⟨x,a,f,g,b⟩;cases i with
    |zero=>simp only[zW,zb]at a;subst a;simp[iK,O4 g c,f]
    |succ i=>have:=O4 (b 0 (by omega) y rfl) c;have ih:=ih i (n+1) ⟨x,by simpa using a,f,g,λj hj z hz=>b (j+1) (by omega) z (by simpa using hz)⟩;simp only[iK,this];rw[ih,show n+1+i=n+(i+1) by omega]
  have:=l L i 0 h;rw[eV]at this;simp only[io,zK,hun,zr,this];rfl
def Kg(P:zZ)(kt:zL)(d:lE)(K:zg)(L:List iM):Prop:=∀x,x∈L->GB P kt d K x.key false
theorem Kg.run{kt:zL}{d:lE}{K:zg}(hun:∀w,(underlying kt).run P w=.ok d w){L:List iM}(h:Kg P kt d K L):∀w,(io kt K L).run P w=.ok none w:=by
 intro w;by_cases a:∀A B,iS d A B=none
 .have c:∀(L:List iM)(n:Nat),Kg P kt d K L->(oV kt K L n).run P w=.ok none w:=by
   intro L;induction L with
   |nil=>intro n _;rfl
   |cons y L ih=>intro n h;have:=OP (h y eO) a w;simp only[oV,zK,this,zr,zH,if_false];exact ih (n+1) (λz hz=>h z (eJ _ hz))
  cases L with
  |nil=>simp[io,hun,iK]
  |cons y L=>
   have e:iK d K (y::L) 0=none:=by simp[iK,a]
   simp only[io,zK,hun,zr,e];exact c _ 0 h
 .have b:∀(L:List iM)(n:Nat),Kg P kt d K L->iK d K L n=some none:=by
   intro L;induction L with
   |nil=>intro n _;rfl
   |cons y L ih=>intro n h;simp only[iK,O4 (h y eO) a];exact ih (n+1) (λz hz=>h z (eJ _ hz))
  simp only[io,zK,hun,zr,b L 0 h];rfl
theorem Ot{ρ:Ren}{d:lE}{k k':CV}{K K':zg}(hp:Cp d k=true){r:Bool}(h:Eh k k'=some r)(hK:yx ρ k=some K)(hK':yx ρ k'=some K'):iS d K K'=some r:=by
 cases k<;>cases k'<;>simp only[Eh,reduceCtorEq]at h
 .cases d<;>simp only[Cp,zH]at hp;simp only[yx,zb]at hK hK';subst hK;subst hK';simpa[iS]using h
 .cases d<;>simp only[Cp,zH]at hp;simp only[yx,zb]at hK hK';subst hK;subst hK';split at h
  .rename_i hk;simp only[iS,hk,if_true];rw[<-B4];exact h
  .cases h
 .cases d<;>simp only[Cp,zH]at hp;simp only[yx,zb]at hK hK';subst hK;subst hK';simp only[iS];rw[C9,BP,BP,Gk _ _ _ h]
theorem QT{d:lE}{k k':CV}(hp:Cp d k=true):Fh k k'=Eh k k':=by cases k<;>first|rfl|(cases d<;>simp[Cp]at hp)
theorem Ec{xs0:List CV}:∀(l:List (Nat×Nat×Bool×EqT))(i:Nat)(xs:List CV),AC i l xs=true->xs0.drop i=xs->∀off size agg e,(off,size,agg,e)∈l->size=1/\agg=false/\∃x,xs0[off]?=some x/\AK e x=true
 |[],_,_,_,_,_,_,_,_,h=>by cases h
 |(o,s,g,e')::l,i,[],hp,_,off,size,agg,e,h=>by simp[AC]at hp
 |(o,s,g,e')::l,i,x::xs,hp,hd,off,size,agg,e,h=>by
  simp only[AC,zo,za5]at hp;obtain⟨⟨⟨⟨h1,h2⟩,h3⟩,h4⟩,h5⟩:=hp;rcases zO.1 h with he|he
  .cases he;obtain rfl:=yZ h1;exact⟨yZ h2,h3,x,by have:=congrArg (λm=>m[0]?) hd;simpa using this,h4⟩
  .exact Ec l (i+1) xs h5 (by have:=congrArg (zdc 1) hd;simpa using this) off size agg e he
theorem KW{e:EqT}{x y:CV}(hp:AK e x=true){r:Bool}(h:Eh x y=some r):DX e x y=some r:=by cases e<;>cases x<;>simp only[AK,zH]at hp<;>cases y<;>simp only[Eh,reduceCtorEq]at h<;>simpa only[DX]using h
theorem EH{xs0 ys0:List CV}:∀(l:List (Nat×Nat×Bool×EqT))(i:Nat)(xs ys:List CV)(r:Bool),AC i l xs=true->xs0.drop i=xs->ys0.drop i=ys->EE xs ys=some r->DE l xs0 ys0=some r
 |[],i,[],ys,r,_,_,_,h=>by
  rw[FY];cases ys with
  |nil=>simpa[EE]using h
  |cons=>simp[EE]at h
 |[],i,x::xs,ys,r,hp,_,_,h=>by simp[AC]at hp
 |_::_,i,[],ys,r,hp,_,_,h=>by simp[AC]at hp
 |(o,s,g,e)::l,i,x::xs,[],r,hp,hx,hy,h=>by simp[EE]at h
 |(o,s,g,e)::l,i,x::xs,y::ys,r,hp,hx,hy,h=>by
  simp only[AC,zo,za5]at hp;obtain⟨⟨⟨⟨h1,h2⟩,h3⟩,h4⟩,h5⟩:=hp;obtain rfl:=yZ h1;obtain rfl:=yZ h2;subst h3;have gx:xs0[o]?=some x:=by have:=congrArg (λm=>m[0]?) hx;simpa using this
  have b:ys0[o]?=some y:=by have:=congrArg (λm=>m[0]?) hy;simpa using this
  rw[Es];simp only[IK,cond_false,gx,b];simp only[EE]at h;have a:xs0.drop (o+1)=xs:=by have:=congrArg (zdc 1) hx;simpa using this
  have c:ys0.drop (o+1)=ys:=by have:=congrArg (zdc 1) hy;simpa using this
  split at h
  .rename_i hk;rw[KW h4 hk];exact EH l (o+1) xs ys r h5 a c h
  .rename_i hk;rw[KW h4 hk];exact h
  .cases h
theorem AZ{ρ:Ren}{kt:zL}{ki:TyE}(hk:Ac P kt=some ki){k k':CV}{K K':zg}(hp:Ak (C0 P kt ki.desc) k=true){r:Bool}(h:Fh k k'=some r)(hK:yx ρ k=some K)(hK':yx ρ k'=some K'):GB P kt ki.desc K K' r:=by
 unfold C0 at hp;split at hp
 .rename_i fields hd;split at hp
  .rename_i l hl;cases k<;>simp only[Ak,zH]at hp;rename_i xs;right;refine⟨λA B=>by rw[hd];rfl,λw=>?_⟩;cases k'<;>simp only[Fh,Eh,reduceCtorEq]at h;rename_i ys;cases hb:zD xs.length ys.length with
   |false=>rw[hb]at h;cases h
   |true=>rw[hb,cond_true]at h;have:=EH l 0 xs ys r hp rfl rfl h;exact E1 8 zdH (by decide) kt (.agg xs) (.agg ys) K K' r (by rw[hl];simp only[DX];exact this) hK hK' w
  .simp[Ak]at hp
 .rename_i an aq hd;split at hp
  .rename_i l hl;cases k<;>simp only[Ak,zH]at hp;rename_i xs;right;refine⟨λA B=>by rw[hd];rfl,λw=>?_⟩;cases k'<;>simp only[Fh,Eh,reduceCtorEq]at h;rename_i ys;cases hb:zD xs.length ys.length with
   |false=>rw[hb]at h;cases h
   |true=>rw[hb,cond_true]at h;have:=EH l 0 xs ys r hp rfl rfl h;exact E1 8 zdH (by decide) kt (.agg xs) (.agg ys) K K' r (by rw[hl];simp only[DX];exact this) hK hK' w
  .simp[Ak]at hp
 .simp only[Ak]at hp;rw[QT hp]at h;exact .inl (Ot hp h hK hK')
theorem Og{fs:List Field}{g:Field->PUnit->Sem (ForInStep PUnit)}{w:ze}(h:∀f,f∈fs->(g f ⟨⟩).run P w=.ok (.yield ⟨⟩) w):(forIn fs ⟨⟩ g).run P w=.ok ⟨⟩ w:=by
 induction fs with
 |nil=>rfl
 |cons f fs ih=>rw[zbK];simp only[zK,h f eO,zr];exact ih (λf' hf=>h f' (eJ _ hf))
theorem OK{t:zL}{ki:TyE}{fields:Array Field}(hk:Ac P t=some ki)(hd:ki.desc=.struct fields)(d:Nat):FV P (d+1) t=if P.stoodInHeld t then .no else .parts ((fields.toList.filter (·.name≠ "_")).map (Ia P d)):=by rw[FV];simp only[hk,hd];rfl
theorem Rc{t q:zL}{ki:TyE}{n:Nat}(hk:Ac P t=some ki)(hd:ki.desc=.array n q)(d:Nat):FV P (d+1) t=(match Ac P q with|some j=>.parts ((List.range n).map (TF P d q j))|none=>.no):=by rw[FV];simp only[hk,hd];rfl
theorem M5{is:List Nat}{g:Nat->PUnit->Sem (ForInStep PUnit)}{w:ze}(h:∀i,i∈is->(g i ⟨⟩).run P w=.ok (.yield ⟨⟩) w):(forIn is ⟨⟩ g).run P w=.ok ⟨⟩ w:=by
 induction is with
 |nil=>rfl
 |cons i is ih=>rw[zbK];simp only[zK,h i eO,zr];exact ih (λi' hi=>h i' (eJ _ hi))
theorem KL{ρ:Ren}{d n:Nat}{t:zL}{x:CV}{K:zg}(hp:AK (FV P d t) x=true)(hK:yx ρ x=some K)(e:Bool)(w:ze):(lz e (n+1) t K).run P w=.ok () w:=by
 cases d with
 |zero=>cases x<;>simp[FV,AK]at hp
 |succ d=>
  simp only[FV]at hp;cases ht:Ac P t with
  |none=>rw[ht]at hp;cases x<;>simp[AK]at hp
  |some i=>
   rw[ht]at hp;simp only at hp;have a:=yg ht w;unfold lz;simp only[zK,a,zr];cases hd:i.desc<;>rw[hd]at hp<;>simp only at hp
   case bool=>cases x<;>simp only[AK,zH]at hp<;>simp only[yx,zb]at hK<;>subst hK<;>rfl
   case int=>cases x<;>simp only[AK,zH]at hp<;>simp only[yx,zb]at hK<;>subst hK<;>rfl
   case string=>cases x<;>simp only[AK,zH]at hp<;>simp only[yx,zb]at hK<;>subst hK<;>rfl
   all_goals(exfalso;revert hp;first|(cases x<;>simp[AK];done)|(split<;>cases x<;>simp[AK]))
theorem AU{ρ:Ren}{kt:zL}{ki:TyE}(hk:Ac P kt=some ki){k:CV}{K:zg}(hp:Ak (C0 P kt ki.desc) k=true)(hK:yx ρ k=some K)(e:Bool)(w:ze):(lz e 10000 kt K).run P w=.ok () w:=by
 have hun:=yg hk w;unfold C0 at hp;split at hp
 .rename_i fields hd;split at hp
  .rename_i l hl;cases k<;>simp only[Ak,zH]at hp;rename_i xs;simp only[yx,zh]at hK;obtain⟨LX,hX,rfl⟩:=hK;unfold lz;simp only[zK,hun,hd,zr];rw[<-Array.forIn_toList];have hl':∃d',l=(fields.toList.filter (·.name≠ "_")).map (Ia P d'):=by
    rw[OK hk hd]at hl;split at hl
    .cases hl
    .exact⟨7,(EqT.parts.inj hl).symm⟩
   obtain⟨d',hl'⟩:=hl';have quiet:∀f,f∈fields.toList->f.name≠ "_" ->∃V,(part f.type LX.toArray f.offset).run P w=.ok V w/\(lz e 9999 f.type V).run P w=.ok () w:=by
    intro f hf hn;have hm:Ia P d' f∈l:=by rw[hl'];exact lQ.2 ⟨f,List.mem_filter.2 ⟨hf,by simpa using hn⟩,rfl⟩
    obtain⟨q1,q2,x,q3,q4⟩:=Ec l 0 xs hp rfl _ _ _ _ hm;cases hj:Ac P f.type with
    |none=>rw[hj]at q1;cases q1
    |some j=>rw[hj]at q1 q2;simp only at q1 q2;obtain⟨V,hV,hV'⟩:=Dq hj hX (off:=f.offset) (v:=x) (by rw[q1,q2];simpa[IK]using q3);exact⟨V,hV' w,KL q4 hV e w⟩
   rw[Og (P:=P) (w:=w) λf hf=>?_]
   .rfl
   by_cases hn:f.name≠ "_"
   .obtain⟨V,h1,h2⟩:=quiet f hf hn;rw[if_pos hn];simp[h1,h2]
   .rw[if_neg hn];simp
  .simp[Ak]at hp
 .rename_i an aq hd;split at hp
  .rename_i l hl;cases k<;>simp only[Ak,zH]at hp;rename_i xs;simp only[yx,zh]at hK;obtain⟨LX,hX,rfl⟩:=hK;rw[Rc hk hd]at hl;cases hj:Ac P aq with
   |none=>rw[hj]at hl;cases hl
   |some j=>
    rw[hj]at hl;have hl:=EqT.parts.inj hl;have hsz:=yW hj w;unfold lz;simp only[zK,hun,hd,zr];rw[zb0,<-zaD];simp only[zb1,zcZ,Nat.add_sub_cancel,Nat.div_one];rw[M5 (P:=P) (w:=w) λi hi=>?_]
    .rfl
    have hm:(i*j.size,j.size,Bs j.desc,FV P 7 aq)∈l:=by rw[<-hl];exact lQ.2 ⟨i,hi,rfl⟩
    obtain⟨q1,q2,x,q3,q4⟩:=Ec l 0 xs hp rfl _ _ _ _ hm;obtain⟨V,hV,hV'⟩:=Dq hj hX (off:=i*j.size) (v:=x) (by rw[q1,q2];rw[q1]at q3;simpa[IK]using q3);have h2:=KL q4 hV e (n:=9998) w;simp[hsz,hV',h2]
  .simp[Ak]at hp
 .rename_i hns hna;simp only[Ak]at hp;unfold lz;simp only[zK,hun,zr];cases hd:ki.desc<;>rw[hd]at hp<;>cases k<;>simp only[Cp,zH]at hp<;>simp only[yx,zb]at hK<;>subst hK<;>rfl
def GR(ρ:Ren)(es:List (CV×CV×Nat))(l:List (zg×zg×Nat)):Prop:=l.length=es.length/\∀(i:Nat)(e:CV×CV×Nat),es[i]?=some e->∃e':zg×zg×Nat,l[i]?=some e'/\yx ρ e.1=some e'.1/\yx ρ e.2.1=some e'.2.1/\e.2.2=e'.2.2
theorem GR.tail{ρ:Ren}{e:CV×CV×Nat}{es:List (CV×CV×Nat)}{l:List (zg×zg×Nat)}(h:GR ρ (e::es) l):∃e' l',l=e'::l'/\yx ρ e.1=some e'.1/\yx ρ e.2.1=some e'.2.1/\e.2.2=e'.2.2/\GR ρ es l':=by
 obtain⟨f,g⟩:=h;cases l with
 |nil=>simp at f
 |cons e' l'=>obtain⟨x,d,a,b,c⟩:=g 0 e rfl;simp only[zW,zb]at d;subst d;exact⟨e',l',rfl,a,b,c,by simpa using f,λi x d=>by simpa using g (i+1) x (by simpa using d)⟩
def yC(e:zg×zg×Nat):iM:=⟨e.1,e.2.1,e.2.2⟩
theorem Iu{ρ:Ren}{kt:zL}{ki:TyE}(hk:Ac P kt=some ki){k:CV}{K:zg}(hp:Ak (C0 P kt ki.desc) k=true)(hK:yx ρ k=some K):∀(es:List (CV×CV×Nat))(l:List (zg×zg×Nat))(r:Option CV),find k es=some r->GR ρ es l->(r=none/\Kg P kt ki.desc K (l.map yC))\/(∃v V i,r=some v/\yx ρ v=some V/\DK P kt ki.desc K (l.map yC) i V/\i<l.length)
 |[],l,r,h,he=>by simp only[find,zb]at h;subst h;have:l=[]:=List.length_eq_zero_iff.1 he.1;subst this;exact .inl ⟨rfl,λx hx=>by cases hx⟩
 |(k',v,b)::es,l,r,h,he=>by
  obtain⟨p,m,rfl,g,j,q,a⟩:=he.tail;simp only[find]at h;split at h
  .rename_i hq;cases h;exact .inr ⟨v,_,0,rfl,j,DK.zero (AZ hk hp hq hK g),by simp⟩
  .rename_i hq;have f:=AZ hk hp hq hK g;rcases Iu hk hp hK es m r h a with⟨d,c⟩|⟨u,U,i,d,c,n,o⟩
   .refine .inl ⟨d,λx hx=>?_⟩;rcases zO.1 hx with rfl|hx
    .exact f
    .exact c x hx
   .exact .inr ⟨u,U,i+1,d,c,DK.succ f n,by simp;omega⟩
  .cases h
theorem FK{ρ:Ren}{kt:zL}{ki:TyE}(hk:Ac P kt=some ki){k:CV}{K:zg}(hp:Ak (C0 P kt ki.desc) k=true)(hK:yx ρ k=some K){es:List (CV×CV×Nat)}{l:List (zg×zg×Nat)}{r:Option CV}(h:find k es=some r)(he:GR ρ es l)(w:ze):(r=none/\(io kt K (l.map yC)).run P w=.ok none w)\/(∃v V i,r=some v/\yx ρ v=some V/\(io kt K (l.map yC)).run P w=.ok (some (i,V)) w/\i<l.length):=by
 have a:=λw=>yg (P:=P) hk w;rcases Iu hk hp hK es l r h he with⟨c,b⟩|⟨v,V,i,c,b,f,d⟩
 .exact .inl ⟨c,b.run a w⟩
 .exact .inr ⟨v,V,i,c,b,f.run a w,d⟩
theorem C2{ρ:Ren}{S:St}{w:ze}(h:Has ρ S w){r:Nat}{es:List (CV×CV×Nat)}{clock:Nat}(hr:S.heap.get r=some (.map es clock)):∃R l,ρ.b r=some (R,0)/\w.heap[R]?=some (.map (l.map yC).toArray clock)/\GR ρ es l:=by
 obtain⟨B,D,O,c,g,a⟩:=h r _ hr;cases O with
 |map es' clock'=>obtain⟨rfl,rfl,l,f,d,i⟩:=a;refine⟨B,l,c,?_,d,i⟩;rw[g];congr 2;apply iq;simp only[f];rfl
 |_=>exact a.elim
theorem KH:∀(a b:List Nat),Gx a b=some true->a=b
 |[],[],_=>rfl
 |[],_::_,h=>by simp[Gx]at h
 |_::_,[],h=>by simp[Gx]at h
 |a::x,b::y,h=>by
  simp only[Gx]at h;cases hb:zD a b with
  |true=>rw[hb,cond_true]at h;rw[yZ hb,KH x y h]
  |false=>
   rw[hb,cond_false]at h;cases hc:(zB a 256&&zB b 256)with
   |true=>rw[hc,cond_true]at h;cases h
   |false=>rw[hc,cond_false]at h;cases h
theorem NZ{k k':CV}(h:Eh k k'=some true):k=k':=by
 cases k<;>cases k'<;>simp only[Eh,reduceCtorEq]at h
 .simp only[zb,beq_iff_eq]at h;rw[h]
 .split at h
  .rename_i hk;rw[B4]at h;simp only[zb,beq_iff_eq]at h;rw[hk,h]
  .cases h
 .rw[KH _ _ h]
theorem MB:∀{xs ys:List CV},EE xs ys=some true->xs=ys
 |[],[],_=>rfl
 |[],_::_,h=>by simp[EE]at h
 |_::_,[],h=>by simp[EE]at h
 |x::xs,y::ys,h=>by
  simp only[EE]at h;split at h
  .rename_i hk;rw[NZ hk,MB h]
  .cases h
  .cases h
theorem Qd{k k':CV}(h:Fh k k'=some true):k=k':=by
 unfold Fh at h;split at h
 .rename_i xs ys;cases hb:zD xs.length ys.length with
  |false=>rw[hb]at h;cases h
  |true=>rw[hb,cond_true]at h;rw[MB h]
 .exact NZ h
theorem QB{k:CV}:∀(es:List (CV×CV×Nat)),find k es=some none->∀e,e∈es->Fh k e.1=some false
 |[],_,e,he=>by cases he
 |(k',v',n)::es,h,e,he=>by
  simp only[find]at h;split at h
  .cases h
  .rename_i hk;rcases zO.1 he with rfl|he
   .exact hk
   .exact QB es h e he
  .cases h
theorem Qk{k v:CV}:∀(es:List (CV×CV×Nat)),BS es=true->find k es=some (some v)->(∃e,e∈es/\Fh k e.1=some true)/\∀e,e∈es->Fh k e.1=some false\/(Fh k e.1=some true/\e.2.1=v)
 |[],_,h=>by simp[find]at h
 |(k',v',n)::es,ha,h=>by
  simp only[BS,zo]at ha;simp only[find]at h;split at h
  .rename_i hk;cases h;refine⟨⟨_,eO,hk⟩,λe he=>?_⟩;rcases zO.1 he with rfl|he
   .exact .inr ⟨hk,rfl⟩
   .left;have:=List.all_eq_true.1 ha.1 e he;rw[Qd hk];split at this
    .rename_i b hb;simp only[za5]at this;rw[hb,this]
    .cases this
  .rename_i hk;obtain⟨⟨e,a,d⟩,c⟩:=Qk es ha.2 h;refine⟨⟨e,eJ _ a,d⟩,λe he=>?_⟩;rcases zO.1 he with rfl|he
   .exact .inl hk
   .exact c e he
  .cases h
theorem Tb{kt:zL}{d:lE}{K V:zg}:∀(L:List iM),(∀x,x∈L->GB P kt d K x.key false\/(GB P kt d K x.key true/\x.val=V))->(∃x,x∈L/\GB P kt d K x.key true/\¬GB P kt d K x.key false)->∃i,DK P kt d K L i V
 |[],_,⟨x,hx,_⟩=>by cases hx
 |y::L,h,⟨x,hx,hx2,hx3⟩=>by
  rcases h y eO with hy|⟨hy,hv⟩
  .rcases zO.1 hx with rfl|hx
   .exact absurd hy hx3
   .obtain⟨i,hi⟩:=Tb L (λz hz=>h z (eJ _ hz)) ⟨x,hx,hx2,hx3⟩;exact⟨i+1,hi.succ hy⟩
  .exact⟨0,by rw[<-hv];exact DK.zero hy⟩
theorem T8{kt:zL}{d:lE}{K K':zg}(w:ze)(h:GB P kt d K K' true):¬GB P kt d K K' false:=by
 intro a;rcases h with h|⟨c,h⟩<;>rcases a with a|⟨b,a⟩
 .rw[h]at a;cases a
 .rw[b]at h;cases h
 .rw[c]at a;cases a
 .have:=(h w).symm.trans (a w);simp at this
def RO(ρ:Ren)(es:List (CV×CV×Nat))(L:List iM):Prop:=BS es=true/\∃l:List (zg×zg),(L.map λe=>(e.key,e.val)).Perm l/\l.length=es.length/\∀(i:Nat)(e:CV×CV×Nat),es[i]?=some e->∃e':zg×zg,l[i]?=some e'/\yx ρ e.1=some e'.1/\yx ρ e.2.1=some e'.2
theorem RO.of_mem{ρ:Ren}{es:List (CV×CV×Nat)}{L:List iM}(h:RO ρ es L){x:iM}(hx:x∈L):∃e,e∈es/\yx ρ e.1=some x.key/\yx ρ e.2.1=some x.val:=by
 obtain⟨_,l,g,j,m⟩:=h;have:(x.key,x.val)∈l:=g.mem_iff.1 (lQ.2 ⟨x,hx,rfl⟩);obtain⟨i,f⟩:=o6.1 this;have d:i<es.length:=by rw[<-j];exact(List.getElem?_eq_some_iff.1 f).1
 have k:es[i]?=some es[i]:=zc d;obtain⟨n,a,b,c⟩:=m i _ k;rw[f]at a;cases a;exact⟨es[i],List.getElem_mem d,b,c⟩
theorem RO.mem_of{ρ:Ren}{es:List (CV×CV×Nat)}{L:List iM}(h:RO ρ es L){e:CV×CV×Nat}(he:e∈es):∃x,x∈L/\yx ρ e.1=some x.key/\yx ρ e.2.1=some x.val:=by obtain⟨_,l,d,m,k⟩:=h;obtain⟨i,f⟩:=o6.1 he;obtain⟨j,a,b,c⟩:=k i _ f;have:j∈L.map λe=>(e.key,e.val):=d.mem_iff.2 (o6.2 ⟨i,a⟩);obtain⟨x,g,rfl⟩:=lQ.1 this;exact⟨x,g,b,c⟩
theorem H7{ρ:Ren}{kt:zL}{ki:TyE}(hk:Ac P kt=some ki){k:CV}{K:zg}(hp:Ak (C0 P kt ki.desc) k=true)(hK:yx ρ k=some K){es:List (CV×CV×Nat)}{L:List iM}{r:Option CV}(h:find k es=some r)(he:RO ρ es L)(w:ze):(r=none/\(io kt K L).run P w=.ok none w)\/(∃v V i,r=some v/\yx ρ v=some V/\(io kt K L).run P w=.ok (some (i,V)) w):=by
 have d:=λw=>yg (P:=P) hk w;cases r with
 |none=>
  left;have c:=QB es h;have:Kg P kt ki.desc K L:=λx j=>by obtain⟨e,g,f,_⟩:=he.of_mem j;exact AZ hk hp (c e g) hK f
  exact⟨rfl,this.run d w⟩
 |some v=>
  right;obtain⟨⟨e,g,f⟩,b⟩:=Qk es he.1 h;obtain⟨x,A,z,m⟩:=he.mem_of g;have n:e.2.1=v:=by
   rcases b e g with a|⟨_,a⟩
   .rw[f]at a;cases a
   .exact a
  have j:=AZ hk hp f hK z;obtain⟨i,p⟩:=Tb (V:=x.val) L (λy hy=>by
   obtain⟨t,q,o,l⟩:=he.of_mem hy;rcases b t q with a|⟨a,s⟩
   .exact .inl (AZ hk hp a hK o)
   .refine .inr ⟨AZ hk hp a hK o,?_⟩;rw[s,<-n,m]at l;exact(eF l).symm) ⟨x,A,j,T8 w j⟩
  exact⟨v,x.val,i,rfl,by rw[<-n];exact m,p.run d w⟩
theorem Qn{ρ:Ren}{S:St}{w:ze}(h:Has ρ S w){r:Nat}{es:List (CV×CV×Nat)}(hr:S.heap.get r=some (.mapU es)):∃R es' clock,ρ.b r=some (R,0)/\w.heap[R]?=some (.map es' clock)/\RO ρ es es'.toList:=by
 obtain⟨B,D,O,c,g,a⟩:=h r _ hr;cases O with
 |map es' clock'=>obtain⟨rfl,f,d⟩:=a;exact⟨B,es',clock',c,g,f,d⟩
 |_=>exact a.elim
theorem Ar{w:ze}{R:Nat}{es:Array iM}{clock:Nat}(h:w.heap[R]?=some (.map es clock)):(getObj R).run P w=.ok (.map es clock) w:=by simp[getObj,Sem.run,h]
theorem Qq{k:CV}{r:Option CV}:∀{hs:List (CV×Option CV)},Xj k hs=some r->∃k',Si k k'=true/\(k',r)∈hs
 |[],h=>by cases h
 |(k',v)::l,h=>by
  simp only[Xj]at h;cases hb:Si k k' with
  |true=>rw[hb,cond_true]at h;cases h;exact⟨k',hb,eO⟩
  |false=>rw[hb,cond_false]at h;obtain⟨k2,h1,h2⟩:=Qq h;exact⟨k2,h1,eJ _ h2⟩
theorem Re{ρ:Ren}{k k':CV}{V V':zg}(hs:Si k k'=true)(h:yx ρ k=some V)(h':yx ρ k'=some V'):V=V':=by
 cases k<;>cases k'<;>simp only[Si,zH]at hs
 .have:=oF hs;subst this;rw[h]at h';exact eF h'
 .have:=oF hs;subst this;rename_i c lo hi lo' hi';simp only[yx,Ren.ustr,zh]at h h';obtain⟨x,b,rfl⟩:=h;obtain⟨y,d,rfl⟩:=h';cases hv:ρ.v c with
  |none=>rw[hv]at b;cases b
  |some a=>rw[hv]at b d;cases a<;>simp at b d;rw[<-b.2,<-d.2]
theorem Jt{kt:zL}{K:zg}{L:List iM}{w:ze}{r:Option (Nat×zg)}(hk:(underlying kt).run P w=.ok .string w)(h:iK .string K L 0=some r):(io kt K L).run P w=.ok r w:=by simp[io,hk,h,Result.andThen]
theorem N5{kt:zL}{d:lE}(h:C0 P kt d=.one .string):d=.string:=by
 unfold C0 at h;split at h
 .split at h<;>cases h
 .split at h<;>cases h
 .cases h;rfl
theorem Ps{t:zL}{x k:eo}{ok:Bool}{i:TyE}{kt et:zL}{ki:TyE}{z:CV}(ht:Ac P t=some i)(hi:i.desc=.map kt et)(hk:Ac P kt=some ki)(hz:BW P et=some z)(ho:o.op=.lookup t x k ok):Gf P o (Md (C0 P kt ki.desc) z ok (opd P x) (opd P k)):=by
 intro ρ nt tm a v S w hf hg hh h;unfold Md at h;split at h
 .rename_i m q n C;have n:=ym hf hg x m n;have C:=ym hf hg k q C;have J:∀(u:CV)(U:zg)(b:Bool),v=(bif ok then .tup [u,.bool b]else u)->yx ρ u=some U->(ec t (a.eval x) (a.eval k) ok).run P w=.ok (if ok then .tuple #[U,.bool b]else U) w->∃V,yx ρ v=some V/\(execOp a.eval o).run P w=.ok (.value V) w:=by
   intro u U b T F p;refine⟨if ok then .tuple #[U,.bool b]else U,?_,by simp[execOp,ho,p]⟩;subst T;cases ok
   .simpa using F
   .simp[yx,yG,F]
  have G:∀r,Wo (C0 P kt ki.desc) m q S=some r->v=(match r with|some u=>(bif ok then .tup [u,.bool true]else u)|none=>(bif ok then .tup [z,.bool false]else z))->∃V,yx ρ v=some V/\(execOp a.eval o).run P w=.ok (.value V) w:=by
   intro r A T;have Y:∃X hs,m=.map X/\S.heap.get X=some (.mapQ hs)/\C0 P kt ki.desc=.one .string/\Xj q hs=some r:=by
    cases m with
    |map X=>
     simp only[Wo]at A;split at A
     .rename_i hs p;split at A
      .rename_i Q;exact⟨X,hs,rfl,p,Q,A⟩
      .cases A
     .cases A
    |_=>cases A
   obtain⟨X,hs,rfl,p,Q,A⟩:=Y;have ae:=N5 Q;obtain⟨k',L,ag⟩:=Qq A;obtain⟨B,D,O,I,H,E⟩:=hh X _ p;cases O with
   |map ac clock'=>
    obtain⟨rfl,E⟩:=E;obtain⟨s,f1,W⟩:=E _ ag;have g2:a.eval k=.string s:=Re L C f1;simp only[yx,I,zQ,zb]at n;have y:=yg (P:=P) hk w;rw[ae]at y;have f:=yg ht w;rw[hi]at f;have ad:∀b,(lz b 10000 kt (.string s)).run P w=.ok () w:=λb=>by unfold lz;simp only[zK,y,zr];rfl
    cases r with
    |none=>simp only at W;have d:=Jt y W;obtain⟨Z,hZ,M⟩:=AD hz (ρ:=ρ) w;refine J z Z false T M ?_;rw[<-n,g2];simp[ec,f,Ar H,ad,d,hZ]
    |some u=>simp only at W;obtain⟨V,i2,W,f3⟩:=W;have d:=Jt y f3;refine J u V true T W ?_;rw[<-n,g2];simp[ec,f,Ar H,ad,d]
   |_=>exact E.elim
  unfold Sm at h;split at h
  .rename_i r A;exact G _ A (by cases h;rfl)
  .rename_i A;exact G _ A (by cases h;rfl)
  cases hp:Ak (C0 P kt ki.desc) q with
  |false=>rw[hp]at h;cases h
  |true=>
   rw[hp,cond_true]at h;have f:=yg ht w;rw[hi]at f;obtain⟨Z,hZ,M⟩:=AD hz (ρ:=ρ) w;have N:∀(u:CV)(U:zg)(b:Bool),v=(bif ok then .tup [u,.bool b]else u)->yx ρ u=some U->(ec t (a.eval x) (a.eval k) ok).run P w=.ok (if ok then .tuple #[U,.bool b]else U) w->∃V,yx ρ v=some V/\(execOp a.eval o).run P w=.ok (.value V) w:=by
    intro u U b T F p;refine⟨if ok then .tuple #[U,.bool b]else U,?_,by simp[execOp,ho,p]⟩;subst T;cases ok
    .simpa using F
    .simp[yx,yG,F]
   split at h
   .
    rename_i u hfound;cases h;split at hfound
    .cases hfound
    .rename_i r;split at hfound
     .rename_i es g p;obtain⟨R,l,I,H,E⟩:=C2 hh p;simp only[yx,I,zQ,zb]at n;rcases FK hk hp C hfound E w with⟨c,_⟩|⟨u',U,j,c,F,d,_⟩
      .cases c
      .cases c;refine N u U true rfl F ?_;simp[ec,f,<-n,Ar H,AU hk hp C,d]
     .rename_i es p;obtain⟨R,ac,g,I,H,E⟩:=Qn hh p;simp only[yx,I,zQ,zb]at n;rcases H7 hk hp C hfound E w with⟨c,_⟩|⟨u',U,j,c,F,d⟩
      .cases c
      .cases c;refine N u U true rfl F ?_;simp[ec,f,<-n,Ar H,AU hk hp C,d]
     .cases hfound
    .cases hfound
   .
    rename_i hfound;cases h;refine N z Z false rfl M ?_;split at hfound
    .simp only[yx,zb]at n;have d:(io kt (a.eval k) []).run P w=.ok none w:=by
      have:=FK hk hp C (es:=[]) (l:=[]) (r:=none) rfl ⟨rfl,λi e h=>by simp at h⟩ w;rcases this with⟨_,h⟩|⟨v,V,i,h,_⟩
      .exact h
      .cases h
     simp[ec,f,<-n,AU hk hp C,d,hZ]
    .rename_i r;split at hfound
     .rename_i es g p;obtain⟨R,l,I,H,E⟩:=C2 hh p;simp only[yx,I,zQ,zb]at n;rcases FK hk hp C hfound E w with⟨_,d⟩|⟨u',U,j,c,F,d,_⟩
      .simp[ec,f,<-n,Ar H,AU hk hp C,d,hZ]
      .cases c
     .rename_i es p;obtain⟨R,ac,g,I,H,E⟩:=Qn hh p;simp only[yx,I,zQ,zb]at n;rcases H7 hk hp C hfound E w with⟨_,d⟩|⟨u',U,j,c,F,d⟩
      .simp[ec,f,<-n,Ar H,AU hk hp C,d,hZ]
      .cases c
     .cases hfound
    .cases hfound
   .cases h
 .cases h
theorem Pn{c:Go.Call}{t:zL}{x:eo}{i:TyE}{kt et:zL}(hc:c.callee=.builtin .len)(hts:c.argTypes.toList=[t])(has:c.args.toList=[x])(ht:Ac P t=some i)(hi:i.desc=.map kt et)(ho:o.op=.call c):Gf P o (Qu (opd P x)):=by
 intro ρ nt tm a v S w hf hg hh h;have hts:=IR hts;have has:=Lm has;have d:=yg ht w;rw[hi]at d;obtain⟨k,e⟩:=Aq (P:=P) hc ho a w;unfold Qu at h;split at h
 .rename_i b;have b:=ym hf hg x _ b;cases h;simp only[yx,zb]at b;refine⟨_,rfl,?_⟩;rw[e,hts,has];simp[builtin,ot,d,<-b,goInt]
 .rename_i r b;have b:=ym hf hg x _ b;split at h
  .rename_i es clock hr;cases h;obtain⟨R,l,g,f,j⟩:=C2 hh hr;simp only[yx,g,zQ,zb]at b;refine⟨_,rfl,?_⟩;rw[e,hts,has];simp[builtin,ot,d,<-b,Ar f,goInt,j.1]
  .cases h
 .cases h
theorem Hy:∀{l:List CV}{s:List Nat},DS l=some s->l=s.map (λn=>CV.int .u8 (.ofNat n))/\∀n,n∈s->n<256
 |[],s,h=>by simp[DS]at h;subst h;exact⟨rfl,λn hn=>by cases hn⟩
 |v::l,s,h=>by
  unfold DS at h;split at h
  .rename_i hv;cases hv
  .rename_i n l' hv;cases hv;split at h
   .rename_i s' hs;cases hb:zB n 256 with
    |false=>rw[hb]at h;cases h
    |true=>
     rw[hb,cond_true]at h;cases h;obtain⟨h1,h2⟩:=Hy hs;refine⟨by simp[h1],λm hm=>?_⟩;rcases zO.1 hm with rfl|hm
     .exact yF hb
     .exact h2 m hm
   .cases h
  .cases h
theorem FJ{ρ:Ren}:∀(s:List Nat),yG ρ (s.map (λn=>CV.int .u8 (.ofNat n)))=some (s.map λn=>zX .u8 (.ofNat n))
 |[]=>rfl
 |n::s=>by rw[iZ];exact BM rfl (FJ s)
end
theorem Fq{ρ:Ren}:∀{l:List CV}{L:List zg}{s:List Nat},yG ρ l=some L->DS l=some s->∃ns:List Int,L=ns.map (zX .u8)/\ns.map (λn=>eX n.toNat)=s.map eX
 |[],L,s,h,e=>by simp only[yG,zb]at h;simp only[DS,zb]at e;subst h;subst e;exact⟨[],rfl,rfl⟩
 |v::l,L,s,h,e=>by
  simp only[yG,Option.bind_eq_some_iff,zh]at h;obtain⟨x,hx,y,hy,rfl⟩:=h;unfold DS at e;split at e
  .cases‹_::_=[]›
  .rename_i n l' heq;cases heq;split at e
   .rename_i s' hs';cases hb:zB n 256 with
    |false=>rw[hb]at e;cases e
    |true=>rw[hb,cond_true]at e;cases e;obtain⟨ns,h1,h2⟩:=Fq hy hs';simp only[yx,zb]at hx;subst hx;subst h1;exact⟨.ofNat n::ns,rfl,by rw[iZ,iZ,h2];rfl⟩
   .cases e
  .cases e
section
variable{P:zZ} {o:eS}
theorem Ex{t:zL}{i:TyE}(h:Ac P t=some i):P.underlying t=some i.desc:=by
 unfold Ac at h;split at h
 .cases h
 .split at h
  .cases h
  .rename_i d hd;cases h;exact hd
theorem IQ{s d e:zL}{x:eo}{i j k:TyE}(hs:Ac P s=some i)(hd:Ac P d=some j)(hi:i.desc=.slice e)(hj:j.desc=.string)(he:Ac P e=some k)(hk:k.desc=.int .u8)(ho:o.op=.convert s d x):Gf P o (E6 (opd P x)):=by
 intro ρ nt tm a v S w hf hg hh h;have m:=Ex hs;have g:=Ex hd;have l:=Ex he;rw[hi]at m;rw[hj]at g;rw[hk]at l;unfold E6 at h;split at h
 .rename_i hx;cases h;have f:=ym hf hg x _ hx;simp only[yx,zb]at f;refine⟨_,rfl,?_⟩;simp only[execOp,ho,<-f,zK,run_convert_bytes_nil w s e m l 0 0 d g,zr,zP];rfl
 .rename_i b o' n c hx;split at h
  .rename_i cs hcs;split at h
   .rename_i t ht;cases h;have f:=ym hf hg x _ hx;obtain⟨B,D,L,C,A,G,F,z⟩:=DL (P:=P) hh hcs;simp only[yx,C,Option.bind_some,zh]at f;obtain⟨p,y,f⟩:=f;obtain⟨r,q,E⟩:=Fq A ht;refine⟨_,rfl,?_⟩;subst q;simp only[execOp,ho,<-f,zK,run_convert_bytes_string w s d e _ n p m l g,run_bytesToString w _ n p r z,zr,zP,foldl_push_bytes,E];simp[yH,ByteArray.empty,ByteArray.emptyWithCapacity];rfl
   .cases h
  .cases h
 .cases h
end
theorem ED:∀(vs:List CV)(t:Tr CV)(i k:Nat),i+vs.length<281474976710655->(lay t i vs).get k=if i<=k/\k<i+vs.length then vs[k-i]?else t.get k
 |[],t,i,k,h=>by rw[if_neg (by simp only[zbo];omega)];rfl
 |v::vs,t,i,k,h=>by
  simp only[lN]at h;simp only[lay,QO];rw[ED vs _ (i+1) k (by omega)];by_cases h1:i+1<=k/\k<i+1+vs.length
  .rw[if_pos h1,if_pos (by simp;omega)];rw[show k-i=(k-(i+1))+1 by omega];simp
  .rw[if_neg h1];by_cases h2:k=i
   .subst h2;rw[if_pos (by simp),Tr.get_set_eq _ _ _ _ (by simp[big];omega)];simp
   .rw[if_neg (by simp;omega),Tr.get_set_ne _ _ _ _ _ (Ne.symm h2)]
theorem KA{ρ:Ren}{cs:List CV}{L:List zg}(h:yG ρ cs=some L)(hl:cs.length<lim)(t ty:zL)(hty:ty≠0->t+1=ty):Bt ρ 0 (MY ty cs) (.cells L.toArray t):=by unfold MY Bt;refine⟨λi hi=>?_,.inl ⟨rfl,rfl⟩,hty⟩;unfold lim at hl;have d:=Af h;have c:=ED cs .leaf 0 i (by omega);rw[if_pos ⟨Nat.zero_le _,by omega⟩,zcZ]at c;have a:cs[i]?=some cs[i]:=zc hi;obtain⟨V,f,b⟩:=AX h i _ a;refine⟨cs[i],V,by rw[Nat.add_zero,c,a],f,by simpa using b,λ_=>by simp⟩
theorem I9{ρ:Ren}{cs:List CV}{L:List zg}(h:yG ρ cs=some L)(hl:cs.length<lim)(t:zL):Bt ρ 0 (U1 cs) (.cells L.toArray t):=KA h hl t 0 (λh=>absurd rfl h)
def NB(P:zZ)(o:eS)(f:Tm->Option (Bp×(Nat->CV))):Prop:=∀(ρ:Ren)(nt:Nat)(tm:Tm)(a:Act)(obj:Bp)(mk:Nat->CV),A6 ρ nt tm a->FE P ρ->f tm=some (obj,mk)->∃O,Bt ρ 0 obj O/\∀w:ze,∃V,(execOp a.eval o).run P w=.ok (.value V) {w with heap:=w.heap.push O}/\∀(ρ':Ren)(b:Nat),ρ'.b b=some (w.heap.size,0)->yx ρ' (mk b)=some V
section
variable{P:zZ} {o:eS}
theorem Fe(t:zL)(c:Array zg)(w:ze):(newRow t c).run P w=.ok ⟨w.heap.size,0,none⟩ {w with heap:=w.heap.push (.cells c t)}:=rfl
theorem TM{t:zL}{z:CV}(hz:BW P t=some z)(hl:z.cells.length<lim)(ho:o.op=.alloc t):NB P o (λ_=>some (MY (t+1) z.cells,λb=>.ptr b 0)):=by
 intro ρ nt tm a obj mk hf hg h;cases h;obtain⟨Z,i,d⟩:=AD hz (ρ:=ρ) default;refine⟨.cells Z.cells t,?_,λw=>⟨.pointer (some ⟨w.heap.size,0,none⟩),?_,λρ' b hb=>by simp[yx,hb]⟩⟩
 .have:=KA (Bk d) hl t (t+1) (λ_=>rfl);simpa using this
 .obtain⟨g,f,c⟩:=AD hz (ρ:=ρ) w;rw[d]at c;cases c;simp[execOp,ho,Instr.alloc,f,newVar,Fe]
theorem V5{t:zL}{x:eo}(ho:o.op=.box t x):NB P o (Wx (opd P x)):=by
 intro ρ nt tm a obj mk hf hg h;unfold Wx at h;split at h
 .rename_i v c;cases hl:zB v.cells.length lim with
  |false=>rw[hl]at h;cases h
  |true=>
   rw[hl,cond_true]at h;cases h;have c:=ym hf hg x v c;refine⟨.cells (a.eval x).cells t,?_,λw=>⟨.pointer (some ⟨w.heap.size,0,none⟩),?_,λρ' b hb=>by simp[yx,hb]⟩⟩
   .have:=I9 (Bk c) (yF hl) t;simpa using this
   .simp[execOp,ho,Instr.box,newVar,Fe]
 .cases h
theorem Oy{t:zL}(ho:o.op=.makeMap t none):NB P o Xa:=by intro ρ nt tm a obj mk hf hg h;cases h;refine⟨.map #[] 0,⟨rfl,rfl,[],rfl,rfl,λi e h=>by simp at h⟩,λw=>⟨.map (some w.heap.size),?_,λρ' b hb=>by simp[yx,hb]⟩⟩;simp[execOp,ho,Instr.makeMap]
theorem NW{t:zL}{x:eo}{i:TyE}(ht:Ac P t=some i)(hi:i.desc=.string)(ho:o.op=.range t x):NB P o (Fb (opd P x)):=by
 intro ρ nt tm a obj mk hf hg h;unfold Fb at h;split at h
 .rename_i s d;cases h;have d:=ym hf hg x _ d;simp only[yx,zb]at d;refine⟨.stringIter (yH s) 0,⟨rfl,rfl,rfl⟩,λw=>⟨.pointer (some ⟨w.heap.size,0,none⟩),?_,λρ' b hb=>by simp[yx,hb]⟩⟩;have c:=yg ht w;rw[hi]at c;simp[execOp,ho,Instr.range,c,<-d]
 .cases h
def T4(zs:List zg):Nat->List zg
 |0=>[]
 |n+1=>zs++T4 zs n
theorem JC{ρ:Ren}{zs:List CV}{Z:List zg}(h:yG ρ zs=some Z):∀n,yG ρ (rep zs n)=some (T4 Z n)
 |0=>rfl
 |n+1=>Ds h (JC h n)
theorem QF(Z:List zg)(hz:Z≠[]):∀(n i:Nat),i<n*Z.length->(T4 Z n)[i]?=Z[i%Z.length]?
 |0,i,h=>by omega
 |n+1,i,h=>by
  have hp:0<Z.length:=List.length_pos_iff.2 hz;simp only[T4];by_cases a:i<Z.length
  .rw[List.getElem?_append_left a,Nat.mod_eq_of_lt a]
  .rw[List.getElem?_append_right (by omega),QF Z hz n (i-Z.length) (by rw[zbv]at h;omega)];rw[Nat.mod_eq_sub_mod (by omega:i>=Z.length)]
theorem Jb(Z:List zg):∀n,(T4 Z n).length=n*Z.length
 |0=>by simp[T4]
 |n+1=>by simp[T4,Jb Z n,zbv];omega
theorem Qb(Z:Array zg)(n:Nat)(hz:Z.size≠0):(zdV (n*Z.size)).map (λi=>Z[i%Z.size]!)=(T4 Z.toList n).toArray:=by
 apply iq;apply List.ext_getElem?;intro i;simp only[Array.toList_map,Array.toList_range,List.getElem?_map];by_cases b:i<n*Z.size
 .rw[List.getElem?_range b];have:=QF Z.toList (by intro e;apply hz;rw[<-oH,e];rfl) n i (by simpa using b);rw[this];have a:i%Z.size<Z.size:=Nat.mod_lt _ (by omega);simp only[oH,zQ];rw[getElem!_pos Z _ a];simp[a]
 .rw[oC (by simp;omega),oC (by rw[Jb];simp;omega)];rfl
theorem Ft{t:zL}{len:Nat}{ps:Array (Nat×eo)}{i:TyE}{e:zL}{ei:TyE}{l:List (Nat×Nat×Opd)}(ht:Ac P t=some i)(hi:i.desc=.slice e)(he:Ac P e=some ei)(hl:DH P (λi=>some (i*ei.size,ei.size)) ps.toList=some l){zs:List CV}(hz:(len*ei.size=0/\zs=[])\/(len*ei.size≠0/\len*ei.size<=16777216/\∃z,BW P e=some z/\z.cells.length=ei.size/\zs=rep z.cells len))(ho:o.op=.buildSlice t len ps):NB P o (BG len zs l):=by
 intro ρ nt tm a obj mk hf hg h;unfold BG at h;split at h
 .rename_i vs hvs;split at h
  .rename_i cs hcs;cases hlt:zB cs.length lim with
   |false=>rw[hlt]at h;cases h
   |true=>
    rw[hlt,cond_true]at h;cases h;have r:∃(q:Array zg)(Z:List zg),yG ρ zs=some Z/\(∀w:ze,(if len*ei.size=0 then pure #[]else do pure (<-zeroValue e).cells:Sem (Array zg)).run P w=.ok q w)/\(zdV (len*ei.size)).map (λi=>q[i%q.size]!)=Z.toArray:=by
     rcases hz with⟨d,rfl⟩|⟨d,_,z,hz,s,rfl⟩
     .exact⟨#[],[],rfl,λw=>by simp[d],by simp[d]⟩
     .obtain⟨Z,B,m⟩:=AD hz (ρ:=ρ) default;have D:=Bk m;have p:=Af D;have g:Z.cells.size=ei.size:=by rw[<-s,<-p,oH]
      have F:ei.size≠0:=by intro G;rw[G]at d;simp at d
      refine⟨Z.cells,T4 Z.cells.toList len,JC D len,λw=>?_,?_⟩
      .obtain⟨H,y,j⟩:=AD hz (ρ:=ρ) w;rw[m]at j;cases j;rw[if_neg d];simp[y]
      .rw[<-g];exact Qb Z.cells len (by omega)
    obtain⟨q,Z,B,c,v⟩:=r;obtain⟨C,E,n⟩:=Ir hf hg _ ps.toList l vs zs cs Z hl hvs hcs B;refine⟨.cells C.toArray e,I9 E (yF hlt) e,λw=>⟨.slice (some ⟨w.heap.size,0,none⟩) len len,?_,λρ' b hb=>by simp[yx,hb,Ren.cap]⟩⟩;have k:=yg ht w;rw[hi]at k;have g:=yW he w;have f:¬len*ei.size>2^24:=by rcases hz with⟨d,_⟩|⟨_,d,_⟩<;>omega
    have A:(ps.map λx=>(x.1,a.eval x.2)).toList=ps.toList.map λx=>(x.1,a.eval x.2):=by simp
    have c:=c w;by_cases d:len*ei.size=0
    .rw[if_pos d]at c;simp only[zP,zb8,and_true]at c;subst c;rw[d]at v f;simp only[execOp,ho,zc2,zK,k,zr,g,d,f,if_false,if_true,zP,A];rw[v,n];simp only[zK,Fe,zr,zP]
    .rw[if_neg d]at c;simp only[zK,zP]at c;cases hzr:(zeroValue e).run P w with
     |halt x w'=>rw[hzr]at c;simp at c
     |ok x w'=>rw[hzr]at c;simp only[zr,zb8]at c;obtain⟨c,rfl⟩:=c;subst c;simp only[execOp,ho,zc2,zK,k,zr,g,d,f,if_false,hzr,zP,A];rw[v,n];simp only[zK,Fe,zr,zP]
  .cases h
 .cases h
end
section
variable{P:zZ} {o:eS}
theorem Ju{D:Nat}{t:zL}{ms:Array (String×zL)}(hun:P.underlying t=some (.interface ms))(w:ze):(oU (D+1) t .nilIface .nilIface).run P w=.ok true w:=by simp[oU,eT hun]
theorem N2{D:Nat}{t t1:zL}{v1:zg}{ms:Array (String×zL)}(hun:P.underlying t=some (.interface ms))(w:ze):(oU (D+1) t (.iface t1 v1) .nilIface).run P w=.ok false w:=by simp[oU,eT hun]
theorem PA{op:BinOp}{t t':zL}{x y:eo}{i:TyE}{ms:Array (String×zL)}(ht:Ac P t=some i)(hi:i.desc=.interface ms)(hy:Bd y=true)(ho:o.op=.binOp op t x y t'):
  Ax P o (BE (opd P x) (V4 op)):=by
 intro ρ nt tm a v hf hg h;obtain⟨u,B,h⟩:=AJ h;have j:=ym hf hg x u B;have g:P.underlying t=some i.desc:=by obtain⟨_,_,A,_⟩:=Be ht;exact A
 rw[hi]at g;have r:a.eval y=.nilIface:=by
  cases y<;>simp only[Bd,zH]at hy;rename_i c;cases c<;>simp only[zH]at hy;rfl
 have l:∀(X:zg)(b:Bool),a.eval x=X->(X=.nilIface\/∃m p,X=.iface m p)->(∀w,(zbM t X .nilIface).run P w=.ok b w)->
   P5 op b=some v->∃V,yx ρ v=some V/\∀w,(execOp a.eval o).run P w=.ok (.value V) w:=by
  intro X b s f C q;have d:∀w,(eqGuard op t x y X .nilIface).run P w=.ok () w:=by
   intro w;unfold eqGuard;cases y<;>simp only[Bd,zH]at hy;rcases f with rfl|⟨m,p,rfl⟩
   .cases op<;>simp
   .cases op<;>simp
  have E:∀k n,X≠ .int k n:=by rcases f with rfl|⟨m,p,rfl⟩<;>simp
  cases op<;>simp only[P5,reduceCtorEq,zb]at q;all_goals
   subst q;refine⟨_,rfl,λw=>?_⟩;rcases f with rfl|⟨m,p,rfl⟩<;>
   simp only[execOp,ho,s,r,zK,d w,zr,binOp,C w,zP]
 cases u<;>simp only[V4,reduceCtorEq]at h
 case nili=>
  simp only[yx,zb]at j;exact l _ true j.symm (.inl rfl) (λw=>Ju (D:=9999) g w) h
 case iface m p=>
  simp only[yx,zh]at j;obtain⟨z,F,j⟩:=j;exact l _ false j.symm (.inr ⟨_,_,rfl⟩) (λw=>N2 (D:=9999) g w) h
end
section
variable{P:zZ}
theorem Mq(a:Act)(dst:Option Tmp)(V:zg):(a.put dst V).tmps.size=a.tmps.size:=by cases dst<;>simp[z8]
theorem Iq(a:Act)(d:Tmp)(V:zg)(h:d<a.tmps.size):(a.put (some d) V).eval (.tmp d)=V:=by simp only[Act.eval,z8];rw[Array.getD_eq_getD_getElem?,Array.getElem?_setIfInBounds_self_of_lt h];rfl
theorem C4{o:eS}(h:o.guard=none)(y:Nat->Option Bool):lS o y=true:=by unfold lS;rw[h]
theorem OF{o:eS}{ty yt:zL}{x y:eo}{ms:Array (String×zL)}(hun:P.underlying ty=some (.interface ms))(hy:Bd y=true)(ho:o.op=.binOp .neq ty x y yt){a:Act}(hx:a.eval x=.nilIface)(w:ze):(execOp a.eval o).run P w=.ok (.value (.bool false)) w:=by
 cases y<;>simp only[Bd,zH]at hy;rename_i c;cases c<;>simp only[zH]at hy;have f:(zbM ty .nilIface .nilIface).run P w=.ok true w:=Ju (D:=9999) hun w;have b:(eqGuard .neq ty x (.const .nilIface) .nilIface .nilIface).run P w=.ok () w:=by unfold eqGuard;simp
 have d:a.eval (.const .nilIface)=.nilIface:=rfl;simp only[execOp,ho,hx,d,zK,b,zr,binOp,f,zP];rfl
theorem K0{f:FuncId}(h:MZ P f=true)(args:Array zg)(w:ze):CallsD P f args .returning w (λe u' w'=>(∃v,e=.returned v)/\u'=.returning/\w'=w)/\∀args w,(callFunc f args).run P w=.ok (.enter f args) w:=by
 unfold MZ at h;split at h
 .rename_i fn hfn;split at h
  .rename_i c hc;split at h
   .rename_i ty hty;split at h
    .rename_i i hi;simp only[zo]at h;obtain⟨⟨h1,h2⟩,h3⟩:=h;have hname:fn.name≠ "runtime.NumGoroutine" :=by simpa using h3
     have hres:fn.results=#[]:=by simpa using h2
     have hun:∃ms,P.underlying ty=some (.interface ms):=by obtain⟨_,_,g,_⟩:=Be hi;cases hd:i.desc<;>rw[hd]at h1 g<;>simp only[PN,zH]at h1;exact⟨_,g⟩
     obtain⟨ms,hun⟩:=hun;refine⟨?_,λargs w=>by simp[callFunc,hfn,hname,hc]⟩;unfold Qg at hty;split at hty
     .rename_i i0 ops0 i1 ops1 t c2;split at hty
      .rename_i o0 o1 o2 o3 e0 e1;have e0:ops0=#[o0,o1]:=by apply iq;simpa using e0
       have e1:ops1=#[o2,o3]:=by apply iq;simpa using e1
       subst e0 e1;unfold T5 at hty;split at hty
       .rename_i g0 g1 g2 g3;split at hty
        .rename_i d0 cl d1 x1 d2 x2 d3 ty' x3 y yt q1 q2 q3 q4 q5 q6 q7 q8;cases hb:(Hj cl.callee&&zD x1 d0&&zD x2 d1&&zD x3 d2&&zD t d3&&Bd y&&zB d0 fn.ntmps&&zB d1 fn.ntmps&&zB d2 fn.ntmps&&zB d3 fn.ntmps)with
         |false=>rw[hb]at hty;cases hty
         |true=>
          rw[hb,cond_true]at hty;cases hty;simp only[zo]at hb;obtain⟨⟨⟨⟨⟨⟨⟨⟨⟨b1,b2⟩,b3⟩,b4⟩,b5⟩,b6⟩,b7⟩,b8⟩,b9⟩,b10⟩:=hb;obtain rfl:=yZ b2;obtain rfl:=yZ b3;obtain rfl:=yZ b4;obtain rfl:=yZ b5;have b7:=yF b7;have b8:=yF b8;have b9:=yF b9;have b10:=yF b10;have hcal:cl.callee=.builtin .recover:=by cases hq:cl.callee<;>rw[hq]at b1<;>simp only[Hj,zH]at b1;rename_i bb;cases bb<;>simp only[zH]at b1;rfl
          refine callsD_of_wpS hfn hc λc₀ cs hu=>?_;generalize ha:({tmps:=args++Array.replicate (fn.ntmps-args.size) undef,defers:=[]}:Act)=a;have hsz:fn.ntmps<=a.tmps.size:=by rw[<-ha];simp;omega
          have hdf:a.defers=[]:=by rw[<-ha]
          have hrec:recoverD (c₀::cs)=none:=by unfold recoverD;simp only[hu]
          have r0:(execOp a.eval o0).run P w=.ok .recover w:=by simp[execOp,q2,resolve,hcal,invoke,builtin]
          refine wpS_seq (wpS_region ?_);simp only[zbh,lN,zbo,eV,zdW,zaD,zde,zdf,wpOpsS,zci,zW,zav,C4 g0,C4 g1,if_true,r0,hrec,q1];have z1:fn.ntmps<=(a.put (some x1) zab).tmps.size:=by rw[Mq];exact hsz
          have r1:(execOp (a.put (some x1) zab).eval o1).run P w=.ok (.value .nilIface) w:=by have:=Iq a x1 .nilIface (ez b7 hsz);simp[execOp,q4,this]
          rw[r1];simp only[zbm,q3];generalize ha1:(a.put (some x1) zab).put (some x2) zab=a1;have hx2:a1.eval (.tmp x2)=.nilIface:=by rw[<-ha1];exact Iq _ _ _ (ez b8 z1)
          have z2:fn.ntmps<=a1.tmps.size:=by rw[<-ha1,Mq];exact z1
          have d2:a1.defers=[]:=by rw[<-ha1,BO,BO];exact hdf
          show Code.wpS P _ _ a1 (c₀::cs) w;refine wpS_seq (wpS_region ?_);have r2:(execOp a1.eval o2).run P w=.ok (.value .nilIface) w:=by simp[execOp,q6,hx2]
          simp only[zbh,lN,zbo,eV,zdW,zaD,zde,zdf,wpOpsS,zci,zW,zav,C4 g2,C4 g3,if_true,r2,zbm,q5];generalize ha2:a1.put (some x3) zab=a2;have hx3:a2.eval (.tmp x3)=.nilIface:=by rw[<-ha2];exact Iq _ _ _ (ez b9 z2)
          have z3:fn.ntmps<=a2.tmps.size:=by rw[<-ha2,Mq];exact z2
          have d3:a2.defers=[]:=by rw[<-ha2,BO];exact d2
          rw[OF hun b6 q8 hx3 w];simp only[zbm,q7];generalize ha3:a2.put (some t) (Value.bool false)=a3;have ht:a3.eval (.tmp t)=.bool false:=by rw[<-ha3];exact Iq _ _ _ (ez b10 z3)
          have d4:a3.defers=[]:=by rw[<-ha3,BO];exact d3
          show Code.wpS P _ _ a3 (c₀::cs) w;refine wpS_cond ht ?_;simp only[zH,if_false];refine wpS_of_wp (wp_skip ?_);have hr:(results fn a3.tmps).run P w=.ok (.tuple #[]) w:=by unfold results;rw[hres];simp
          exact⟨d4,.returning,by rw[<-hu],_,hr,⟨_,rfl⟩,rfl,rfl⟩
        .cases hty
       .cases hty
      .cases hty
     .cases hty
    .cases h
   .cases h
  .cases h
 .cases h
end
end Go.Ev
