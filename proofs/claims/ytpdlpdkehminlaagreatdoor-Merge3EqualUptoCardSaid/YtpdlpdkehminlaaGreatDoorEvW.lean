/-
  Part of the proof: A new block behind what was; maps whose entries' numbers rise.
-/
import Derived.Test.YtpdlpdkehminlaaGreatDoorEvS
import Derived.Below
set_option linter.all false
set_option maxRecDepth 100000
set_option maxHeartbeats 20000000
open List.Pairwise renaming nil->zbi
open Nat renaming le_refl->zn
namespace Go.Ev
open Go.RowKit
theorem Stp.behind{ρ:Ren}{S:St}{w w':World}(h:Rel ρ S w)(hb:Below w.heap.size w w'){g x:Nat}{O:Obj}{o:Bp}(hg:w.heap.size<=g)(hO:w'.heap[g]?=some O)(ho:Bt (ρ.ext S.next (g,0) S.nk x) 0 o O)(hn:S.next<lim):Stp ρ S w (ρ.ext S.next (g,0) S.nk x) ⟨S.heap.set big S.next (some o),S.next+1,S.nk+1⟩ w':=by
 have r:=EN h (g,0) x;have f:∀i,i≠S.next->(ρ.ext S.next (g,0) S.nk x).b i=ρ.b i:=λi z=>by simp[Ren.ext,z]
 have l:(ρ.ext S.next (g,0) S.nk x).b S.next=some (g,0):=by simp[Ren.ext]
 have s:S.next+1<2^big:=by unfold lim at hn;simp[big];omega
 have a:∀b p,(S.heap.set big S.next (some o)).get b=some p->b≠S.next->S.heap.get b=some p:=λb p c hne=>by rw[Tr.get_set_ne _ _ _ _ _ (λe=>hne e.symm)]at c;exact c
 refine⟨r,⟨?_,?_,?_,?_⟩,by simp,by simp,?_,hb.size,?_,hb.os,hb.tape,hb.output,λb c=>f b (by omega),?_⟩
 .intro b p c;by_cases e:b=S.next
  .subst e;have c:(S.heap.set big S.next (some o)).get S.next=some p:=c;rw[Tr.get_set_eq _ _ _ _ s]at c;cases c;exact⟨g,0,O,l,hO,ho⟩
  .have E:=a b p c e;obtain⟨B,D,G,d,n,I⟩:=h.obj b p E;exact⟨B,D,G,r.b _ _ d,by rw[hb.block B (h.lt ⟨p,E⟩ d)];exact n,I.mono r⟩
 .rintro b v B D F ⟨m,k⟩ ⟨A,t⟩ C d n;by_cases j:b=S.next<;>by_cases q:v=S.next
  .rw[j,q]
  .subst j;rw[l]at d;cases d;rw[f _ q]at n;have:=h.lt ⟨A,a v A t q⟩ n;omega
  .subst q;rw[l]at n;cases n;rw[f _ j]at d;have:=h.lt ⟨m,a b m k j⟩ d;omega
  .rw[f _ j]at d;rw[f _ q]at n;exact h.inj b v B D F ⟨m,a b m k j⟩ ⟨A,a v A t q⟩ (C.imp (λ⟨o,g,g'⟩=>⟨o,a b o g j,g'⟩) (λ⟨o,g,g'⟩=>⟨o,a v o g q,g'⟩)) d n
 .intro b c;have c:S.next+1<=b:=c;rw[f b (by omega)];exact h.fresh b (by omega)
 .intro i z;have z:S.nk+1<=i:=z;simp only[Ren.ext];rw[if_neg (by omega)];exact h.freshk i (by omega)
 .intro y H _;exact hb.block y H
 .rintro b B D ⟨m,k⟩ d hlt;by_cases j:b=S.next
  .subst j;rw[l]at d;cases d;omega
  .rw[f _ j]at d;exact⟨b,D,⟨m,a b m k j⟩,d⟩
 .rintro b B D ⟨m,k,C⟩ d hlt;by_cases j:b=S.next
  .subst j;rw[l]at d;cases d;omega
  .rw[f _ j]at d;exact⟨b,D,⟨m,a b m k j,C⟩,d⟩
noncomputable section
def SO:Nat->List (CV×CV×Nat)->Nat->Bool
 |_,[],_=>true
 |lo,(_,_,b)::es,n=>Nat.ble lo b&&Nat.blt b n&&SO (b+1) es n
end
theorem M4{ρ:Ren}:∀(es:List (CV×CV×Nat))(l:List (Value×Value×Nat))(lo n:Nat),GR ρ es l->SO lo es n=true->(l.map (·.2.2)).Pairwise (·<·)/\∀x∈l,lo<=x.2.2/\x.2.2<n
 |[],l,lo,n,h,_=>by have:l=[]:=List.length_eq_zero_iff.1 h.1;subst this;exact⟨zbi,λx a=>(List.not_mem_nil a).elim⟩
 |(k,v,b)::es,l,lo,n,h,hb=>by
  obtain⟨q,g,rfl,p,m,i,c⟩:=h.tail;simp only[SO,Bool.and_eq_true]at hb;obtain⟨f,d⟩:=M4 es g (b+1) n c hb.2;have j:=A9 hb.1.1;have o:=yF hb.1.2;simp only at i;refine⟨?_,λx a=>?_⟩
  .rw[List.map_cons];refine List.pairwise_cons.2 ⟨λy hy=>?_,f⟩;obtain⟨x,a,rfl⟩:=List.mem_map.1 hy;have:=(d x a).1;omega
  .rcases List.mem_cons.1 a with rfl|a
   .omega
   .have:=d x a;omega
theorem Stp.below{ρ:Ren}{S:St}{w w':World}(h:Rel ρ S w)(hb:Below w.heap.size w w'):Stp ρ S w ρ S w':=by refine⟨.refl ρ,⟨λb o hbo=>?_,h.inj,h.fresh,h.freshk⟩,zn _,zn _,λy hy _=>hb.block y hy,hb.size,λb _ D hb' e _=>⟨b,D,hb',e⟩,hb.os,hb.tape,hb.output,λ_ _=>rfl,λb _ D hb' e _=>⟨b,D,hb',e⟩⟩;obtain⟨B,D,O,a,d,c⟩:=h.obj b o hbo;exact⟨B,D,O,a,by rw[hb.block B (h.lt ⟨o,hbo⟩ a)];exact d,c⟩
end Go.Ev
