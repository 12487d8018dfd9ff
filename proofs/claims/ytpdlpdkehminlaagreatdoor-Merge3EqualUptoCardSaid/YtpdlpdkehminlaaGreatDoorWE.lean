/-
  Part of the proof: The longest common subsequence's table and partner.
-/
import Derived.Test.YtpdlpdkehminlaaGreatDoorWD
set_option linter.all false
set_option maxRecDepth 100000
set_option maxHeartbeats 20000000
open Array renaming getElem?_eq_some_iff->eh
open Go renaming Calls->zM,Value->zg,World->ze,frozen_of_row->zk,heap_alloc_new->zx,heap_setCell_same->zA,info_parts->iY,wpList_append_lies->zaG,wpList_append_own->ew
open Go.Ending renaming returned->zas
open Go.Instr renaming makeSlice->zbt
open Go.IntKind renaming i64->iw,wrap_i64->eR
open Go.Lib renaming hid->za
open Go.RowKit renaming Hid->eW
open Go.RowKit.Below renaming refl->zt
open Go.Value renaming oneCell'->ej,ownBlock->eP,slice->eU
open Go.World renaming news_of_block->lw,ownsRow_nil->ed
open Go.World.ownsRow renaming alloc->zy,cellAt->ep,form->om,frozenAt->iN,kept->zF,lt->zE
open List renaming eq_nil_of_length_eq_zero->lm,getElem?_drop->zal,getElem?_eq_getElem->zc,getElem?_eq_none->oC,getElem?_eq_some_iff->zm,getElem?_map->ig,getElem?_take->zcL,length_append->zT,length_drop->lx,mem_append->eZ,mem_map->lQ,mem_of_getElem?->zq,mem_range->lD,mem_singleton->iI,pairwise_append->zcn,pairwise_map->zbj,range->ev,replicate->ia,take_add_one->z6,take_length->zY
open List.Pairwise renaming nil->zbi
open Nat renaming add_comm->zbk,le_refl->zn,le_trans->zI,lt_of_lt_of_le->ez,zero_add->eV
open Option renaming map_some->zQ
open Option.some renaming inj->eF
namespace Go.Proofs
open Go.RowKit
open Classical
structure Tab(w:ze)(T na nb:Nat)(M:Nat->List Int):Prop where
 row:∀i,i<=na->w.cell? ⟨T,i,none⟩=some (.slice (some ⟨T+1+i,0,none⟩) (nb+1) (nb+1))
 ints:∀i,i<=na->Al w T (T+1+i) (nb+1) (nb+1) (M i)
 lt:T+1+na<w.heap.size
 bound:∀i,i<=na->∀x∈M i,0<=x/\x<=(na:Int) -i
theorem Tab.below{w w':ze}{T na nb B:Nat}{M:Nat->List Int}(h:Tab w T na nb M)(hb:Below B w w')(hB:T+1+na<B):Tab w' T na nb M:=⟨λi hi=>(hb.cell (p:=⟨T,i,none⟩) (show T<B by omega)).trans (h.row i hi),λi hi=>by
  obtain⟨c,a⟩:=h.ints i hi;refine⟨c,?_⟩;rcases a with a|⟨g,f,b,e,d,j,r⟩
  .exact .inl a
  .cases e;exact .inr ⟨_,_,b,rfl,d,(hb.block _ (by omega)).trans j,r⟩,ez h.lt hb.size,h.bound⟩
theorem Tab.at{w:ze}{T na nb i j:Nat}{M:Nat->List Int}(h:Tab w T na nb M)(hi:i<=na)(hj:j<=nb):∃x:Int,(M i)[j]?=some x/\w.cell? ⟨T+1+i,j,none⟩=some (.int .i64 x)/\0<=x/\x<=(na:Int) -i:=by have b:=(h.ints i hi).length;have a:(M i)[j]?=some ((M i)[j]'(by omega)):=zc _;exact⟨_,a,(h.ints i hi).at a,h.bound i hi _ (zq a)⟩
theorem LL(va vb:zg)(a b:List Int)(T:Nat)(M:Nat->List Int)(i k cp:Nat)(w:ze)(ha:yo w va a)(hb:yo w vb b)(hT:Tab w T a.length b.length M)(na:a.length<=1000)(nb:b.length<=1000)(hi:i<a.length)(hk:k<b.length):zM Tryz.prog 245 #[va,vb,.slice (some ⟨T,0,none⟩) (a.length+1) cp,.int .i64 i,.int .i64 k] w λe w'=>(e=.returned (.int .i64 (-1))\/∃(j:Nat)(x:Int),e=.returned (.int .i64 j)/\k<=j/\a[i]?=some x/\b[j]?=some x)/\Below w.heap.size w w':=by
 obtain⟨O,P,rfl⟩:=ha.slice;obtain⟨X,F,rfl⟩:=hb.slice;obtain⟨x,n⟩:∃x,a[i]?=some x:=⟨a[i],zc hi⟩
 go_enter Tryz.func245,Tryz.ntmps245;go_wp2;go_loopw [11] (λjv w'=>∃j:Nat,k<=j/\j<=b.length/\jv=.int .i64 j/\Below w.heap.size w w') (λjv _=>b.length-(intOf jv).toNat)
 case atStart=>exact⟨k,zn _,by omega,rfl,zt _ _⟩
 case round=>
  rename_i wr hrel;obtain⟨j,t,J,rfl,c⟩:=hrel;have d:=hT.below c hT.lt;have g:=ha.below c;have f:=hb.below c;have m:=za c;clear c;by_cases r:j<b.length
  .obtain⟨y,s⟩:∃y,b[j]?=some y:=⟨b[j],zc r⟩
   obtain⟨Y,H,rfl,_,V⟩:=g.at n;obtain⟨S,Z,rfl,_,N⟩:=f.at s;have U:=d.row i (by omega);have G:=d.row (i+1) (by omega);obtain⟨v,_,Q,_,_⟩:=d.at (i:=i) (j:=j) (by omega) (by omega);obtain⟨l,_,L,_,_⟩:=d.at (i:=i) (j:=k) (by omega) (by omega);obtain⟨o,_,I,R,u2⟩:=d.at (i:=i+1) (j:=j+1) (by omega) (by omega);have z:=za n;have A:=za s;clear hT d ha hb g f n s;by_cases q:v=l
   case neg=>
    have E:(v==l)=false:=by simpa using q
    clear q;go_wp2;go_quiet (fail);go_wp2;go_ret;exact⟨.inl rfl,yk m.out⟩
   have E:(v==l)=true:=by simpa using q
   clear q;by_cases h:x=y
   case neg=>
    have D:(x==y)=false:=by simpa using h
    clear h;go_wp2;go_quiet (fail);go_wp2;go_quiet (fail);go_wp2;go_roundw
    case rel=>exact⟨j+1,by omega,by omega,by go_num,yk m.out⟩
    case measure=>simp[intOf];omega
   have D:(x==y)=true:=by simpa using h
   have W:iw.wrap (o+1)=o+1:=by rw[eR];omega
   by_cases p:o+1=l
   case neg=>
    have B:(o+1==l)=false:=by simpa using p
    clear h p;go_wp2;go_quiet (fail);go_wp2;go_quiet (fail);go_wp2;go_roundw
    case rel=>exact⟨j+1,by omega,by omega,by go_num,yk m.out⟩
    case measure=>simp[intOf];omega
   have B:(o+1==l)=true:=by simpa using p
   have C:=za h;clear h p;go_wp2;go_quiet (fail);go_wp2;go_quiet (fail);go_wp2;go_ret;exact⟨.inr ⟨j,x,rfl,t,z.out,by rw[C.out];exact A.out⟩,by first|exact yk m.out|exact yk (yk m.out)⟩
  .obtain rfl:j=b.length:=by omega
   have z:=za n;clear n hT d ha hb g f;go_wp2;go_quiet (fail);go_wp2;go_ret;exact⟨.inl rfl,yk m.out⟩
theorem yy{w w':ze}{base e s n:Nat}{v:zg}{xs:List zg}(h:w.ownsRow base e s v n xs)(hb:Below w.heap.size w w'):w'.ownsRow base e s v n xs:=h.kept (Bc (w:=w) hb) (by cases v.ownBlock<;>simp)
theorem Cx{w:ze}{base e s n m:Nat}{v:zg}{xs:List zg}(h:w.ownsRow base e s v n xs):(w.drewN m).ownsRow base e s v n xs:=h
theorem Gz(w:ze)(b o:Nat)(v:zg):w.grownBy (w.setCell ⟨b,o,none⟩ v) (some b):=⟨rfl,rfl,rfl,by simp,λq _ hq=>heap_setCell_other w ⟨b,o,none⟩ q v (λe=>hq (by simp[e]))⟩
def at0(w:ze)(X:Nat):Nat:=match w.heap[X]?with|some (.cells cs _ _)=>(intOf (cs[0]?.getD undef)).toNat|_=>0
theorem Qc{w:ze}{X i:Nat}{y:zg}{t:TypeId}{fz:Nat×Nat}(h:w.heap[X]?=some (.cells #[.int .i64 (i:Int),y] t fz)):at0 w X=i:=by unfold at0;rw[h];simp[intOf]
theorem QA:(Tryz.prog.info? 55).map (λi=>(i.zero,i.size,i.bytes))=some (some (.slice none 0 0),1,24):=by kernel_rfl
theorem PL:(Tryz.prog.info? 51).map (λi=>(i.zero,i.size,i.bytes))=some (some (.agg #[.int .i64 0,.int .i64 0]),2,16):=by kernel_rfl
theorem QY(w:ze)(n:Nat)(hn:n<=1000000):(zbt 223 (.int .i64 ((n:Int)+1)) (.int .i64 ((n:Int)+1))).run Tryz.prog w=.ok (.slice (some ⟨w.heap.size,0,none⟩) (n+1) (n+1)) (w.alloc (.cells (madeCells #[.slice none 0 0] (n+1)) 55)):=by obtain⟨f,d,c,a,b⟩:=iY QA;have h:=run_makeSlice (P:=Tryz.prog) w 223 55 f (.slice none 0 0) Tryz.underlying223 d c .i64 .i64 ((n:Int)+1) ((n:Int)+1) (by omega) (by omega) (by rw[a];omega) (by rw[b];omega) (by omega);rw[a,show((n:Int)+1).toNat=n+1 by omega]at h;simpa[Value.cells]using h
theorem Rq(w:ze)(n:Nat)(hn:n<=100000):(zbt 55 (.int .i64 ((n:Int)+1)) (.int .i64 ((n:Int)+1))).run Tryz.prog w=.ok (.slice (some ⟨w.heap.size,0,none⟩) (n+1) (n+1)) (w.alloc (.cells (madeCells #[.int .i64 0] (n+1)) 3)):=by have h:=JB w (n+1) (by omega);rwa [show((n+1:Nat):Int)=(n:Int)+1 by omega]at h
def CM(T na nb i:Nat):List zg:=(ev (na+1)).map λ(i':Nat)=>if i'<i then .slice (some ⟨T+1+i',0,none⟩) (nb+1) (nb+1)else .slice none 0 0
theorem N0{T na nb i:Nat}:(CM T na nb i).set i (.slice (some ⟨T+1+i,0,none⟩) (nb+1) (nb+1))=CM T na nb (i+1):=by
 apply List.ext_getElem?;intro j;unfold CM;by_cases b:j<na+1
 .by_cases a:i=j
  .subst a;rw[List.getElem?_set_self (by simp;omega)];simp[b]
  .rw[List.getElem?_set_ne a];simp only[ig,List.getElem?_range b,zQ];by_cases h:j<i
   .rw[if_pos h,if_pos (by omega)]
   .rw[if_neg h,if_neg (by omega)]
 .rw[oC (by simp;omega),oC (by simp;omega)]
structure T1(w:ze)(T na nb i:Nat):Prop where
 own:w.ownsRow T 55 1 (.slice (some ⟨T,0,none⟩) (na+1) (na+1)) (na+1) (CM T na nb i)
 ints:∀i',i'<i->Al w T (T+1+i') (nb+1) (nb+1) (ia (nb+1) 0)
 size:w.heap.size=T+1+i
theorem T1.tab{w:ze}{T na nb:Nat}(h:T1 w T na nb (na+1)):Tab w T na nb λ_=>ia (nb+1) 0:=by
 refine⟨λi hi=>?_,λi hi=>h.ints i (by omega),by rw[h.size];omega,λi hi x hx=>?_⟩
 .rw[ep h.own i (by omega)];unfold CM;simp[show i<na+1 by omega]
 .rw[List.eq_of_mem_replicate hx];omega
theorem Tab.set{w:ze}{T na nb i k:Nat}{M:Nat->List Int}{x:Int}(h:Tab w T na nb M)(hi:i<=na)(h0:0<=x)(h1:x<=(na:Int) -i):Tab (w.setCell ⟨T+1+i,k,none⟩ (.int .i64 x)) T na nb (λi'=>if i'=i then(M i).set k x else M i')/\w.grownBy (w.setCell ⟨T+1+i,k,none⟩ (.int .i64 x)) (some (T+1+i)):=by
 obtain⟨c,b⟩:=(h.ints i hi).set k x;refine⟨⟨λi' hi'=>(World.cell?_of_block (a:=⟨T,i',none⟩) (b.block T (by have:=h.lt;omega) (by simp;omega))).trans (h.row i' hi'),λi' hi'=>?_,ez h.lt b.size,λi' hi' y hy=>?_⟩,b⟩
 .by_cases e:i'=i
  .subst e;rw[if_pos rfl];exact c
  .rw[if_neg e];exact zF (h.ints i' hi') b (.inr (by simp[eP];omega))
 .by_cases e:i'=i
  .subst e;simp only[if_pos rfl]at hy;rcases List.mem_or_eq_of_mem_set hy with hy|rfl
   .exact h.bound i' hi y hy
   .exact⟨h0,h1⟩
  .simp only[if_neg e]at hy;exact h.bound i' hi' y hy
def BN(a b:List Int)(R:List (Nat×Nat)):Prop:=R.Pairwise (λp q=>p.1<q.1/\p.2<q.2)/\∀p∈R,∃x,a[p.1]?=some x/\b[p.2]?=some x
def Bi(R:List (Nat×Nat)):List zg:=R.flatMap λp=>[.int .i64 (p.1:Int),.int .i64 (p.2:Int)]
theorem Bu(R:List (Nat×Nat))(i j:Nat):Bi (R++[(i,j)])=Bi R++[.int .i64 (i:Int),.int .i64 (j:Int)]:=by unfold Bi;rw[List.flatMap_append];rfl
theorem BN.snoc{a b:List Int}{R:List (Nat×Nat)}{i j:Nat}{x:Int}(h:BN a b R)(hR:∀p∈R,p.1<i/\p.2<j)(ha:a[i]?=some x)(hb:b[j]?=some x):BN a b (R++[(i,j)]):=by
 refine⟨zcn.2 ⟨h.1,List.pairwise_singleton _ _,λp hp q hq=>?_⟩,λp hp=>?_⟩
 .rw[iI]at hq;subst hq;exact hR p hp
 .rcases eZ.1 hp with hp|hp
  .exact h.2 p hp
  .rw[iI]at hp;subst hp;exact⟨x,ha,hb⟩
theorem BN.length{a b:List Int}{R:List (Nat×Nat)}(h:BN a b R):R.length<=a.length:=by
 have:∀(R:List (Nat×Nat))(n:Nat),R.Pairwise (λp q=>p.1<q.1/\p.2<q.2)->(∀p∈R,n<=p.1/\p.1<a.length)->R.length<=a.length-n:=by
  intro R;induction R with
  |nil=>intros;simp
  |cons p R ih=>
   intro n c d;rw[List.pairwise_cons]at c;have g:=d p (List.mem_cons_self ..);have i:=ih (p.1+1) c.2 λq hq=>⟨(c.1 q hq).1,(d q (List.mem_cons_of_mem _ hq)).2⟩
   simp only[List.length_cons];omega
 have j:=this R 0 h.1 λp c=>⟨Nat.zero_le _,by obtain⟨x,f,_⟩:=h.2 p c;exact(zm.1 f).1⟩
 omega
def Ab(w:ze)(base:Nat)(v:zg)(R:List (Nat×Nat)):Prop:=w.ownsRow base 51 2 v R.length (Bi R)
theorem R3 (va vb : zg) (a b : List Int) (w : ze) (ha : yo w va a) (hb : yo w vb b) (na : a.length ≤ 1000) (nb : b.length ≤ 1000) :
    zM Tryz.prog 236 #[va, vb] w fun e w' => ∃ u R, e = .returned u ∧ Ab w' w.heap.size u R ∧ BN a b R ∧ Below w.heap.size w w' := by
  obtain ⟨pa, ca, rfl⟩ := ha.slice
  obtain ⟨pb, cb, rfl⟩ := hb.slice
  have hmk := QY w a.length (by omega)
  have b8 := za (fun w => Rq w b.length (by omega))
  obtain ⟨w1, Y⟩ : ∃ w1, w1 = w.alloc (.cells (madeCells #[.slice none 0 0] (a.length + 1)) 55) := ⟨_, rfl⟩
  have a9 : Below w.heap.size w w1 := by rw [Y]; exact ya _
  have hU : T1 w1 w.heap.size a.length b.length 0 := by
    refine ⟨?_, fun i' h => absurd h (by omega), by rw [Y]; simp⟩
    have h := World.ownsRow_lit (base := w.heap.size) (e := 55) (size := 1) w (madeCells #[.slice none 0 0] (a.length + 1)) (a.length + 1) (zn _) (by simp [maxLen]; omega) (by simp [size_madeCells])
    rw [toList_madeCells_one, ← Y] at h
    have e : CM w.heap.size a.length b.length 0 = ia (a.length + 1) (.slice none 0 0) := by
      unfold CM
      simp [List.map_const']
    rw [e]
    exact h
  rw [← Y] at hmk
  have HU := za hU
  have bo := za a9
  have db : iw.wrap ((a.length : Int) + 1) = (a.length : Int) + 1 := by rw [eR]; omega
  have c8 : iw.wrap ((b.length : Int) + 1) = (b.length : Int) + 1 := by rw [eR]; omega
  clear hU a9 Y
  go_enter Tryz.func236, Tryz.ntmps236
  go_wp2
  go_loopw [6, 21] (fun _ iv w' => ∃ i : Nat, i ≤ a.length + 1 ∧ T1 w' w.heap.size a.length b.length i ∧ Below w.heap.size w w' ∧ iv = .int .i64 i) (fun _ iv _ => a.length + 1 - (intOf iv).toNat)
  case atStart => exact ⟨0, by omega, HU.out, bo.out, rfl⟩
  case round =>
    obtain ⟨i, hi, hU, f, rfl⟩ := hrel
    by_cases I : i < a.length + 1
    · have hmk := b8.out wr
      obtain ⟨wx, J⟩ : ∃ wx, wx = wr.alloc (.cells (madeCells #[.int .i64 0] (b.length + 1)) 3) := ⟨_, rfl⟩
      have H : wx.ownsRow w.heap.size 55 1 (.slice (some ⟨w.heap.size, 0, none⟩) (a.length + 1) (a.length + 1)) (a.length + 1) (CM w.heap.size a.length b.length i) := by rw [J]; exact hU.own.alloc _
      have b9 : wx.heap.size = wr.heap.size + 1 := by rw [J]; simp
      have af : wr.grownBy wx none := by rw [J]; exact World.grownBy_alloc _ _ _
      have au : Al wx w.heap.size wr.heap.size (b.length + 1) (b.length + 1) (ia (b.length + 1) 0) := by rw [J]; exact Al.made wr _ (by omega) f.size
      have c0 : wx.cell? ⟨w.heap.size, i, none⟩ = some (.slice none 0 0) := by
        rw [ep H i (by omega)]
        unfold CM
        simp [I]
      have f0 := iN H i
      obtain ⟨o1, o2⟩ := H.stored i (.slice (some ⟨w.heap.size + 1 + i, 0, none⟩) (b.length + 1) (b.length + 1))
      rw [N0] at o1
      rw [← J] at hmk
      have e1 := hU.size
      rw [e1] at hmk au
      have ay : T1 (wx.setCell ⟨w.heap.size, i, none⟩ (.slice (some ⟨w.heap.size + 1 + i, 0, none⟩) (b.length + 1) (b.length + 1))) w.heap.size a.length b.length (i + 1) := by
        refine ⟨o1, fun i' hi' => ?_, by have : (wx.setCell ⟨w.heap.size, i, none⟩ (.slice (some ⟨w.heap.size + 1 + i, 0, none⟩) (b.length + 1) (b.length + 1))).heap.size = wx.heap.size := by simp
                                         omega⟩
        by_cases e : i' = i
        · subst e
          exact zF au o2 (.inr (by simp [eP]; omega))
        · exact zF (zF (hU.ints i' (by omega)) af (.inr (by simp [eP]))) o2 (.inr (by simp [eP]; omega))
      have a3 : Below w.heap.size w (wx.setCell ⟨w.heap.size, i, none⟩ (.slice (some ⟨w.heap.size + 1 + i, 0, none⟩) (b.length + 1) (b.length + 1))) := yd (yd f af (fun k e => by cases e) f.size) o2 (fun k e => by cases e; exact zn _) (zI f.size af.size)
      have cc := za ay
      have bv := za a3
      clear hU f H b9 af au J o1 o2 e1 ay a3
      go_wp2
      go_roundw
      case rel => exact ⟨i + 1, by omega, cc.out, bv.out, by go_num⟩
      case measure => simp [intOf]; omega
    · obtain rfl : i = a.length + 1 := by omega
      rw [show ((a.length + 1 : Nat) : Int) = (a.length : Int) + 1 by omega]
      have F := za hU.tab
      have D := za f
      clear hU f
      go_wp2
      go_loopw [7, 8] (fun iv _ w' => ∃ (i : Nat) (M : Nat → List Int), i ≤ a.length ∧ Tab w' w.heap.size a.length b.length M ∧ Below w.heap.size w w' ∧ iv = .int .i64 ((i : Int) - 1)) (fun iv _ _ => (intOf iv + 1).toNat)
      case atStart => exact ⟨a.length, _, zn _, F.out, D.out, by go_num⟩
      case round =>
        obtain ⟨i, M, hi, E, f, rfl⟩ := hrel
        by_cases dh : 0 < i
        · obtain ⟨m, rfl⟩ : ∃ m, i = m + 1 := ⟨i - 1, by omega⟩
          rw [show ((m + 1 : Nat) : Int) - 1 = (m : Int) by omega]
          have d0 : decide ((0 : Int) ≤ (m : Int)) = true := by simp
          have F := za E
          have D := za f
          clear E f
          go_wp2
          go_loopw [8] (fun kv w' => ∃ (k : Nat) (M : Nat → List Int), k ≤ b.length ∧ Tab w' w.heap.size a.length b.length M ∧ Below w.heap.size w w' ∧ kv = .int .i64 ((k : Int) - 1)) (fun kv _ => (intOf kv + 1).toNat)
          case atStart => exact ⟨b.length, _, zn _, F.out, D.out, by go_num⟩
          case round =>
            obtain ⟨k, M, hk, E, f, rfl⟩ := hrel
            by_cases cw : 0 < k
            · obtain ⟨n, rfl⟩ : ∃ n, k = n + 1 := ⟨k - 1, by omega⟩
              rw [show ((n + 1 : Nat) : Int) - 1 = (n : Int) by omega]
              have d1 : decide ((0 : Int) ≤ (n : Int)) = true := by simp
              obtain ⟨x, hx⟩ : ∃ x, a[m]? = some x := ⟨a[m], zc (by omega)⟩
              obtain ⟨y, hy⟩ : ∃ y, b[n]? = some y := ⟨b[n], zc (by omega)⟩
              obtain ⟨b1, o1, e1, _, c1⟩ := (ha.below f).at hx
              obtain ⟨b2, o2, e2, _, c2⟩ := (hb.below f).at hy
              subst e1 e2
              have r0 := E.row m (by omega)
              have r1 := E.row (m + 1) (by omega)
              obtain ⟨v0, _, m0, l0, u0⟩ := E.at (i := m + 1) (j := n + 1) (by omega) (by omega)
              obtain ⟨v1, _, m1, l1, u1⟩ := E.at (i := m + 1) (j := n) (by omega) (by omega)
              obtain ⟨v2, _, m2, l2, u2⟩ := E.at (i := m) (j := n + 1) (by omega) (by omega)
              obtain ⟨v3, _, m3, _, _⟩ := E.at (i := m) (j := n) (by omega) (by omega)
              have f3 := iN (E.ints m (by omega)) n
              have i1 : (m : Int) < (a.length : Int) + 1 := by omega
              have i2 : (m : Int) + 1 < (a.length : Int) + 1 := by omega
              have i3 : (n : Int) < (b.length : Int) + 1 := by omega
              have i4 : (n : Int) + 1 < (b.length : Int) + 1 := by omega
              have i5 : m < a.length + 1 := by omega
              have i9 : (0 : Int) ≤ (m : Int) + 1 := by omega
              have dj : (0 : Int) ≤ (n : Int) + 1 := by omega
              have cy : ((m : Int) + 1).toNat = m + 1 := by omega
              have dg : ((n : Int) + 1).toNat = n + 1 := by omega
              have i6 : n < b.length + 1 := by omega
              have i7 : m < a.length := by omega
              have i8 : n < b.length := by omega
              have F := za E
              have D := za f
              have di : iw.wrap ((m : Int) + 1) = (m : Int) + 1 := by rw [eR]; omega
              have da : iw.wrap ((n : Int) + 1) = (n : Int) + 1 := by rw [eR]; omega
              have c4 : iw.wrap (v0 + 1) = v0 + 1 := by rw [eR]; omega
              clear E f hx hy
              by_cases e : x = y
              · have d : (x == y) = true := by simpa using e
                clear e
                go_wp2
                go_quiet (fail)
                go_wp2
                clear c1 c2
                rename_i nq
                obtain ⟨v, l⟩ : ∃ v, v = wr.drewN nq := ⟨_, rfl⟩
                have s : Tab v w.heap.size a.length b.length M := by rw [l]; exact F.out.below (B := wr.heap.size) (yk (zt _ _)) F.out.lt
                have O : Below w.heap.size w v := by rw [l]; exact yk D.out
                rw [← l]
                replace r0 := s.row m (by omega)
                replace r1 := s.row (m + 1) (by omega)
                replace m0 : v.cell? ⟨w.heap.size + 1 + (m + 1), n + 1, none⟩ = some (.int .i64 v0) := by rw [l]; exact m0
                replace m3 : v.cell? ⟨w.heap.size + 1 + m, n, none⟩ = some (.int .i64 v3) := by rw [l]; exact m3
                replace f3 : v.frozen? ⟨w.heap.size + 1 + m, n, none⟩ = false := by rw [l]; exact f3
                have T := za ((s.below (B := v.heap.size) (w' := v.drew) ((zt _ _).drew) s.lt).set (i := m) (k := n) (x := v0 + 1) (by omega) (by omega) (by omega))
                have V := za (show Below w.heap.size w v.drew from O.drew)
                clear s O l m1 m2
                go_still_tail 16, (by kernel_rfl)
                go_wp2
                go_roundw
                case rel => exact ⟨n, _, by omega, T.out.1, yd V.out T.out.2 (fun k e => by have := eF e; omega) V.out.size, by go_num⟩
                case measure => simp [intOf]
              · have d : (x == y) = false := by simpa using e
                clear e
                go_wp2
                go_quiet (fail)
                go_wp2
                clear c1 c2
                rename_i nq
                obtain ⟨v, l⟩ : ∃ v, v = wr.drewN nq := ⟨_, rfl⟩
                have s : Tab v w.heap.size a.length b.length M := by rw [l]; exact F.out.below (B := wr.heap.size) (yk (zt _ _)) F.out.lt
                have O : Below w.heap.size w v := by rw [l]; exact yk D.out
                rw [← l]
                replace r0 := s.row m (by omega)
                replace r1 := s.row (m + 1) (by omega)
                replace m1 : v.cell? ⟨w.heap.size + 1 + (m + 1), n, none⟩ = some (.int .i64 v1) := by rw [l]; exact m1
                replace m2 : v.cell? ⟨w.heap.size + 1 + m, n + 1, none⟩ = some (.int .i64 v2) := by rw [l]; exact m2
                replace m3 : v.cell? ⟨w.heap.size + 1 + m, n, none⟩ = some (.int .i64 v3) := by rw [l]; exact m3
                replace f3 : v.frozen? ⟨w.heap.size + 1 + m, n, none⟩ = false := by rw [l]; exact f3
                have T := za ((s.below (B := v.heap.size) (w' := v.drew) ((zt _ _).drew) s.lt).set (i := m) (k := n) (x := if v1 < v2 then v2 else v1) (by omega) (by split <;> omega) (by split <;> omega))
                have V := za (show Below w.heap.size w v.drew from O.drew)
                clear s O l m0
                go_still_tail 23, (by kernel_rfl)
                go_wp2
                go_roundw
                case rel => exact ⟨n, _, by omega, T.out.1, yd V.out T.out.2 (fun k e => by have := eF e; omega) V.out.size, by go_num⟩
                case measure => simp [intOf]
            · obtain rfl : k = 0 := by omega
              have F := za E
              have D := za f
              clear E f
              go_wp2
              go_roundw
              case rel => exact ⟨m, _, by omega, F.out, D.out, by go_num⟩
              case measure => simp [intOf]
        · obtain rfl : i = 0 := by omega
          rename ze => w4
          rw [show ((0 : Nat) : Int) - 1 = -1 by rfl]
          have F := za E
          have D := za f
          clear E f
          have dd : w.heap.size + 1 + a.length < w4.heap.size := F.out.lt
          obtain ⟨wX, X⟩ : ∃ wX, wX = w4.alloc (.cells #[.int .i64 0, .int .i64 0] 265) := ⟨_, rfl⟩
          have a8 : wX.heap[w4.heap.size]? = some (.cells #[.int .i64 ((0 : Nat) : Int), .int .i64 ((0 : Nat) : Int)] 265 (0, 0)) := by rw [X]; exact zx w4 _
          have S : Below w4.heap.size w4 wX := by rw [X]; exact ya _
          have az : wX.heap.size = w4.heap.size + 1 := by rw [X]; simp
          have bm := za a8
          have bz := za S
          have bu := za az
          have bq : eW (∀ W, Below w4.heap.size w4 W → ∀ i k : Nat, i < a.length → k < b.length → zM Tryz.prog 245 #[.slice pa a.length ca, .slice pb b.length cb, .slice (some ⟨w.heap.size, 0, none⟩) (a.length + 1) (a.length + 1), .int .i64 i, .int .i64 k] W fun e w' => (e = .returned (.int .i64 (-1)) ∨ ∃ (j : Nat) (x : Int), e = .returned (.int .i64 j) ∧ k ≤ j ∧ a[i]? = some x ∧ b[j]? = some x) ∧ Below W.heap.size W w') :=
            za fun W hW i k hi hk => LL _ _ a b w.heap.size M i k _ W (ha.below (D.out.trans (hW.mono D.out.size))) (hb.below (D.out.trans (hW.mono D.out.size))) (F.out.below hW F.out.lt) na nb hi hk
          have Q : eW (∀ (u : zg) (R : List (Nat × Nat)) (W : ze), Ab W (w4.heap.size + 1) u R → BN a b R → Below w4.heap.size w4 W → ∃ u' R', zas u = zas u' ∧ Ab W w.heap.size u' R' ∧ BN a b R' ∧ Below w.heap.size w W) :=
            za fun u R W h1 h2 h3 => ⟨u, R, rfl, Au h1 (by have := D.out.size; omega), h2, D.out.trans (h3.mono D.out.size)⟩
          obtain ⟨ri, bk, b0, b3, br⟩ := iY PL
          clear a8 S az ha hb
          go_wp2
          rw [← X]
          clear X
          go_loopw [9, 11, 12, 13, 14] (fun u _ _ _ _ W => ∃ (i k : Nat) (R : List (Nat × Nat)), i ≤ a.length ∧ k ≤ b.length ∧ W.heap[w4.heap.size]? = some (.cells #[.int .i64 (i : Int), .int .i64 (k : Int)] 265 (0, 0)) ∧ Ab W (w4.heap.size + 1) u R ∧ BN a b R ∧ (∀ p ∈ R, p.1 < i ∧ p.2 < k) ∧ Below w4.heap.size w4 W ∧ w4.heap.size + 1 ≤ W.heap.size)
            (fun _ _ _ _ _ W => a.length - at0 W w4.heap.size)
          case atStart => exact ⟨0, 0, [], by omega, by omega, bm.out, ed _ _ _ _, ⟨zbi, by simp⟩, by simp, bz.out, by rw [bu.out]; exact zn _⟩
          case round =>
            obtain ⟨i, k, R, hi, hk, hx, ak, aj, hR, f, a6⟩ := hrel
            obtain ⟨x0, x1⟩ := yD hx
            have f0 := zk wr w4.heap.size 0 _ _ hx
            have f1 := zk wr w4.heap.size 1 _ _ hx
            have HX := za hx
            have G := za ak
            have o := za aj
            have HR := za hR
            have z := za f
            have ao := za a6
            clear ak aj hR f a6
            by_cases I : i < a.length
            case neg =>
              have d0 : decide (i < a.length) = false := by simpa using I
              clear hx I
              go_wp2
              go_ret
              exact Q.out _ _ _ G.out o.out z.out
            have d0 : decide (i < a.length) = true := by simpa using I
            by_cases ah : k < b.length
            case neg =>
              have d1 : decide (k < b.length) = false := by simpa using ah
              clear hx ah
              go_wp2
              go_ret
              exact Q.out _ _ _ G.out o.out z.out
            have d1 : decide (k < b.length) = true := by simpa using ah
            have ap := F.out.below z.out F.out.lt
            have r0 := ap.row i hi
            obtain ⟨v0, _, m0, l0, _⟩ := ap.at (i := i) (j := k) hi hk
            have ci : i < a.length + 1 := by omega
            have cf : k < b.length + 1 := by omega
            clear ap hx
            by_cases e0 : v0 = 0
            · subst e0
              go_wp2
              go_quiet (fail)
              go_wp2
              go_ret
              exact Q.out _ _ _ G.out o.out (yk z.out)
            have d2 : (v0 == 0) = false := by simpa using e0
            clear e0
            go_wp2
            go_quiet (fail)
            go_wp2_with (first | (go_at_call 245; refine (bq.out _ (yk z.out) i k I ah).mono ?_))
            rintro e L ⟨bc, ab⟩
            have al : Below w4.heap.size w4 L := (yk (n := nq) z.out).trans (ab.mono (zI (Nat.le_succ _) ao.out))
            have Z : L.heap[w4.heap.size]? = some (.cells #[.int .i64 (i : Int), .int .i64 (k : Int)] 265 (0, 0)) := (ab.block w4.heap.size (by have := ao.out; show w4.heap.size < wr.heap.size; omega)).trans HX.out
            have P : Ab L (w4.heap.size + 1) u9 R := yy (Cx (m := nq) G.out) ab
            have am : w4.heap.size + 1 ≤ L.heap.size := zI ao.out ab.size
            clear x0 x1 f0 f1
            obtain ⟨x0, x1⟩ := yD Z
            have f0 := zk L w4.heap.size 0 _ _ Z
            have f1 := zk L w4.heap.size 1 _ _ Z
            have an := za Z
            have r := za P
            have U := za al
            have C := za am
            clear Z P al am ab m0 r0
            have b6 : iw.wrap ((i : Int) + 1) = (i : Int) + 1 := by rw [eR]; omega
            rcases bc with rfl | ⟨j, x, rfl, c9, a4, aq⟩
            · have c3 : decide ((0 : Int) ≤ -1) = false := by decide
              go_wp2
              go_roundw
              case rel =>
                have av : (L.setCell ⟨w4.heap.size, 0, none⟩ (.int .i64 ((i : Int) + 1))).heap[w4.heap.size]? = some (.cells #[.int .i64 ((i + 1 : Nat) : Int), .int .i64 (k : Int)] 265 (0, 0)) := by
                  rw [show ((i + 1 : Nat) : Int) = (i : Int) + 1 by omega]
                  exact zA L w4.heap.size 0 _ _ _ an.out
                have hg : L.grownBy (L.setCell ⟨w4.heap.size, 0, none⟩ (.int .i64 ((i : Int) + 1))) (some w4.heap.size) := Gz _ _ _ _
                refine ⟨i + 1, k, R, by omega, hk, av, zF r.out hg ?_, o.out, fun p N => ⟨by have := (HR.out p N).1; omega, (HR.out p N).2⟩, yd U.out hg (fun q e => by cases e; exact zn _) U.out.size, zI C.out hg.size⟩
                cases h : u9.ownBlock with
                | none => exact .inl rfl
                | some g =>
                  refine .inr fun e => ?_
                  have := (zE r.out g h).1
                  cases e
                  omega
              case measure =>
                rw [Qc (i := i + 1) (y := .int .i64 (k : Int)) (t := 265) (fz := (0, 0)) (by
                  rw [show ((i + 1 : Nat) : Int) = (i : Int) + 1 by omega]
                  exact zA L w4.heap.size 0 _ _ _ an.out), Qc HX.out]
                omega
            · have de := za o.out.length
              have df := o.out.length
              have bt := za a4
              have bw := za aq
              have c5 : j < b.length := (zm.1 aq).1
              clear a4 aq
              have dc : decide ((0 : Int) ≤ (j : Int)) = true := by simp
              have cu : iw.wrap ((j : Int) + 1) = (j : Int) + 1 := by rw [eR]; omega
              have b6 : iw.wrap ((i : Int) + 1) = (i : Int) + 1 := by rw [eR]; omega
              go_wp2_with (at_builtin; refine ew _ rfl _ _ 26 rfl (w4.heap.size + 1) 51 ri _ 2 16 Tryz.underlying26 bk b0 b3 br rfl (by decide) _ R.length (Bi R) rfl (zy r.out _) ⟨L.heap.size, 0, none⟩ 1 1 [.int .i64 (i : Int), .int .i64 (j : Int)] rfl rfl (lw (cs := #[.int .i64 (i : Int), .int .i64 (j : Int)]) (t := 51) (fr := (0, 0)) (zx L _)) (by simp [ej]) (by simp [maxLen]; omega) (by omega) (by simp; have := C.out; omega) ?_; intro v' w2 aa A bn; have ac := (A.block w4.heap.size (by have := C.out; simp; omega) (fun e => by have := (zE r.out _ e.symm).1; omega)).trans (((ya _).block w4.heap.size C.out).trans an.out); obtain ⟨y0, y1⟩ := yD ac; have g0 := zk w2 w4.heap.size 0 _ _ ac; have g1 := zk w2 w4.heap.size 1 _ _ ac)
              have a5 := za ac
              clear ac
              go_roundw
              case rel =>
                have av : ((w2.setCell ⟨w4.heap.size, 0, none⟩ (.int .i64 ((i : Int) + 1))).setCell ⟨w4.heap.size, 1, none⟩ (.int .i64 ((j : Int) + 1))).heap[w4.heap.size]? = some (.cells #[.int .i64 ((i + 1 : Nat) : Int), .int .i64 ((j + 1 : Nat) : Int)] 265 (0, 0)) := by
                  rw [show ((i + 1 : Nat) : Int) = (i : Int) + 1 by omega, show ((j + 1 : Nat) : Int) = (j : Int) + 1 by omega]
                  exact zA _ w4.heap.size 1 _ _ _ (zA w2 w4.heap.size 0 _ _ _ a5.out)
                have hg : w2.grownBy ((w2.setCell ⟨w4.heap.size, 0, none⟩ (.int .i64 ((i : Int) + 1))).setCell ⟨w4.heap.size, 1, none⟩ (.int .i64 ((j : Int) + 1))) (some w4.heap.size) := yc (Gz _ _ _ _) (Gz _ _ _ _)
                have a1 : Below w4.heap.size w4 w2 := yd (U.out.trans ((ya _).mono U.out.size)) A (fun q e => by have := (zE r.out q e).1; omega) (zI U.out.size (by simp))
                refine ⟨i + 1, j + 1, R ++ [(i, j)], by omega, by omega, av, ?_, o.out.snoc (fun p N => ⟨(HR.out p N).1, by have := (HR.out p N).2; omega⟩) bt.out bw.out, ?_, yd a1 hg (fun q e => by cases e; exact zn _) a1.size, ?_⟩
                · unfold Ab
                  rw [Bu, zT]
                  refine zF aa hg ?_
                  cases h : v'.ownBlock with
                  | none => exact .inl rfl
                  | some g =>
                    refine .inr fun e => ?_
                    have := (zE aa g h).1
                    cases e
                    omega
                · intro p N
                  rcases eZ.1 N with N | N
                  · have := HR.out p N
                    omega
                  · rw [iI] at N
                    subst N
                    omega
                · have h1 := A.size
                  have h2 := C.out
                  have h3 := hg.size
                  rw [ye] at h1
                  omega
              case measure =>
                rw [Qc (i := i + 1) (y := .int .i64 ((j : Int) + 1)) (t := 265) (fz := (0, 0)) (by
                  rw [show ((i + 1 : Nat) : Int) = (i : Int) + 1 by omega]
                  exact zA _ w4.heap.size 1 _ _ _ (zA w2 w4.heap.size 0 _ _ _ a5.out)), Qc HX.out]
                omega
def WQ:zg->Nat
 |.slice _ n _=>n
 |_=>0
theorem IP(p:Option Addr)(n c:Nat):WQ (.slice p n c)=n:=rfl
def BF(n:Nat):List (Nat×Nat):=(ev n).map λi=>(i,i)
theorem Rm(n:Nat):BF (n+1)=BF n++[(n,n)]:=by unfold BF;rw[List.range_succ,List.map_append];rfl
theorem Cu(n:Nat):(BF n).length=n:=by simp[BF]
theorem Nr{a b:List Int}{n:Nat}(h:a.take n=b.take n)(ha:n<=a.length)(hb:n<=b.length):BN a b (BF n):=by
 refine⟨?_,λp hp=>?_⟩
 .unfold BF;rw[zbj];exact List.pairwise_lt_range.imp λh=>⟨h,h⟩
 .obtain⟨i,c,rfl⟩:=lQ.1 hp;rw[lD]at c;refine⟨a[i]'(by omega),zc _,?_⟩;have d:(a.take n)[i]?=(b.take n)[i]?:=by rw[h]
  rw[zcL,zcL,if_pos c,if_pos c]at d;rw[<-d];exact zc _
def AN(n:Nat)(R:List (Nat×Nat)):List (Nat×Nat):=R.map λp=>(p.1+n,p.2+n)
theorem DZ{a b:List Int}{n:Nat}{R:List (Nat×Nat)}(h:a.take n=b.take n)(ha:n<=a.length)(hb:n<=b.length)(hR:BN (a.drop n) (b.drop n) R):BN a b (BF n++AN n R):=by
 obtain⟨f,j⟩:=Nr h ha hb;refine⟨zcn.2 ⟨f,?_,λp hp q hq=>?_⟩,λp hp=>?_⟩
 .unfold AN;rw[zbj];exact hR.1.imp λh=>⟨by omega,by omega⟩
 .obtain⟨i,g,rfl⟩:=lQ.1 hp;obtain⟨r,_,rfl⟩:=lQ.1 hq;rw[lD]at g;exact⟨by simp only;omega,by simp only;omega⟩
 .rcases eZ.1 hp with hp|hp
  .exact j p hp
  .obtain⟨r,k,rfl⟩:=lQ.1 hp;obtain⟨x,c,d⟩:=hR.2 r k;rw[zal]at c d;exact⟨x,by rwa [zbk]at c,by rwa [zbk]at d⟩
theorem yj.drop{w:ze}{base g cap n:Nat}{l:List Int}(h:yj w base (.slice (some ⟨g,0,none⟩) l.length cap) l)(hn:n<=l.length):yo w (.slice (some ⟨g,n,none⟩) (l.length-n) (cap-n)) (l.drop n):=by
 rcases h.2 with⟨e,_⟩|⟨d,a,c,e,_,b,f,_⟩
 .cases e
 .cases e;refine .inr ⟨g,n,cap-n,by rw[lx],by rw[lx];omega,(eh.1 b).1,λi x hx=>?_⟩;rw[zal]at hx;rw[ep h (n+i) (by have:=(zm.1 hx).1;omega),ig,hx];rfl
theorem yj.cap{w:ze}{base g cap:Nat}{l:List Int}(h:yj w base (.slice (some ⟨g,0,none⟩) l.length cap) l):l.length<=cap:=by
 rcases h.2 with⟨e,_⟩|⟨d,a,c,e,_,_,b,_⟩
 .cases e
 .cases e;exact b
theorem yo.none{W:ze}{x:Option Addr}{n c:Nat}{l:List Int}(hn:n=l.length):yo W (.slice x (l.length-n) c) (l.drop n):=by subst hn;exact .inl ⟨⟨_,_,by rw[Nat.sub_self]⟩,by simp⟩
theorem yj.dropG{w W:ze}{base ca n:Nat}{pa:Option Addr}{l:List Int}(h:yj w base (.slice pa l.length ca) l)(hn:n<=l.length)(hb:Below w.heap.size w W):yo W (.slice (if ca=n then pa else Option.map (λx=>x.add n) pa) (l.length-n) (ca-n)) (l.drop n):=by
 rcases Nat.eq_or_lt_of_le hn with e|e
 .exact yo.none e
 .have f:=h;obtain⟨g,d,c,_,_⟩:=om f (by omega);cases c;have a:=(h.drop hn).below hb;have i:=h.cap;rw[if_neg (by omega)];have b:(⟨g,0,none⟩:Addr).add n=⟨g,n,none⟩:=by unfold Addr.add;split<;>simp_all
  rw[zQ,b];exact a
theorem yj.shape{w:ze}{base:Nat}{v:zg}{l:List Int}(h:yj w base v l):(v=.slice none 0 0/\l=[])\/∃g cap,v=.slice (some ⟨g,0,none⟩) l.length cap/\l.length<=cap/\g<w.heap.size:=by
 rcases h.2 with⟨e,a⟩|⟨g,cap,d,e,_,b,c,_⟩
 .exact .inl ⟨e,lm a⟩
 .exact .inr ⟨g,cap,e,c,(eh.1 b).1⟩
def Hv(R:List (Nat×Nat)):List (Int×Int):=R.map λp=>((p.1:Int),(p.2:Int))
theorem LB{R:List (Nat×Nat)}{i:Nat}{p:Nat×Nat}(h:R[i]?=some p):(Bi R)[i*2]?=some (.int .i64 (p.1:Int))/\(Bi R)[i*2+1]?=some (.int .i64 (p.2:Int)):=by
 induction R generalizing i with
 |nil=>simp at h
 |cons q R ih=>
  cases i with
  |zero=>cases h;exact⟨rfl,rfl⟩
  |succ i=>have:=ih (i:=i) (by simpa using h);rw[show(i+1)*2=i*2+1+1 by omega];exact this
theorem Ab.val{w:ze}{base:Nat}{v:zg}{R:List (Nat×Nat)}(h:Ab w base v R):Ao w v (Hv R):=by
 rcases Nat.eq_zero_or_pos R.length with h0|h0
 .obtain rfl:=lm h0;obtain⟨a,c,rfl⟩:=yq h;exact .inl ⟨⟨a,c,rfl⟩,rfl⟩
 .obtain⟨g,b,rfl,_,d⟩:=om h h0;refine .inr ⟨g,0,b,by simp[Hv],d,λi x hx=>?_⟩;obtain⟨p,f,rfl⟩:∃p,R[i]?=some p/\((p.1:Int),(p.2:Int))=x:=by simpa[Hv]using hx
  have l:=(zm.1 f).1;obtain⟨j,k⟩:=LB f;rw[eV,ep h _ (by omega),ep h _ (by omega)];exact⟨j,k⟩
theorem MI(va vb:zg)(a b:List Int)(ba bb:Nat)(w:ze)(ha:yj w ba va a)(hb:yj w bb vb b)(na:a.length<=1000)(nb:b.length<=1000):
  zM Tryz.prog 217 #[va,vb] w λe w'=>∃u R,e=.returned u/\Ab w' w.heap.size u R/\BN a b R/\Below w.heap.size w w':=by
 obtain⟨ri,aw,a2,a3,a1⟩:=iY PL
 have HA:=za ha
 have HB:=za hb
 have bx:=ha.shape
 have bi:=hb.shape
 have br:=ha.ints
 have b4:=hb.ints
 clear ha hb
 have ax:∀pa ca pb cb,va=.slice pa a.length ca->vb=.slice pb b.length cb->((pa=none/\ca=0/\a=[])\/∃g,pa=some ⟨g,0,none⟩)->((pb=none/\cb=0/\b=[])\/∃g,pb=some ⟨g,0,none⟩)->zM Tryz.prog 217 #[va,vb] w λe w'=>∃u R,e=.returned u/\Ab w' w.heap.size u R/\BN a b R/\Below w.heap.size w w':=by
  rintro pa ca pb cb rfl rfl ck cj
  go_enter Tryz.func217,Tryz.ntmps217
  go_wp2
  go_loopw [5] (λu W=>∃n,n<=a.length/\n<=b.length/\a.take n=b.take n/\Ab W w.heap.size u (BF n)/\(∃p c,u=.slice p n c)/\Below w.heap.size w W) (λu _=>a.length-WQ u)
  case atStart=>exact⟨0,by omega,by omega,by simp,ed _ _ _ _,⟨_,_,rfl⟩,zt _ _⟩
  case round=>
   obtain⟨n,cm,cf,bs,be,⟨p,c,rfl⟩,j⟩:=hrel
   have a7:=br.below j
   have a8:=b4.below j
   have P:=za be
   have I:=za j
   have az:=za bs
   clear be bs
   have c3:n<=1000:=by omega
   have bj:(decide (n<a.length)=false)\/(decide (n<a.length)=true/\decide (n<b.length)=false)\/(decide (n<a.length)=true/\decide (n<b.length)=true/\∃x y b1 o1 b2 o2,pa=some ⟨b1,o1,none⟩/\pb=some ⟨b2,o2,none⟩/\wr.cell? ⟨b1,o1+n,none⟩=some (.int .i64 x)/\wr.cell? ⟨b2,o2+n,none⟩=some (.int .i64 y)/\(x==y)=false)\/
     (decide (n<a.length)=true/\decide (n<b.length)=true/\a.take (n+1)=b.take (n+1)/\∃x y b1 o1 b2 o2,pa=some ⟨b1,o1,none⟩/\pb=some ⟨b2,o2,none⟩/\wr.cell? ⟨b1,o1+n,none⟩=some (.int .i64 x)/\wr.cell? ⟨b2,o2+n,none⟩=some (.int .i64 y)/\(x==y)=true):=by
    by_cases al:n<a.length
    .by_cases a0:n<b.length
     .obtain⟨x,hx⟩:∃x,a[n]?=some x:=⟨a[n],zc al⟩
      obtain⟨y,hy⟩:∃y,b[n]?=some y:=⟨b[n],zc a0⟩
      obtain⟨b1,o1,e1,_,c1⟩:=a7.at hx
      obtain⟨b2,o2,e2,_,c2⟩:=a8.at hy
      by_cases e:x=y
      .exact .inr (.inr (.inr ⟨by simpa using al,by simpa using a0,CF hx hy az.out e,x,y,b1,o1,b2,o2,e1,e2,c1,c2,by simpa using e⟩))
      .exact .inr (.inr (.inl ⟨by simpa using al,by simpa using a0,x,y,b1,o1,b2,o2,e1,e2,c1,c2,by simpa using e⟩))
     .exact .inr (.inl ⟨by simpa using al,by simpa using a0⟩)
    .exact .inl (by simpa using al)
   clear a7 a8 j
   rcases bj with hc|⟨hc,hd⟩|⟨hc,hd,x,y,b1,o1,b2,o2,e1,e2,c1,c2,cl⟩|⟨hc,hd,HE,x,y,b1,o1,b2,o2,rfl,rfl,c1,c2,cl⟩
   case inr.inr.inr=>
    have HE:=za HE
    have i1:n<a.length:=by simpa using hc
    have i2:n<b.length:=by simpa using hd
    clear br b4 bx bi
    go_wp2
    go_quiet (fail)
    go_wp2_with (at_builtin;refine ew _ rfl _ _ 26 rfl w.heap.size 51 ri _ 2 16 Tryz.underlying26 aw a2 a3 a1 rfl (by decide) _ n (Bi (BF n)) rfl (zy (by have h:=Cx (m:=nq) P.out;rwa [Cu]at h) _) ⟨wr.heap.size,0,none⟩ 1 1 [.int .i64 (n:Int),.int .i64 (n:Int)] rfl rfl (lw (cs:=#[.int .i64 (n:Int),.int .i64 (n:Int)]) (t:=51) (fr:=(0,0)) (zx _ _)) (by simp[ej]) (by simp[maxLen];omega) (by omega) (by simp;have:=I.out.size;omega) ?_;intro v' w2 B d ci;obtain⟨g2,ao,rfl,_,_⟩:=B.form (by omega))
    go_roundw
    case rel=>
     refine⟨n+1,by omega,by omega,HE.out,?_,⟨_,_,rfl⟩,?_⟩
     .unfold Ab
      rw[Rm,Bu,zT,Cu]
      exact B
     .exact yd ((yk (n:=nq) I.out).trans ((ya _).mono I.out.size)) d (λq e=>yf P.out q e) (by rw[ye];have:=I.out.size;show w.heap.size<=wr.heap.size+1;omega)
    case measure=>
     rw[IP,IP]
     omega
   all_goals
    have F:eW (∀(W:ze)(va' vb':zg),Below w.heap.size w W->yo W va' (a.drop n)->yo W vb' (b.drop n)->zM Tryz.prog 236 #[va',vb'] W λe w'=>∃u R,e=.returned u/\Ab w' W.heap.size u R/\BN (a.drop n) (b.drop n) R/\Below W.heap.size W w'):=za λW va' vb' _ N h2=>R3 va' vb' _ _ W N h2 (by simp;omega) (by simp;omega)
    have ad:=za cm
    have ae:=za cf
   case inr.inr.inl=>
    obtain⟨ga,rfl⟩:∃g,pa=some ⟨g,0,none⟩:=ck.resolve_left (by rintro⟨rfl,_⟩;cases e1)
    obtain⟨gb,rfl⟩:∃g,pb=some ⟨g,0,none⟩:=cj.resolve_left (by rintro⟨rfl,_⟩;cases e2)
    cases e1
    cases e2
    rw[eV]at c1 c2
    have i1:n<a.length:=by simpa using hc
    have i2:n<b.length:=by simpa using hd
    have i3:(n:Int)<=(a.length:Int):=by omega
    have i4:(n:Int)<=(b.length:Int):=by omega
    have i5:¬ca=n:=by have:=HA.out.cap;omega
    have i6:¬cb=n:=by have:=HB.out.cap;omega
    go_wp2
    go_quiet (fail)
    go_wp2
    obtain⟨D,E⟩:∃D,D=wr.drewN nq:=⟨_,rfl⟩
    have T:Below w.heap.size w D:=by rw[E];exact yk I.out
    have X:Ab D w.heap.size (.slice p n c) (BF n):=by rw[E];exact Cx P.out
    rw[<-E]
    clear E
    have z:=za T
    have Q:=za X
    clear T X
    go_region_held3 (λ_=>True) (trivial) (first|(go_at_call 236;refine(F.out _ _ _ (z.out.drew) (by first|exact(yj.drop HA.out ad.out).below z.out.drew|exact yo.none (by omega)|exact .inl ⟨⟨_,_,rfl⟩,rfl⟩) (by first|exact(yj.drop HB.out ae.out).below z.out.drew|exact yo.none (by omega)|exact .inl ⟨⟨_,_,rfl⟩,rfl⟩)).mono ?_;rintro e M ⟨u9,r,rfl,l,s,C⟩;obtain⟨p9,c9,rfl⟩:=yq l))
    have o:=za l
    have A:=za s
    have bz:=za C
    have bo:r.length<=1000:=by have:=s.length;rw[lx]at this;omega
    have aj:w.heap.size<=D.heap.size:=z.out.size
    have aa:eW (Below w.heap.size w M):=za (z.out.drew.trans (C.mono aj))
    have ap:eW (Ab M w.heap.size (.slice p n c) (BF n++AN n (r.take 0))):=za (by
     have h:=yy (Cx (m:=1) Q.out) C
     unfold Ab
     simpa[AN]using h)
    have af:eW (∀g,(eU p n c).ownBlock=some g->g<D.heap.size):=za (λg e=>(zE Q.out g e).2)
    have b3:eW (D.heap.size<=M.heap.size):=za C.size
    clear l s C F
    try clear c1
    try clear c2
    go_wp2
    go_loopw [5,52] (λu i W=>∃k,k<=r.length/\(∃pu cu,u=.slice pu (n+k) cu)/\Ab W w.heap.size u (BF n++AN n (r.take k))/\(∀g,u.ownBlock=some g->g<D.heap.size\/M.heap.size<=g)/\Ab W D.heap.size (.slice p9 r.length c9) r/\Below w.heap.size w W/\M.heap.size<=W.heap.size/\i=.int .i64 k) (λ_ i _=>r.length-(intOf i).toNat)
    case atStart=>exact⟨0,by omega,⟨_,_,rfl⟩,ap.out,λg e=>.inl (af.out g e),o.out,aa.out,zn _,rfl⟩
    case round=>
     obtain⟨k,hk,⟨pu,cu,rfl⟩,hO,L,hR,j,J,rfl⟩:=hrel
     have HO:=za hO
     have G:=za L
     have ah:=za hR
     have v:=za j
     have O:=za J
     by_cases an:k<r.length
     .obtain⟨q,hq⟩:∃q,r[k]?=some q:=⟨r[k],zc an⟩
      obtain⟨Z,o9,rfl,bp,d0,d1⟩:=hR.val.at (i:=k) (x:=((q.1:Int),(q.2:Int))) (by simp[Hv,hq])
      obtain⟨xq,S,U⟩:=A.out.2 q (zq hq)
      have am:=(zm.1 S).1
      have ag:=(zm.1 U).1
      rw[lx]at am ag
      have b5:iw.wrap ((q.1:Int)+(n:Int))=(q.1:Int)+(n:Int):=by rw[eR];omega
      have b0:iw.wrap ((q.2:Int)+(n:Int))=(q.2:Int)+(n:Int):=by rw[eR];omega
      have HT:eW (BF n++AN n (r.take (k+1))=(BF n++AN n (r.take k))++[(q.1+n,q.2+n)]):=za (by
       rw[z6,hq]
       simp[AN])
      have Y:(BF n++AN n (r.take k)).length=n+k:=by rw[zT,Cu];simp[AN];omega
      have H:=za Y
      have bf:Z<M.heap.size:=by
       have N:=zE o.out Z rfl
       exact N.2
      have a5:D.heap.size<=Z:=by
       have N:=zE o.out Z rfl
       exact N.1
      clear hO L hR j J hq S U
      simp only at d0 d1
      go_wp2_with (at_builtin;refine zaG _ rfl _ _ 26 rfl w.heap.size 51 ri _ 2 16 Tryz.underlying26 aw a2 a3 a1 rfl (by decide) _ (n+k) (Bi (BF n++AN n (r.take k))) rfl (zy (zy (by have h:=HO.out;unfold Ab at h;rwa [H.out]at h) _) _) ⟨wr.heap.size+1,0,none⟩ 1 1 [.int .i64 ((q.1:Int)+(n:Int)),.int .i64 ((q.2:Int)+(n:Int))] rfl rfl (lw (cs:=#[.int .i64 ((q.1:Int)+(n:Int)),.int .i64 ((q.2:Int)+(n:Int))]) (t:=51) (fr:=(0,0)) (by have h:=zx (wr.alloc (.cells #[.int .i64 (q.1:Int),.int .i64 (q.2:Int)] 51)) (.cells #[.int .i64 ((q.1:Int)+(n:Int)),.int .i64 ((q.2:Int)+(n:Int))] 51);rw[ye]at h;exact h)) (by simp[ej]) (by omega) (by simp[maxLen];omega) (by omega) (by rw[ye,ye];have:=v.out.size;omega) (wr.heap.size+2) (by simp) ?_;intro g2 ao w2 B d V bg)
      go_roundw
      case rel=>
       refine⟨k+1,by omega,⟨_,_,rfl⟩,?_,?_,?_,?_,?_,by go_num⟩
       .unfold Ab
        rw[HT.out,Bu,zT,H.out,show((q.1+n:Nat):Int)=(q.1:Int)+(n:Int) by omega,show((q.2+n:Nat):Int)=(q.2:Int)+(n:Int) by omega]
        exact B
       .intro g e
        have e':g2=g:=by simpa[eP]using e
        rcases V with h|h
        .exact G.out _ (by rw[<-e'];exact h)
        .right
         have h3:=O.out
         omega
       .refine zF (zy (zy ah.out _) _) d (.inr λe=>?_)
        rcases G.out Z e.symm with h|h
        .omega
        .omega
       .exact yd ((v.out.trans ((ya _).mono v.out.size)).trans ((ya _).mono (by rw[ye];have:=v.out.size;omega))) d (λq e=>yf HO.out q e) (by rw[ye,ye];have:=v.out.size;omega)
       .have N:=d.size
        have h2:=O.out
        rw[ye,ye]at N
        omega
      case measure=>simp[intOf];omega
     .obtain rfl:k=r.length:=by omega
      clear hO L hR j J
      go_wp2
      go_ret
      have h:=HO.out
      rw[zY]at h
      exact⟨_,_,rfl,h,DZ az.out ad.out ae.out A.out,v.out⟩
   case inr.inl=>
    have i3:(n:Int)<=(a.length:Int):=by omega
    have i4:(n:Int)<=(b.length:Int):=by omega
    go_wp2
    go_quiet (fail)
    go_wp2
    obtain⟨D,E⟩:∃D,D=wr.drewN nq:=⟨_,rfl⟩
    have T:Below w.heap.size w D:=by rw[E];exact yk I.out
    have X:Ab D w.heap.size (.slice p n c) (BF n):=by rw[E];exact Cx P.out
    rw[<-E]
    clear E
    have z:=za T
    have Q:=za X
    clear T X
    go_region_held3 (λ_=>True) (trivial) (first|(go_at_call 236;refine(F.out _ _ _ (z.out.drew) (yj.dropG HA.out ad.out z.out.drew) (yj.dropG HB.out ae.out z.out.drew)).mono ?_;rintro e M ⟨u9,r,rfl,l,s,C⟩;obtain⟨p9,c9,rfl⟩:=yq l;generalize(if ca=n then pa else _)=x1;generalize(if cb=n then pb else _)=x2))
    have o:=za l
    have A:=za s
    have bz:=za C
    have bo:r.length<=1000:=by have:=s.length;rw[lx]at this;omega
    have aj:w.heap.size<=D.heap.size:=z.out.size
    have aa:eW (Below w.heap.size w M):=za (z.out.drew.trans (C.mono aj))
    have ap:eW (Ab M w.heap.size (.slice p n c) (BF n++AN n (r.take 0))):=za (by
     have h:=yy (Cx (m:=1) Q.out) C
     unfold Ab
     simpa[AN]using h)
    have af:eW (∀g,(eU p n c).ownBlock=some g->g<D.heap.size):=za (λg e=>(zE Q.out g e).2)
    have b3:eW (D.heap.size<=M.heap.size):=za C.size
    clear l s C F
    try clear c1
    try clear c2
    go_wp2
    go_loopw [5,52] (λu i W=>∃k,k<=r.length/\(∃pu cu,u=.slice pu (n+k) cu)/\Ab W w.heap.size u (BF n++AN n (r.take k))/\(∀g,u.ownBlock=some g->g<D.heap.size\/M.heap.size<=g)/\Ab W D.heap.size (.slice p9 r.length c9) r/\Below w.heap.size w W/\M.heap.size<=W.heap.size/\i=.int .i64 k) (λ_ i _=>r.length-(intOf i).toNat)
    case atStart=>exact⟨0,by omega,⟨_,_,rfl⟩,ap.out,λg e=>.inl (af.out g e),o.out,aa.out,zn _,rfl⟩
    case round=>
     obtain⟨k,hk,⟨pu,cu,rfl⟩,hO,L,hR,j,J,rfl⟩:=hrel
     have HO:=za hO
     have G:=za L
     have ah:=za hR
     have v:=za j
     have O:=za J
     by_cases an:k<r.length
     .obtain⟨q,hq⟩:∃q,r[k]?=some q:=⟨r[k],zc an⟩
      obtain⟨Z,o9,rfl,bp,d0,d1⟩:=hR.val.at (i:=k) (x:=((q.1:Int),(q.2:Int))) (by simp[Hv,hq])
      obtain⟨xq,S,U⟩:=A.out.2 q (zq hq)
      have am:=(zm.1 S).1
      have ag:=(zm.1 U).1
      rw[lx]at am ag
      have b5:iw.wrap ((q.1:Int)+(n:Int))=(q.1:Int)+(n:Int):=by rw[eR];omega
      have b0:iw.wrap ((q.2:Int)+(n:Int))=(q.2:Int)+(n:Int):=by rw[eR];omega
      have HT:eW (BF n++AN n (r.take (k+1))=(BF n++AN n (r.take k))++[(q.1+n,q.2+n)]):=za (by
       rw[z6,hq]
       simp[AN])
      have Y:(BF n++AN n (r.take k)).length=n+k:=by rw[zT,Cu];simp[AN];omega
      have H:=za Y
      have bf:Z<M.heap.size:=by
       have N:=zE o.out Z rfl
       exact N.2
      have a5:D.heap.size<=Z:=by
       have N:=zE o.out Z rfl
       exact N.1
      clear hO L hR j J hq S U
      simp only at d0 d1
      go_wp2_with (at_builtin;refine zaG _ rfl _ _ 26 rfl w.heap.size 51 ri _ 2 16 Tryz.underlying26 aw a2 a3 a1 rfl (by decide) _ (n+k) (Bi (BF n++AN n (r.take k))) rfl (zy (zy (by have h:=HO.out;unfold Ab at h;rwa [H.out]at h) _) _) ⟨wr.heap.size+1,0,none⟩ 1 1 [.int .i64 ((q.1:Int)+(n:Int)),.int .i64 ((q.2:Int)+(n:Int))] rfl rfl (lw (cs:=#[.int .i64 ((q.1:Int)+(n:Int)),.int .i64 ((q.2:Int)+(n:Int))]) (t:=51) (fr:=(0,0)) (by have h:=zx (wr.alloc (.cells #[.int .i64 (q.1:Int),.int .i64 (q.2:Int)] 51)) (.cells #[.int .i64 ((q.1:Int)+(n:Int)),.int .i64 ((q.2:Int)+(n:Int))] 51);rw[ye]at h;exact h)) (by simp[ej]) (by omega) (by simp[maxLen];omega) (by omega) (by rw[ye,ye];have:=v.out.size;omega) (wr.heap.size+2) (by simp) ?_;intro g2 ao w2 B d V bg)
      go_roundw
      case rel=>
       refine⟨k+1,by omega,⟨_,_,rfl⟩,?_,?_,?_,?_,?_,by go_num⟩
       .unfold Ab
        rw[HT.out,Bu,zT,H.out,show((q.1+n:Nat):Int)=(q.1:Int)+(n:Int) by omega,show((q.2+n:Nat):Int)=(q.2:Int)+(n:Int) by omega]
        exact B
       .intro g e
        have e':g2=g:=by simpa[eP]using e
        rcases V with h|h
        .exact G.out _ (by rw[<-e'];exact h)
        .right
         have h3:=O.out
         omega
       .refine zF (zy (zy ah.out _) _) d (.inr λe=>?_)
        rcases G.out Z e.symm with h|h
        .omega
        .omega
       .exact yd ((v.out.trans ((ya _).mono v.out.size)).trans ((ya _).mono (by rw[ye];have:=v.out.size;omega))) d (λq e=>yf HO.out q e) (by rw[ye,ye];have:=v.out.size;omega)
       .have N:=d.size
        have h2:=O.out
        rw[ye,ye]at N
        omega
      case measure=>simp[intOf];omega
     .obtain rfl:k=r.length:=by omega
      clear hO L hR j J
      go_wp2
      go_ret
      have h:=HO.out
      rw[zY]at h
      exact⟨_,_,rfl,h,DZ az.out ad.out ae.out A.out,v.out⟩
   case inl=>
    have i3:(n:Int)<=(a.length:Int):=by omega
    have i4:(n:Int)<=(b.length:Int):=by omega
    go_wp2
    go_quiet (fail)
    go_wp2
    obtain⟨D,E⟩:∃D,D=wr.drewN nq:=⟨_,rfl⟩
    have T:Below w.heap.size w D:=by rw[E];exact yk I.out
    have X:Ab D w.heap.size (.slice p n c) (BF n):=by rw[E];exact Cx P.out
    rw[<-E]
    clear E
    have z:=za T
    have Q:=za X
    clear T X
    go_region_held3 (λ_=>True) (trivial) (first|(go_at_call 236;refine(F.out _ _ _ (z.out.drew) (yj.dropG HA.out ad.out z.out.drew) (yj.dropG HB.out ae.out z.out.drew)).mono ?_;rintro e M ⟨u9,r,rfl,l,s,C⟩;obtain⟨p9,c9,rfl⟩:=yq l;generalize(if ca=n then pa else _)=x1;generalize(if cb=n then pb else _)=x2))
    have o:=za l
    have A:=za s
    have bz:=za C
    have bo:r.length<=1000:=by have:=s.length;rw[lx]at this;omega
    have aj:w.heap.size<=D.heap.size:=z.out.size
    have aa:eW (Below w.heap.size w M):=za (z.out.drew.trans (C.mono aj))
    have ap:eW (Ab M w.heap.size (.slice p n c) (BF n++AN n (r.take 0))):=za (by
     have h:=yy (Cx (m:=1) Q.out) C
     unfold Ab
     simpa[AN]using h)
    have af:eW (∀g,(eU p n c).ownBlock=some g->g<D.heap.size):=za (λg e=>(zE Q.out g e).2)
    have b3:eW (D.heap.size<=M.heap.size):=za C.size
    clear l s C F
    try clear c1
    try clear c2
    go_wp2
    go_loopw [5,52] (λu i W=>∃k,k<=r.length/\(∃pu cu,u=.slice pu (n+k) cu)/\Ab W w.heap.size u (BF n++AN n (r.take k))/\(∀g,u.ownBlock=some g->g<D.heap.size\/M.heap.size<=g)/\Ab W D.heap.size (.slice p9 r.length c9) r/\Below w.heap.size w W/\M.heap.size<=W.heap.size/\i=.int .i64 k) (λ_ i _=>r.length-(intOf i).toNat)
    case atStart=>exact⟨0,by omega,⟨_,_,rfl⟩,ap.out,λg e=>.inl (af.out g e),o.out,aa.out,zn _,rfl⟩
    case round=>
     obtain⟨k,hk,⟨pu,cu,rfl⟩,hO,L,hR,j,J,rfl⟩:=hrel
     have HO:=za hO
     have G:=za L
     have ah:=za hR
     have v:=za j
     have O:=za J
     by_cases an:k<r.length
     .obtain⟨q,hq⟩:∃q,r[k]?=some q:=⟨r[k],zc an⟩
      obtain⟨Z,o9,rfl,bp,d0,d1⟩:=hR.val.at (i:=k) (x:=((q.1:Int),(q.2:Int))) (by simp[Hv,hq])
      obtain⟨xq,S,U⟩:=A.out.2 q (zq hq)
      have am:=(zm.1 S).1
      have ag:=(zm.1 U).1
      rw[lx]at am ag
      have b5:iw.wrap ((q.1:Int)+(n:Int))=(q.1:Int)+(n:Int):=by rw[eR];omega
      have b0:iw.wrap ((q.2:Int)+(n:Int))=(q.2:Int)+(n:Int):=by rw[eR];omega
      have HT:eW (BF n++AN n (r.take (k+1))=(BF n++AN n (r.take k))++[(q.1+n,q.2+n)]):=za (by
       rw[z6,hq]
       simp[AN])
      have Y:(BF n++AN n (r.take k)).length=n+k:=by rw[zT,Cu];simp[AN];omega
      have H:=za Y
      have bf:Z<M.heap.size:=by
       have N:=zE o.out Z rfl
       exact N.2
      have a5:D.heap.size<=Z:=by
       have N:=zE o.out Z rfl
       exact N.1
      clear hO L hR j J hq S U
      simp only at d0 d1
      go_wp2_with (at_builtin;refine zaG _ rfl _ _ 26 rfl w.heap.size 51 ri _ 2 16 Tryz.underlying26 aw a2 a3 a1 rfl (by decide) _ (n+k) (Bi (BF n++AN n (r.take k))) rfl (zy (zy (by have h:=HO.out;unfold Ab at h;rwa [H.out]at h) _) _) ⟨wr.heap.size+1,0,none⟩ 1 1 [.int .i64 ((q.1:Int)+(n:Int)),.int .i64 ((q.2:Int)+(n:Int))] rfl rfl (lw (cs:=#[.int .i64 ((q.1:Int)+(n:Int)),.int .i64 ((q.2:Int)+(n:Int))]) (t:=51) (fr:=(0,0)) (by have h:=zx (wr.alloc (.cells #[.int .i64 (q.1:Int),.int .i64 (q.2:Int)] 51)) (.cells #[.int .i64 ((q.1:Int)+(n:Int)),.int .i64 ((q.2:Int)+(n:Int))] 51);rw[ye]at h;exact h)) (by simp[ej]) (by omega) (by simp[maxLen];omega) (by omega) (by rw[ye,ye];have:=v.out.size;omega) (wr.heap.size+2) (by simp) ?_;intro g2 ao w2 B d V bg)
      go_roundw
      case rel=>
       refine⟨k+1,by omega,⟨_,_,rfl⟩,?_,?_,?_,?_,?_,by go_num⟩
       .unfold Ab
        rw[HT.out,Bu,zT,H.out,show((q.1+n:Nat):Int)=(q.1:Int)+(n:Int) by omega,show((q.2+n:Nat):Int)=(q.2:Int)+(n:Int) by omega]
        exact B
       .intro g e
        have e':g2=g:=by simpa[eP]using e
        rcases V with h|h
        .exact G.out _ (by rw[<-e'];exact h)
        .right
         have h3:=O.out
         omega
       .refine zF (zy (zy ah.out _) _) d (.inr λe=>?_)
        rcases G.out Z e.symm with h|h
        .omega
        .omega
       .exact yd ((v.out.trans ((ya _).mono v.out.size)).trans ((ya _).mono (by rw[ye];have:=v.out.size;omega))) d (λq e=>yf HO.out q e) (by rw[ye,ye];have:=v.out.size;omega)
       .have N:=d.size
        have h2:=O.out
        rw[ye,ye]at N
        omega
      case measure=>simp[intOf];omega
     .obtain rfl:k=r.length:=by omega
      clear hO L hR j J
      go_wp2
      go_ret
      have h:=HO.out
      rw[zY]at h
      exact⟨_,_,rfl,h,DZ az.out ad.out ae.out A.out,v.out⟩
 rcases bx with⟨rfl,rfl⟩|⟨ga,ca,rfl,_⟩
 .rcases bi with⟨rfl,rfl⟩|⟨gb,cb,rfl,_⟩
  .exact ax _ _ _ _ rfl rfl (by first|exact .inl ⟨rfl,rfl,rfl⟩|exact .inr ⟨_,rfl⟩) (by first|exact .inl ⟨rfl,rfl,rfl⟩|exact .inr ⟨_,rfl⟩)
  .exact ax _ _ _ _ rfl rfl (by first|exact .inl ⟨rfl,rfl,rfl⟩|exact .inr ⟨_,rfl⟩) (by first|exact .inl ⟨rfl,rfl,rfl⟩|exact .inr ⟨_,rfl⟩)
 .rcases bi with⟨rfl,rfl⟩|⟨gb,cb,rfl,_⟩
  .exact ax _ _ _ _ rfl rfl (by first|exact .inl ⟨rfl,rfl,rfl⟩|exact .inr ⟨_,rfl⟩) (by first|exact .inl ⟨rfl,rfl,rfl⟩|exact .inr ⟨_,rfl⟩)
  .exact ax _ _ _ _ rfl rfl (by first|exact .inl ⟨rfl,rfl,rfl⟩|exact .inr ⟨_,rfl⟩) (by first|exact .inl ⟨rfl,rfl,rfl⟩|exact .inr ⟨_,rfl⟩)
theorem GF(va vb:zg)(a b:List Int)(ba bb:Nat)(w:ze)(ha:yj w ba va a)(hb:yj w bb vb b)(na:a.length<=1000)(nb:b.length<=1000):zM Tryz.prog 188 #[va,vb] w λe w'=>∃u R,e=.returned u/\Ab w' w.heap.size u R/\BN a b R/\Below w.heap.size w w':=by have d:=za (MI va vb a b ba bb w ha hb na nb);clear ha hb;go_enter Tryz.func188,Tryz.ntmps188;go_wp2_with (first|(go_at_call 217;refine d.out.mono ?_;rintro e w' ⟨u,R,rfl,c,f,g⟩));go_ret;exact⟨_,_,rfl,c,f,g⟩
end Go.Proofs
