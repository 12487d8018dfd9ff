/-
  Part of the proof: The table of shapes, as the row lists it, is the one that the walks rest on; the law at every input.
-/
import Derived.Test.YtpdlpdkehminlaaGreatDoorWO
import Derived.Test.YtpdlpdkehminlaaGreatDoorStD
import Derived.Lib.SmallJoins
set_option linter.all false
set_option maxRecDepth 100000
set_option maxHeartbeats 20000000
open Go renaming DataW->l7,MemPlace->oN,TypeId->zL,Value->zg,World->ze
open Go.DataW renaming Trod->zeb,TrodAll->zdG
open Go.Proofs.YtpdlpdkehminlaaGreatDoor.Rows renaming laid_treemerge_grammar_shapes->oK
open Go.Value renaming okWide->zb5
open Nat renaming add_comm->zbk
open Option.some renaming injEq->zb
namespace Go.Proofs
open Go.RowKit Go.Ev Go.Proofs.YtpdlpdkehminlaaGreatDoor
open Classical
set_option maxRecDepth 100000
theorem Pw:SP Tryz.prog 8 133 oK 5=some (Fm,UW,24):=by kernel_rfl
theorem NA:Tryz.prog.globalNamed "treemerge/grammar.shapes" =some 0:=by kernel_rfl
theorem Oz:(Tryz.prog.globals[0]?).map (·.type)=some 133:=by kernel_rfl
theorem ST:Qx UW=true:=by kernel_rfl
theorem Nm:Nat.blt Fm.length lim=true:=by kernel_rfl
theorem VM(cs:List CV)(hl:cs.length<lim)(i:Nat)(hi:i<cs.length):(lay .leaf 0 cs:Tr CV).get (i+0)=cs[i]?:=by have a:=ED cs .leaf 0 i (by unfold lim at hl;omega);rw[if_pos ⟨Nat.zero_le _,by omega⟩,Nat.sub_zero]at a;rw[Nat.add_zero];exact a
theorem Lu{ρ:Ren}{w:ze}(hr:Rel ρ (SW VE 24 1) w){b:Nat}{cs:List CV}(hl:cs.length<lim)(hg:(SW VE 24 1).heap.get b=some (Sf.row cs false 0 1 0).obj):∃B D,ρ.b b=some (B,D)/\∀(i:Nat)(v:CV),cs[i]?=some v->∃V,yx ρ v=some V/\w.cell? ⟨B,i+D,none⟩=some V:=by
 obtain⟨B,D,O,g,j,d⟩:=hr.obj b _ hg;refine⟨B,D,g,λi v hv=>?_⟩;cases O with
 |cells c t fz=>have a:i<cs.length:=(List.getElem?_eq_some_iff.1 hv).1;obtain⟨u,V,f,k,h,_⟩:=d.1 i a;rw[VM cs hl i a,hv]at f;cases f;exact⟨V,k,by simp only[World.cell?,j];exact h⟩
 |_=>exact d.elim
def Q8:List (Int×Int)->List CV
 |[]=>[]
 |p::l=>.int .i64 p.1::.int .i64 p.2::Q8 l
theorem Nb:∀(l:List (Int×Int))(i:Nat)(p:Int×Int),l[i]?=some p->(Q8 l)[i*2]?=some (.int .i64 p.1)/\(Q8 l)[i*2+1]?=some (.int .i64 p.2)
 |[],i,p,h=>by simp at h
 |q::l,0,p,h=>by simp only[List.getElem?_cons_zero,zb]at h;subst h;exact⟨rfl,rfl⟩
 |q::l,i+1,p,h=>by have:=Nb l i p (by simpa using h);rw[show(i+1)*2=i*2+1+1 by omega];exact this
def Vh(l:List ByteArray):List CV:=l.map λs=>.str (s.data.toList.map (·.toNat))
theorem LK (s : ByteArray) : yH (s.data.toList.map (·.toNat)) = s := by
  unfold yH
  rw [List.map_map]
  have : (UInt8.ofNat ∘ fun x : UInt8 => x.toNat) = id := funext fun x => by simp
  rw [this, List.map_id]
theorem Uj{ρ:Ren}{w:ze}{b B D c:Nat}{l:List (Int×Int)}(hb:ρ.b b=some (B,D))(h:∀(i:Nat)(v:CV),(Q8 l)[i]?=some v->∃V,yx ρ v=some V/\w.cell? ⟨B,i+D,none⟩=some V)(hne:l≠[]):∃V,yx ρ (.slice b 0 l.length (.ex c))=some V/\Co w V l:=by
 have a:∀i x,l[i]?=some x->w.cell? ⟨B,D+i*2,none⟩=some (.int .i64 x.1)/\w.cell? ⟨B,D+i*2+1,none⟩=some (.int .i64 x.2):=λi x hx=>by obtain⟨g,m⟩:=Nb l i x hx;obtain⟨o,f,d⟩:=h _ _ g;obtain⟨n,j,k⟩:=h _ _ m;cases f;cases j;exact⟨by rw[zbk];exact d,by rw[show D+i*2+1=i*2+1+D by omega];exact k⟩
 refine⟨.slice (some ⟨B,D,none⟩) l.length c,by simp[yx,hb,Ren.cap],.inr ⟨B,D,c,rfl,?_,a⟩⟩;cases l with
 |nil=>exact absurd rfl hne
 |cons x l=>exact Hn (a 0 x rfl).1
theorem Vi{ρ:Ren}{w:ze}{b B D:Nat}{l:List ByteArray}(hb:ρ.b b=some (B,D))(h:∀(i:Nat)(v:CV),(Vh l)[i]?=some v->∃V,yx ρ v=some V/\w.cell? ⟨B,i+D,none⟩=some V)(hne:l≠[]):∃V,yx ρ (.slice b 0 l.length (.ex l.length))=some V/\yI w V l:=by
 have a:∀i x,l[i]?=some x->w.cell? ⟨B,D+i,none⟩=some (.string x):=λi x hx=>by obtain⟨f,c,d⟩:=h i (.str (x.data.toList.map (·.toNat))) (by unfold Vh;rw[List.getElem?_map,hx];rfl);simp only[yx,LK,zb]at c;subst c;rw[zbk];exact d
 refine⟨.slice (some ⟨B,D,none⟩) l.length l.length,by simp[yx,hb,Ren.cap],.inr ⟨B,D,l.length,rfl,Nat.le_refl _,?_,a⟩⟩;cases l with
 |nil=>exact absurd rfl hne
 |cons x l=>exact Hn (a 0 x rfl)
theorem Uv{ρ:Ren}{w:ze}(hr:Rel ρ (SW VE 24 1) w)(hg:FE Tryz.prog ρ):Bh w:=by
 have p:∀(i:Nat)(v:CV),Fm[i]?=some v->∃V,yx ρ v=some V/\w.cell? ⟨0,i,none⟩=some V:=λi v hv=>by obtain⟨B,D,e,h⟩:=Lu hr (b:=0) (cs:=Fm) (yF Nm) (by kernel_rfl);have t:=hg 0 (by rw[Xc];decide);rw[e]at t;cases t;exact h i v hv
 have a:∀(i:Nat)(n:Int),Fm[i]?=some (.int .i64 n)->w.cell? ⟨0,i,none⟩=some (.int .i64 n):=λi n h=>by obtain⟨V,k,j⟩:=p i _ h;cases k;exact j
 have d:∀i:Nat,Fm[i]?=some .nils->w.cell? ⟨0,i,none⟩=some (.slice none 0 0):=λi h=>by obtain⟨V,k,j⟩:=p i _ h;cases k;exact j
 have f:∀(i b:Nat)(l:List (Int×Int)),Fm[i]?=some (.slice b 0 l.length (.ex l.length))->(Q8 l).length<lim->l≠[]->(SW VE 24 1).heap.get b=some (Sf.row (Q8 l) false 0 1 0).obj->∃v,w.cell? ⟨0,i,none⟩=some v/\Co w v l:=λi b l k j q3 q4=>by obtain⟨B,D,e,h⟩:=Lu hr j q4;obtain⟨V,r,s⟩:=Uj e h q3 (c:=l.length);obtain⟨x,o,q⟩:=p i _ k;rw[r]at o;cases o;exact⟨V,q,s⟩
 have g:∀(i b:Nat)(l:List ByteArray),Fm[i]?=some (.slice b 0 l.length (.ex l.length))->(Vh l).length<lim->l≠[]->(SW VE 24 1).heap.get b=some (Sf.row (Vh l) false 0 1 0).obj->∃v,w.cell? ⟨0,i,none⟩=some v/\yI w v l:=λi b l k j q3 q4=>by obtain⟨B,D,e,h⟩:=Lu hr j q4;obtain⟨V,r,s⟩:=Vi e h q3;obtain⟨x,o,q⟩:=p i _ k;rw[r]at o;cases o;exact⟨V,q,s⟩
 refine⟨Hn (a 1 0 rfl),λm hm=>?_,λm hm=>?_,λm hm=>?_,λm hm=>?_,λm hm=>?_,λm hm=>?_⟩
 .match m,hm with
  |0,_=>exact⟨_,d 0 rfl,.inl ⟨⟨_,_,rfl⟩,rfl⟩⟩
  |1,_=>exact⟨_,d 6 rfl,.inl ⟨⟨_,_,rfl⟩,rfl⟩⟩
  |2,_=>exact f 12 5 (Ah 2) rfl (by decide) (by decide) (by kernel_rfl)
  |3,_=>exact⟨_,d 18 rfl,.inl ⟨⟨_,_,rfl⟩,rfl⟩⟩
  |4,_=>exact f 24 6 (Ah 4) rfl (by decide) (by decide) (by kernel_rfl)
  |5,_=>exact⟨_,d 30 rfl,.inl ⟨⟨_,_,rfl⟩,rfl⟩⟩
  |6,_=>exact⟨_,d 36 rfl,.inl ⟨⟨_,_,rfl⟩,rfl⟩⟩
  |7,_=>exact f 42 7 (Ah 7) rfl (by decide) (by decide) (by kernel_rfl)
  |8,_=>exact⟨_,d 48 rfl,.inl ⟨⟨_,_,rfl⟩,rfl⟩⟩
  |9,_=>exact f 54 8 (Ah 9) rfl (by decide) (by decide) (by kernel_rfl)
  |10,_=>exact f 60 9 (Ah 10) rfl (by decide) (by decide) (by kernel_rfl)
  |11,_=>exact f 66 10 (Ah 11) rfl (by decide) (by decide) (by kernel_rfl)
  |12,_=>exact f 72 11 (Ah 12) rfl (by decide) (by decide) (by kernel_rfl)
  |13,_=>exact f 78 12 (Ah 13) rfl (by decide) (by decide) (by kernel_rfl)
  |14,_=>exact f 84 13 (Ah 14) rfl (by decide) (by decide) (by kernel_rfl)
  |15,_=>exact f 90 14 (Ah 15) rfl (by decide) (by decide) (by kernel_rfl)
  |16,_=>exact f 96 15 (Ah 16) rfl (by decide) (by decide) (by kernel_rfl)
  |17,_=>exact⟨_,d 102 rfl,.inl ⟨⟨_,_,rfl⟩,rfl⟩⟩
  |18,_=>exact⟨_,d 108 rfl,.inl ⟨⟨_,_,rfl⟩,rfl⟩⟩
  |19,_=>exact⟨_,d 114 rfl,.inl ⟨⟨_,_,rfl⟩,rfl⟩⟩
  |20,_=>exact⟨_,d 120 rfl,.inl ⟨⟨_,_,rfl⟩,rfl⟩⟩
  |21,_=>exact f 126 17 (Ah 21) rfl (by decide) (by decide) (by kernel_rfl)
  |22,_=>exact⟨_,d 132 rfl,.inl ⟨⟨_,_,rfl⟩,rfl⟩⟩
  |23,_=>exact⟨_,d 138 rfl,.inl ⟨⟨_,_,rfl⟩,rfl⟩⟩
  |24,_=>exact f 144 19 (Ah 24) rfl (by decide) (by decide) (by kernel_rfl)
  |25,_=>exact f 150 21 (Ah 25) rfl (by decide) (by decide) (by kernel_rfl)
  |26,_=>exact f 156 23 (Ah 26) rfl (by decide) (by decide) (by kernel_rfl)
  |n+27,h=>exact absurd h (by omega)
 .match m,hm with
  |0,_=>exact a 1 _ rfl
  |1,_=>exact a 7 _ rfl
  |2,_=>exact a 13 _ rfl
  |3,_=>exact a 19 _ rfl
  |4,_=>exact a 25 _ rfl
  |5,_=>exact a 31 _ rfl
  |6,_=>exact a 37 _ rfl
  |7,_=>exact a 43 _ rfl
  |8,_=>exact a 49 _ rfl
  |9,_=>exact a 55 _ rfl
  |10,_=>exact a 61 _ rfl
  |11,_=>exact a 67 _ rfl
  |12,_=>exact a 73 _ rfl
  |13,_=>exact a 79 _ rfl
  |14,_=>exact a 85 _ rfl
  |15,_=>exact a 91 _ rfl
  |16,_=>exact a 97 _ rfl
  |17,_=>exact a 103 _ rfl
  |18,_=>exact a 109 _ rfl
  |19,_=>exact a 115 _ rfl
  |20,_=>exact a 121 _ rfl
  |21,_=>exact a 127 _ rfl
  |22,_=>exact a 133 _ rfl
  |23,_=>exact a 139 _ rfl
  |24,_=>exact a 145 _ rfl
  |25,_=>exact a 151 _ rfl
  |26,_=>exact a 157 _ rfl
  |n+27,h=>exact absurd h (by omega)
 .match m,hm with
  |0,_=>exact a 2 _ rfl
  |1,_=>exact a 8 _ rfl
  |2,_=>exact a 14 _ rfl
  |3,_=>exact a 20 _ rfl
  |4,_=>exact a 26 _ rfl
  |5,_=>exact a 32 _ rfl
  |6,_=>exact a 38 _ rfl
  |7,_=>exact a 44 _ rfl
  |8,_=>exact a 50 _ rfl
  |9,_=>exact a 56 _ rfl
  |10,_=>exact a 62 _ rfl
  |11,_=>exact a 68 _ rfl
  |12,_=>exact a 74 _ rfl
  |13,_=>exact a 80 _ rfl
  |14,_=>exact a 86 _ rfl
  |15,_=>exact a 92 _ rfl
  |16,_=>exact a 98 _ rfl
  |17,_=>exact a 104 _ rfl
  |18,_=>exact a 110 _ rfl
  |19,_=>exact a 116 _ rfl
  |20,_=>exact a 122 _ rfl
  |21,_=>exact a 128 _ rfl
  |22,_=>exact a 134 _ rfl
  |23,_=>exact a 140 _ rfl
  |24,_=>exact a 146 _ rfl
  |25,_=>exact a 152 _ rfl
  |26,_=>exact a 158 _ rfl
  |n+27,h=>exact absurd h (by omega)
 .match m,hm with
  |0,_=>exact a 3 _ rfl
  |1,_=>exact a 9 _ rfl
  |2,_=>exact a 15 _ rfl
  |3,_=>exact a 21 _ rfl
  |4,_=>exact a 27 _ rfl
  |5,_=>exact a 33 _ rfl
  |6,_=>exact a 39 _ rfl
  |7,_=>exact a 45 _ rfl
  |8,_=>exact a 51 _ rfl
  |9,_=>exact a 57 _ rfl
  |10,_=>exact a 63 _ rfl
  |11,_=>exact a 69 _ rfl
  |12,_=>exact a 75 _ rfl
  |13,_=>exact a 81 _ rfl
  |14,_=>exact a 87 _ rfl
  |15,_=>exact a 93 _ rfl
  |16,_=>exact a 99 _ rfl
  |17,_=>exact a 105 _ rfl
  |18,_=>exact a 111 _ rfl
  |19,_=>exact a 117 _ rfl
  |20,_=>exact a 123 _ rfl
  |21,_=>exact a 129 _ rfl
  |22,_=>exact a 135 _ rfl
  |23,_=>exact a 141 _ rfl
  |24,_=>exact a 147 _ rfl
  |25,_=>exact a 153 _ rfl
  |26,_=>exact a 159 _ rfl
  |n+27,h=>exact absurd h (by omega)
 .match m,hm with
  |0,_=>exact⟨_,d 4 rfl,.inl ⟨⟨_,_,rfl⟩,rfl⟩⟩
  |1,_=>exact⟨_,d 10 rfl,.inl ⟨⟨_,_,rfl⟩,rfl⟩⟩
  |2,_=>exact⟨_,d 16 rfl,.inl ⟨⟨_,_,rfl⟩,rfl⟩⟩
  |3,_=>exact⟨_,d 22 rfl,.inl ⟨⟨_,_,rfl⟩,rfl⟩⟩
  |4,_=>exact⟨_,d 28 rfl,.inl ⟨⟨_,_,rfl⟩,rfl⟩⟩
  |5,_=>exact⟨_,d 34 rfl,.inl ⟨⟨_,_,rfl⟩,rfl⟩⟩
  |6,_=>exact⟨_,d 40 rfl,.inl ⟨⟨_,_,rfl⟩,rfl⟩⟩
  |7,_=>exact⟨_,d 46 rfl,.inl ⟨⟨_,_,rfl⟩,rfl⟩⟩
  |8,_=>exact⟨_,d 52 rfl,.inl ⟨⟨_,_,rfl⟩,rfl⟩⟩
  |9,_=>exact⟨_,d 58 rfl,.inl ⟨⟨_,_,rfl⟩,rfl⟩⟩
  |10,_=>exact⟨_,d 64 rfl,.inl ⟨⟨_,_,rfl⟩,rfl⟩⟩
  |11,_=>exact⟨_,d 70 rfl,.inl ⟨⟨_,_,rfl⟩,rfl⟩⟩
  |12,_=>exact⟨_,d 76 rfl,.inl ⟨⟨_,_,rfl⟩,rfl⟩⟩
  |13,_=>exact⟨_,d 82 rfl,.inl ⟨⟨_,_,rfl⟩,rfl⟩⟩
  |14,_=>exact⟨_,d 88 rfl,.inl ⟨⟨_,_,rfl⟩,rfl⟩⟩
  |15,_=>exact⟨_,d 94 rfl,.inl ⟨⟨_,_,rfl⟩,rfl⟩⟩
  |16,_=>exact⟨_,d 100 rfl,.inl ⟨⟨_,_,rfl⟩,rfl⟩⟩
  |17,_=>exact⟨_,d 106 rfl,.inl ⟨⟨_,_,rfl⟩,rfl⟩⟩
  |18,_=>exact g 112 16 (B5 18) rfl (by decide) (λh=>by cases h) (by kernel_rfl)
  |19,_=>exact⟨_,d 118 rfl,.inl ⟨⟨_,_,rfl⟩,rfl⟩⟩
  |20,_=>exact⟨_,d 124 rfl,.inl ⟨⟨_,_,rfl⟩,rfl⟩⟩
  |21,_=>exact⟨_,d 130 rfl,.inl ⟨⟨_,_,rfl⟩,rfl⟩⟩
  |22,_=>exact⟨_,d 136 rfl,.inl ⟨⟨_,_,rfl⟩,rfl⟩⟩
  |23,_=>exact g 142 18 (B5 23) rfl (by decide) (λh=>by cases h) (by kernel_rfl)
  |24,_=>exact g 148 20 (B5 24) rfl (by decide) (λh=>by cases h) (by kernel_rfl)
  |25,_=>exact g 154 22 (B5 25) rfl (by decide) (λh=>by cases h) (by kernel_rfl)
  |26,_=>exact⟨_,d 160 rfl,.inl ⟨⟨_,_,rfl⟩,rfl⟩⟩
  |n+27,h=>exact absurd h (by omega)
 .match m,hm with
  |0,_=>exact a 5 _ rfl
  |1,_=>exact a 11 _ rfl
  |2,_=>exact a 17 _ rfl
  |3,_=>exact a 23 _ rfl
  |4,_=>exact a 29 _ rfl
  |5,_=>exact a 35 _ rfl
  |6,_=>exact a 41 _ rfl
  |7,_=>exact a 47 _ rfl
  |8,_=>exact a 53 _ rfl
  |9,_=>exact a 59 _ rfl
  |10,_=>exact a 65 _ rfl
  |11,_=>exact a 71 _ rfl
  |12,_=>exact a 77 _ rfl
  |13,_=>exact a 83 _ rfl
  |14,_=>exact a 89 _ rfl
  |15,_=>exact a 95 _ rfl
  |16,_=>exact a 101 _ rfl
  |17,_=>exact a 107 _ rfl
  |18,_=>exact a 113 _ rfl
  |19,_=>exact a 119 _ rfl
  |20,_=>exact a 125 _ rfl
  |21,_=>exact a 131 _ rfl
  |22,_=>exact a 137 _ rfl
  |23,_=>exact a 143 _ rfl
  |24,_=>exact a 149 _ rfl
  |25,_=>exact a 155 _ rfl
  |26,_=>exact a 161 _ rfl
  |n+27,h=>exact absurd h (by omega)
theorem SN{laid:List (String×l7 Unit)}(hd:("treemerge/grammar.shapes",oK)∈laid)(tb ts:T)(gb kb gs ks mv:zg)(m:List (Int×Int))(w:ze)(hb:tb.Lies w gb kb)(hs:ts.Lies w gs ks)(hmv:Ao w mv m)(bb:tb.bulk<=1048576)(bs:ts.bulk<=1048576)(fm:∀p∈m,yw p.2)(hm:m.length<=1048576)(hL:laidMet Tryz.prog laid w):Calls Tryz.prog 4 #[yJ tb.k tb.s gb kb,yJ ts.k ts.s gs ks,mv] w λe w'=>e=.returned (.bool true)/\Below w.heap.size w w':=by
 have hlay:SP Tryz.prog 8 133 oK Tryz.prog.globals.size=some (Fm,UW,24):=by rw[Xc];exact Pw
 obtain⟨β,hr,hg,noW⟩:=Vb hL hd NA Oz hlay ST (by decide) (yF Nm) (λ_=>none);exact Lx tb ts gb kb gs ks mv m w hb hs hmv (Uv hr hg) bb bs fm hm λW hW=>OQ (Stp.below hr hW).rel hg noW
open Go.ChangeShapes Go.WideShapes Go.Deep Go.RowKit
open Go.Proofs.YtpdlpdkehminlaaGreatDoor.Rows (uptoBulk uptoBulkAll)
section
variable{H:Type} {enc:zL×zg->H} {P:Program}
theorem LR{f:Func}{s:ChangeSpec}{apart fresh handsOn again:Bool}{W W':ze}{args:Array zg}{v:zg}{ds gs:List (l7 H)}{before pa pv:List oN}(hW:DataW.Whole enc P f.params.toList s.vars apart W args.toList ds gs before)(hres:∀(b:Nat)(sp:Nat->Bool)(hd:Bool),zdG enc P W' b sp hd f.resultTypes.toList (v.resultList f.resultTypes.size) (s.fn H (ds++gs)).results [])(hargs:∀sp:Nat->Bool,(∀p∈before,sp p.block=true)->zdG enc P W' 0 sp true f.params.toList args.toList (s.fn H (ds++gs)).args pa)(hvars:∀sp:Nat->Bool,(∀p∈before,sp p.block=true)->DataW.TrodVars enc P W' sp s.vars (s.fn H (ds++gs)).vars pv)(hps:before=pa++pv)(hb:Below W.heap.size W W')(hok:∀(j:Nat)(t:zL)(r:zg),f.resultTypes[j]?=some t->(v.resultList f.resultTypes.size)[j]?=some r->zb5 P W' .any 0 t r):s.post enc P f apart fresh handsOn again W args v W':=by
 have h:∀p∈before,p.block<W.heap.size:=λp a=>hW.lt p a;have c:∀p∈before,(λb=>decide (b<W.heap.size)) p.block=true:=λp a=>by simpa using h p a
 refine⟨ds,gs,before,[],pa,pv,hW,hres _ _ _,hargs _ c,hvars _ c,World.keptBut_mono (λp a=>⟨a,?_⟩) (hb.frame (·∈before)),λ_=>?_⟩
 .rw[hps,List.mem_append]at a;exact Or.inr a
 .obtain⟨_,_,_,_,_,i,l⟩:=hW;refine⟨hok,_,_,([]++pa)++pv,⟨[]++pa,pv,trodAll_append (hargs _ (λ_ _=>rfl)) (hres _ _ _),hvars _ (λ_ _=>rfl),rfl,?_,?_⟩,?_⟩
  .intro b d a;have g:MemPlace.cell b d∈before:=by rw[hps];simpa using a
   rw[hb.frozen (h _ g)];exact i b d g
  .intro k;have:=l k;rw[hps]at this;simpa using this
  .intro p a _;rw[hps];simpa using a
end
theorem GK{H:Type}{enc:zL×zg->H}{W:ze}{b0 b1:Nat}{spare:Nat->Bool}{held:Bool}{v:zg}{d:l7 H}{p:List oN}(hv:zb5 Tryz.prog W .any b1 25 v)(h:zeb enc Tryz.prog W b0 spare held 25 v d p):∃(t:T)(gv kv:zg),v=yJ t.k t.s gv kv/\t.Lies W gv kv/\t.bulk<=uptoBulk d:=by obtain⟨b,rfl,c⟩:=okWide_struct Tryz.underlying25 hv;obtain⟨a,j⟩:=h;obtain⟨t,gv,kv,e,g,i⟩:=TW a _ _ j;have l:b.size=4:=c.trans (by kernel_rfl);have f:b.toList=[.int .i64 t.k,.string t.s,gv,kv]:=e;exact⟨t,gv,kv,by rw[<-Array.toArray_toList (xs:=b),f],g,i⟩
theorem JV{H:Type}{enc:zL×zg->H}{W:ze}{b0 b1:Nat}{spare:Nat->Bool}{held:Bool}{v:zg}{d:l7 H}{p:List oN}(hv:zb5 Tryz.prog W .any b1 26 v)(h:zeb enc Tryz.prog W b0 spare held 26 v d p):∃l,Ao W v l/\l.length<=uptoBulk d/\∀p∈l,yw p.2:=by obtain⟨a,c,g,rfl⟩:=okWide_slice Tryz.underlying26 hv;obtain⟨b,f⟩:=h;exact RI f
end Go.Proofs
