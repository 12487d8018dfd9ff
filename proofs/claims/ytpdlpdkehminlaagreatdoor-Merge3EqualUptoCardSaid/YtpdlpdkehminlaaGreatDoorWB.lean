/-
  Part of the proof: The levels of expressions.
-/
import Derived.Test.YtpdlpdkehminlaaGreatDoorWA
import Derived.Laws.RangeString
import Derived.Laws.RangeAny
import Derived.Laws.IdiomStrings
import Derived.Lib.Bytealg
set_option linter.all false
set_option maxRecDepth 100000
set_option maxHeartbeats 20000000
open Bool renaming eq_false_or_eq_true->zN,eq_iff_iff->iy,or_self->lL,or_true->lJ,true_or->lK
open Go renaming Calls->zM,Value->zg,World->ze
open Go.Extern.BytealgIndexByte renaming indexByte->zcf
open Go.Instr renaming next->zbJ
open Go.Lib renaming hid->za,indexByte->iU,indexByte_ge->zdm
open Go.MapKept renaming heap_alloc->eN
open Go.RowKit renaming Hid->eW
open Go.RowKit.Below renaming refl->zt
open Go.Utf8 renaming decode->zd1
open Go.World renaming cell?->zS
open List renaming getElem?_eq_getElem->zc,mem_of_getElem?->zq
open Nat renaming add_zero->oT,le_refl->zn,zero_mul->zbs
namespace Go.Proofs
open Go.RowKit
open Classical
def Tj(s:ByteArray):Int:=bif s.toList==[124]then 1 else bif s.toList==[38]then 2 else bif s.toList==[61,61]||s.toList==[60]then 3 else bif s.toList==[43]||s.toList==[45]then 4 else bif s.toList==[42]||s.toList==[47]then 5 else 0
def Bb(k:Int)(s:ByteArray):Int:=if Dp k=3 then(if k=25 then 6 else if k=24 then Tj s else 7)else 0
theorem Jm(k:Int)(s:ByteArray)(p q:Option Addr)(a b c d:Nat)(w:ze):zM Tryz.prog 87 #[yJ k s (.slice p a b) (.slice q c d)] w λe w'=>e=.returned (.int .i64 (Bb k s))/\w'=w.alloc (.cells #[.int .i64 k,.string s,.slice p a b,.slice q c d] 25):=by
 unfold Bb;have g:=za (DT k);by_cases j:Dp k=3
 case neg=>
  have n:(Dp k !=3)=true:=by simpa using j
  rw[if_neg j];clear j;go_enter Tryz.func87,Tryz.ntmps87;go_wp2_with (first|(go_at_call 128;refine(g.out _).mono ?_;rintro e w' ⟨rfl,f⟩;rw[f]));go_ret;exact⟨rfl,rfl⟩
 rw[if_pos j];by_cases i:k=25
 .subst i;rw[if_pos rfl];go_enter Tryz.func87,Tryz.ntmps87;go_wp2_with (first|(go_at_call 128;refine(g.out _).mono ?_;rintro e w' ⟨rfl,f⟩;rw[f]));go_ret;exact⟨rfl,rfl⟩
 rw[if_neg i];by_cases h:k=24
 .subst h;rw[if_pos rfl];unfold Tj;rcases zN (s.toList==[124])with b0|b0
  .simp only[b0,cond_true,cond_false,lJ,lK,lL];go_enter Tryz.func87,Tryz.ntmps87;go_wp2_with (first|(go_at_call 128;refine(g.out _).mono ?_;rintro e w' ⟨rfl,f⟩;rw[f]));go_ret;exact⟨rfl,rfl⟩
  rcases zN (s.toList==[38])with b1|b1
  .simp only[b0,b1,cond_true,cond_false,lJ,lK,lL];go_enter Tryz.func87,Tryz.ntmps87;go_wp2_with (first|(go_at_call 128;refine(g.out _).mono ?_;rintro e w' ⟨rfl,f⟩;rw[f]));go_ret;exact⟨rfl,rfl⟩
  rcases zN (s.toList==[61,61])with b2|b2
  .simp only[b0,b1,b2,cond_true,cond_false,lJ,lK,lL];go_enter Tryz.func87,Tryz.ntmps87;go_wp2_with (first|(go_at_call 128;refine(g.out _).mono ?_;rintro e w' ⟨rfl,f⟩;rw[f]));go_ret;exact⟨rfl,rfl⟩
  rcases zN (s.toList==[60])with b3|b3
  .simp only[b0,b1,b2,b3,cond_true,cond_false,lJ,lK,lL];go_enter Tryz.func87,Tryz.ntmps87;go_wp2_with (first|(go_at_call 128;refine(g.out _).mono ?_;rintro e w' ⟨rfl,f⟩;rw[f]));go_ret;exact⟨rfl,rfl⟩
  rcases zN (s.toList==[43])with b4|b4
  .simp only[b0,b1,b2,b3,b4,cond_true,cond_false,lJ,lK,lL];go_enter Tryz.func87,Tryz.ntmps87;go_wp2_with (first|(go_at_call 128;refine(g.out _).mono ?_;rintro e w' ⟨rfl,f⟩;rw[f]));go_ret;exact⟨rfl,rfl⟩
  rcases zN (s.toList==[45])with b5|b5
  .simp only[b0,b1,b2,b3,b4,b5,cond_true,cond_false,lJ,lK,lL];go_enter Tryz.func87,Tryz.ntmps87;go_wp2_with (first|(go_at_call 128;refine(g.out _).mono ?_;rintro e w' ⟨rfl,f⟩;rw[f]));go_ret;exact⟨rfl,rfl⟩
  rcases zN (s.toList==[42])with b6|b6
  .simp only[b0,b1,b2,b3,b4,b5,b6,cond_true,cond_false,lJ,lK,lL];go_enter Tryz.func87,Tryz.ntmps87;go_wp2_with (first|(go_at_call 128;refine(g.out _).mono ?_;rintro e w' ⟨rfl,f⟩;rw[f]));go_ret;exact⟨rfl,rfl⟩
  rcases zN (s.toList==[47])with b7|b7
  .simp only[b0,b1,b2,b3,b4,b5,b6,b7,cond_true,cond_false,lJ,lK,lL];go_enter Tryz.func87,Tryz.ntmps87;go_wp2_with (first|(go_at_call 128;refine(g.out _).mono ?_;rintro e w' ⟨rfl,f⟩;rw[f]));go_ret;exact⟨rfl,rfl⟩
  simp only[b0,b1,b2,b3,b4,b5,b6,b7,cond_true,cond_false,lJ,lK,lL];go_enter Tryz.func87,Tryz.ntmps87;go_wp2_with (first|(go_at_call 128;refine(g.out _).mono ?_;rintro e w' ⟨rfl,f⟩;rw[f]));go_ret;exact⟨rfl,rfl⟩
 .rw[if_neg h];have l:(k==25)=false:=by simpa using i
  have m:(k==24)=false:=by simpa using h
  go_enter Tryz.func87,Tryz.ntmps87;go_wp2_with (first|(go_at_call 128;refine(g.out _).mono ?_;rintro e w' ⟨rfl,f⟩;rw[f]));go_ret;exact⟨rfl,rfl⟩
def lev(ks:List T)(i:Nat):Int:=((ks[i]?).map λa=>Bb a.k a.s).getD 0
theorem Qw{ks:List T}{i:Nat}{a:T}(h:ks[i]?=some a):lev ks i=Bb a.k a.s:=by simp[lev,h]
def GZ(k:Int)(s:ByteArray)(ks:List T):Bool:=
 if k=24 then !(decide (lev ks 0<Bb k s)||(decide (lev ks 0=Bb k s)&&decide (Bb k s=3)))&&decide (lev ks 1>Bb k s)
 else if k=25 then decide (lev ks 0>=6)else if k=21 then decide (lev ks 0=7)else true
def LvS(B b off:Nat)(W1:ze)(s:ByteArray)(gv kv:zg)(x y:T)(gx kx gy ky:zg)(w':ze):Prop:=w'.cell? ⟨B,0,none⟩=some (.int .i64 24)/\w'.cell? ⟨B,1,none⟩=some (.string s)/\w'.cell? ⟨B,2,none⟩=some gv/\w'.cell? ⟨B,3,none⟩=some kv/\w'.cell? ⟨b,off,none⟩=some (.int .i64 x.k)/\w'.cell? ⟨b,off+1,none⟩=some (.string x.s)/\w'.cell? ⟨b,off+2,none⟩=some gx/\w'.cell? ⟨b,off+3,none⟩=some kx/\w'.cell? ⟨b,off+4,none⟩=some (.int .i64 y.k)/\w'.cell? ⟨b,off+5,none⟩=some (.string y.s)/\w'.cell? ⟨b,off+6,none⟩=some gy/\w'.cell? ⟨b,off+7,none⟩=some ky/\b<W1.heap.size/\W1.heap.size=B+1/\Below (B+1) W1 w'
theorem LvS.below{B b off:Nat}{W1:ze}{s:ByteArray}{gv kv:zg}{x y:T}{gx kx gy ky:zg}{w' w'':ze}(h:LvS B b off W1 s gv kv x y gx kx gy ky w')(hb:Below w'.heap.size w' w''):LvS B b off W1 s gv kv x y gx kx gy ky w'':=by
 obtain⟨r,t,k,g,m,w,v,j,n,l,i,z,f,o,a⟩:=h;have q:=a.size;have c:b<w'.heap.size:=by omega
 have d:B<w'.heap.size:=by omega
 exact⟨(hb.cell (p:=⟨B,_,none⟩) d).trans r,(hb.cell (p:=⟨B,_,none⟩) d).trans t,(hb.cell (p:=⟨B,_,none⟩) d).trans k,(hb.cell (p:=⟨B,_,none⟩) d).trans g,(hb.cell (p:=⟨b,_,none⟩) c).trans m,(hb.cell (p:=⟨b,_,none⟩) c).trans w,(hb.cell (p:=⟨b,_,none⟩) c).trans v,(hb.cell (p:=⟨b,_,none⟩) c).trans j,(hb.cell (p:=⟨b,_,none⟩) c).trans n,(hb.cell (p:=⟨b,_,none⟩) c).trans l,(hb.cell (p:=⟨b,_,none⟩) c).trans i,(hb.cell (p:=⟨b,_,none⟩) c).trans z,f,o,a.trans (hb.mono (by omega))⟩
theorem MO(k:Int)(s:ByteArray)(g:List ByteArray)(ks:List T)(gv kv:zg)(w:ze)(hl:(T.mk k s g ks).Lies w gv kv)(h2:k=24->2<=ks.length)(h1:k=25\/k=21->1<=ks.length)(hn:ks.length<=1000):zM Tryz.prog 57 #[yJ k s gv kv] w λe w'=>e=.returned (.bool (GZ k s ks))/\Below w.heap.size w w':=by
 obtain⟨hg,hk⟩:=T.lies_iff.1 hl;obtain⟨p,c,rfl⟩:=hk.slice;obtain⟨m,j,rfl⟩:=hg.slice;have Q:=ya (w:=w) (.cells #[.int .i64 k,.string s,.slice m g.length j,.slice p ks.length c] 25);have r:=hk.below Q;have x:=za Q;have Z:=za (λk s p q a b c d w=>Jm k s p q a b c d w);clear hg hk hl Q;unfold GZ;by_cases L:k=24
 .subst L;have h2:=h2 rfl;rw[if_pos rfl];obtain⟨a,G⟩:∃a,ks[0]?=some a:=⟨ks[0],zc (by omega)⟩
  obtain⟨l,M⟩:∃a,ks[1]?=some a:=⟨ks[1],zc (by omega)⟩
  rw[Qw G,Qw M];obtain⟨b,f,rfl,hb,X,V,J,R,N,P,i⟩:=r.at G;obtain⟨b',am,e,_,aq,az,f0,f1,f2,f3,D⟩:=r.at M;injection e with e
  injection e with e1 e2
  subst e1 e2;obtain⟨o,t,rfl⟩:=i.gaps.slice;obtain⟨n,v,rfl⟩:=i.kids.slice;obtain⟨E,A,rfl⟩:=D.gaps.slice;obtain⟨C,z,rfl⟩:=D.kids.slice;simp only[zbs,oT,Nat.one_mul]at J R N P f0 f1 f2 f3;have hx:=(eN w (.cells #[.int .i64 24,.string s,.slice m g.length j,.slice (some ⟨b,f,none⟩) ks.length c] 25)).1;have av:LvS w.heap.size b f (w.alloc (.cells #[.int .i64 24,.string s,.slice m g.length j,.slice (some ⟨b,f,none⟩) ks.length c] 25)) s (.slice m g.length j) (.slice (some ⟨b,f,none⟩) ks.length c) a l (.slice o a.g.length t) (.slice n a.ks.length v) (.slice E l.g.length A) (.slice C l.ks.length z) ((w.alloc (.cells #[.int .i64 24,.string s,.slice m g.length j,.slice (some ⟨b,f,none⟩) ks.length c] 25)).drew):=by
   refine LvS.below (w':=w.alloc (.cells #[.int .i64 24,.string s,.slice m g.length j,.slice (some ⟨b,f,none⟩) ks.length c] 25)) ?_ ((zt _ _).drew);refine⟨?_,?_,?_,?_,J,R,N,P,f0,f1,f2,f3,hb,by simp,zt _ _⟩;all_goals
    simp only[zS,hx];rfl
  have ad:=za (λk2 s2 p q i1 i2 i3 i4(wc:ze)(h:LvS w.heap.size b f (w.alloc (.cells #[.int .i64 24,.string s,.slice m g.length j,.slice (some ⟨b,f,none⟩) ks.length c] 25)) s (.slice m g.length j) (.slice (some ⟨b,f,none⟩) ks.length c) a l (.slice o a.g.length t) (.slice n a.ks.length v) (.slice E l.g.length A) (.slice C l.ks.length z) wc)=>(Jm k2 s2 p q i1 i2 i3 i4 wc).mono (R':=λe w'=>e=.returned (.int .i64 (Bb k2 s2))/\LvS w.heap.size b f (w.alloc (.cells #[.int .i64 24,.string s,.slice m g.length j,.slice (some ⟨b,f,none⟩) ks.length c] 25)) s (.slice m g.length j) (.slice (some ⟨b,f,none⟩) ks.length c) a l (.slice o a.g.length t) (.slice n a.ks.length v) (.slice E l.g.length A) (.slice C l.ks.length z) w') (λ_ _ ⟨e1,e2⟩=>⟨e1,e2▸h.below (ya _)⟩));clear J R N P f0 f1 f2 f3 hx i D r G M;have H:(1:Int)<(ks.length:Int):=by omega
  have B:1<ks.length:=by omega
  have af:0<ks.length:=by omega
  go_enter Tryz.func57,Tryz.ntmps57;go_wp2;go_region_held (λw'=>w'.cell? ⟨w.heap.size,0,none⟩=some (.int .i64 24)/\w'.cell? ⟨w.heap.size,1,none⟩=some (.string s)/\w'.cell? ⟨w.heap.size,2,none⟩=some (.slice m g.length j)/\w'.cell? ⟨w.heap.size,3,none⟩=some (.slice (some ⟨b,f,none⟩) ks.length c)/\w'.cell? ⟨b,f,none⟩=some (.int .i64 a.k)/\w'.cell? ⟨b,f+1,none⟩=some (.string a.s)/\w'.cell? ⟨b,f+2,none⟩=some (.slice o a.g.length t)/\w'.cell? ⟨b,f+3,none⟩=some (.slice n a.ks.length v)/\w'.cell? ⟨b,f+4,none⟩=some (.int .i64 l.k)/\w'.cell? ⟨b,f+5,none⟩=some (.string l.s)/\w'.cell? ⟨b,f+6,none⟩=some (.slice E l.g.length A)/\w'.cell? ⟨b,f+7,none⟩=some (.slice C l.ks.length z)/\b<(w.alloc (.cells #[.int .i64 24,.string s,.slice m g.length j,.slice (some ⟨b,f,none⟩) ks.length c] 25)).heap.size/\(w.alloc (.cells #[.int .i64 24,.string s,.slice m g.length j,.slice (some ⟨b,f,none⟩) ks.length c] 25)).heap.size=w.heap.size+1/\Below (w.heap.size+1) (w.alloc (.cells #[.int .i64 24,.string s,.slice m g.length j,.slice (some ⟨b,f,none⟩) ks.length c] 25)) w') (first|assumption|(change LvS w.heap.size b f (w.alloc (.cells #[.int .i64 24,.string s,.slice m g.length j,.slice (some ⟨b,f,none⟩) ks.length c] 25)) s (.slice m g.length j) (.slice (some ⟨b,f,none⟩) ks.length c) a l (.slice o a.g.length t) (.slice n a.ks.length v) (.slice E l.g.length A) (.slice C l.ks.length z) _;assumption)) (first|(go_at_call 87;refine(ad.out _ _ _ _ _ _ _ _ _ (by unfold LvS;assumption)).mono ?_;rintro e w' ⟨rfl,hS⟩));obtain⟨a0,a1,a2,a3,_,_,_,_,y0,y1,y2,y3,i,hs,F⟩:=hS;have W:=F.size;have y:eW (Below w.heap.size w w'/\w.heap.size<=w'.heap.size):=za ⟨x.out.trans (F.mono (by omega)),by omega⟩;clear F i hs W;by_cases Y:Bb a.k a.s<Bb 24 s
  .have d1:decide (Bb a.k a.s<Bb 24 s)=true:=by simpa using Y
   go_wp2;go_ret;exact⟨yA (by simp[Y]),y.out.1⟩
  have d1:decide (Bb a.k a.s<Bb 24 s)=false:=by simpa using Y
  by_cases U:Bb a.k a.s=Bb 24 s
  .have d2:(Bb a.k a.s==Bb 24 s)=true:=by simpa using U
   by_cases q3:Bb 24 s=3
   .have d3:(Bb 24 s==3)=true:=by simpa using q3
    go_wp2;go_ret;exact⟨yA (by simp[U,q3]),y.out.1⟩
   .have d3:(Bb 24 s==3)=false:=by simpa using q3
    go_wp2_with (first|(go_at_call 87;refine(Z.out _ _ _ _ _ _ _ _ _).mono ?_;rintro e ae ⟨rfl,S⟩;rw[S]));go_ret;exact⟨yA (by simp[U,q3]),y.out.1.trans ((ya _).mono y.out.2)⟩
  .have d2:(Bb a.k a.s==Bb 24 s)=false:=by simpa using U
   go_wp2_with (first|(go_at_call 87;refine(Z.out _ _ _ _ _ _ _ _ _).mono ?_;rintro e ae ⟨rfl,S⟩;rw[S]));go_ret;exact⟨yA (by simp[Y,U]),y.out.1.trans ((ya _).mono y.out.2)⟩
 rw[if_neg L];have ay:(k==24)=false:=by simpa using L
 by_cases I:k=25
 .subst I;rw[if_pos rfl];have h1:=h1 (by omega);obtain⟨a,G⟩:∃a,ks[0]?=some a:=⟨ks[0],zc (by omega)⟩
  rw[Qw G];obtain⟨b,f,rfl,hb,X,V,J,R,N,P,i⟩:=r.at G;obtain⟨o,t,rfl⟩:=i.gaps.slice;obtain⟨n,v,rfl⟩:=i.kids.slice;simp only[zbs,oT]at J R N P;clear i r G;have H:(0:Int)<(ks.length:Int):=by omega
  have B:0<ks.length:=by omega
  go_enter Tryz.func57,Tryz.ntmps57;go_wp2_with (first|(go_at_call 87;refine(Z.out _ _ _ _ _ _ _ _ _).mono ?_;rintro e w' ⟨rfl,S⟩;rw[S]));go_ret;exact⟨rfl,x.out.trans ((ya _).mono x.out.size)⟩
 rw[if_neg I];have au:(k==25)=false:=by simpa using I
 by_cases O:k=21
 .subst O;rw[if_pos rfl];have h1:=h1 (by omega);obtain⟨a,G⟩:∃a,ks[0]?=some a:=⟨ks[0],zc (by omega)⟩
  rw[Qw G];obtain⟨b,f,rfl,hb,X,V,J,R,N,P,i⟩:=r.at G;obtain⟨o,t,rfl⟩:=i.gaps.slice;obtain⟨n,v,rfl⟩:=i.kids.slice;simp only[zbs,oT]at J R N P;clear i r G;have H:(0:Int)<(ks.length:Int):=by omega
  have B:0<ks.length:=by omega
  go_enter Tryz.func57,Tryz.ntmps57;go_wp2_with (first|(go_at_call 87;refine(Z.out _ _ _ _ _ _ _ _ _).mono ?_;rintro e w' ⟨rfl,S⟩;rw[S]));go_ret;exact⟨yA (by rw[iy];simp),x.out.trans ((ya _).mono x.out.size)⟩
 rw[if_neg O];have aw:(k==21)=false:=by simpa using O
 go_enter Tryz.func57,Tryz.ntmps57;go_wp2;go_ret;exact⟨rfl,x.out⟩
def Fz(c:Int):Bool:=decide (97<=c/\c<=122)||decide (65<=c/\c<=90)||decide (c=95)
def I4(c:Int):Bool:=decide (48<=c/\c<=57)
theorem Cr(c:Int)(w:ze):zM Tryz.prog 131 #[.int .i32 c] w λe w'=>e=.returned (.bool (Fz c))/\w'=w:=by
 go_enter Tryz.func131,Tryz.ntmps131;go_wp2;all_goals
  go_ret;refine⟨yA ?_,rfl⟩;rw[iy];simp[Fz];try omega
theorem FR(c:Int)(w:ze):zM Tryz.prog 132 #[.int .i32 c] w λe w'=>e=.returned (.bool (I4 c))/\w'=w:=by
 go_enter Tryz.func132,Tryz.ntmps132;go_wp2;all_goals
  go_ret;refine⟨yA ?_,rfl⟩;rw[iy];simp[I4];try omega
def Gb(s:ByteArray):Bool:=s.toList==[102,110]||s.toList==[99,108,97,115,115]||s.toList==[99,111,110,115,116]||s.toList==[108,101,116]||s.toList==[114,101,116,117,114,110]||s.toList==[105,102]||s.toList==[101,108,115,101]||s.toList==[119,104,105,108,101]||s.toList==[110,101,119]||s.toList==[115,101,108,102]||s.toList==[116,114,117,101]||s.toList==[102,97,108,115,101]
theorem LU (s : ByteArray) (w : ze) : zM Tryz.prog 130 #[.string s] w fun e w' => e = .returned (.bool (Gb s)) ∧ w' = w := by
  go_enter Tryz.func130, Tryz.ntmps130
  go_wp2
  all_goals
    go_ret
    refine ⟨yA ?_, rfl⟩
    simp only [Gb, *, lJ, lK, lL] <;> simp_all
def okN(j:Nat)(c:Int):Bool:=Fz c||(decide (j≠0)&&I4 c)
theorem Vc{j:Nat}{c:Int}(h:128<=c):okN j c=false:=by simp[okN,Fz,I4];omega
noncomputable def KV(s:ByteArray):Bool:=decide (∀j(hj:j<s.size),okN j ((s[j]'hj).toNat:Int)=true)
theorem Id{s:ByteArray}{i:Nat}(hi:i<s.size)(h:okN i ((s[i]'hi).toNat:Int)=false):KV s=false:=by unfold KV;rw[decide_eq_false_iff_not];intro g;rw[g i hi]at h;cases h
noncomputable def P7(s:ByteArray):Bool:= !s.toList.isEmpty&& !decide ((s.size:Int)>32)&& !Gb s&&KV s
theorem E0{w:ze}{s:ByteArray}{p:Nat}:Below w.heap.size w (w.iter s p):=(zt _ _).alloc (zn _) _
theorem PD(s:ByteArray)(w:ze)(hs:s.size<=9223372036854775807):zM Tryz.prog 88 #[.string s] w λe w'=>e=.returned (.bool (P7 s))/\Below w.heap.size w w':=by
 have m:=za (LU s);unfold P7;rcases zN s.toList.isEmpty with h1|h1
 .go_enter Tryz.func88,Tryz.ntmps88;go_wp2;go_ret;exact⟨yA (by simp[h1]),zt _ _⟩
 rcases zN (decide ((s.size:Int)>32))with h2|h2
 .go_enter Tryz.func88,Tryz.ntmps88;go_wp2;go_ret;exact⟨yA (by rw[h2];simp),zt _ _⟩
 rcases zN (Gb s)with h3|h3
 .go_enter Tryz.func88,Tryz.ntmps88;go_wp2_with (first|(go_at_call 130;refine(m.out _).mono ?_;rintro e w' ⟨rfl,b⟩;rw[b]));go_ret;exact⟨yA (by rw[h3];simp),zt _ _⟩
 have q:(!s.toList.isEmpty&& !decide ((s.size:Int)>32)&& !Gb s&&KV s)=KV s:=by rw[h1,h2,h3];simp
 rw[q];clear q;go_enter Tryz.func88,Tryz.ntmps88;go_wp2_with (first|(go_at_call 130;refine(m.out _).mono ?_;rintro e w' ⟨rfl,b⟩;rw[b]));clear h1 h2 h3 m;go_loopw [4] (λ_ w'=>∃k:Nat,k<=s.size/\(∀j(hj:j<s.size),j<k->okN j ((s[j]'hj).toNat:Int)=true)/\w'=w.iter s k) (λ_ w'=>s.size-w'.iterPos w.heap.size)
 case atStart=>exact⟨0,by omega,λj _ h=>by omega,rfl⟩
 case round=>
  obtain⟨k,z,f,rfl⟩:=hrel;have i:=za f;clear f;by_cases a:k<s.size
  .have t:(s[k]'a).toNat<256:=(s[k]'a).toNat_lt;by_cases v:(s[k]'a).toNat<128
   .have d:∀ty,(zbJ (.pointer (some ⟨w.heap.size,0,none⟩)) true ty).run Tryz.prog (w.iter s k)=_:=λty=>run_next_ascii w s k ty a v;have g:=za (λh=>Id a h);have c:eW (okN k ((s[k]'a).toNat:Int)=true->∀j(hj:j<s.size),j<k+1->okN j ((s[j]'hj).toNat:Int)=true):=za (λh j hj hjk=>by
     by_cases e:j=k
     .subst e;exact h
     .exact i.out j hj (by omega))
    rcases zN (Fz ((s[k]'a).toNat:Int))with l1|l1
    .have o:=l1;go_wp2_with (first|(go_at_call 131;refine(Cr _ _).mono ?_;rintro e w' ⟨rfl,b⟩;rw[b,o]));go_roundw
     case rel=>exact⟨k+1,by omega,c.out (by simp[okN,l1]),rfl⟩
     case measure=>simp;omega
    .by_cases n:k=0
     .subst n;go_wp2_with (first|(go_at_call 131;refine(Cr _ _).mono ?_;rintro e w' ⟨rfl,b⟩;rw[b,l1]));go_ret;exact⟨yA (g.out (by simp[okN,l1])).symm,E0⟩
     .have y:((k:Int)==0)=false:=by simpa using n
      rcases zN (I4 ((s[k]'a).toNat:Int))with l2|l2
      .go_wp2_with (first|(go_at_call 131;refine(Cr _ _).mono ?_;rintro e w' ⟨rfl,b⟩;rw[b,l1])|(go_at_call 132;refine(FR _ _).mono ?_;rintro e w' ⟨rfl,b⟩;rw[b,l2]));go_roundw
       case rel=>exact⟨k+1,by omega,c.out (by simp[okN,l2,n]),rfl⟩
       case measure=>simp;omega
      .go_wp2_with (first|(go_at_call 131;refine(Cr _ _).mono ?_;rintro e w' ⟨rfl,b⟩;rw[b,l1])|(go_at_call 132;refine(FR _ _).mono ?_;rintro e w' ⟨rfl,b⟩;rw[b,l2]));go_ret;exact⟨yA (g.out (by simp[okN,l1,l2])).symm,E0⟩
   .obtain⟨x,_⟩:=decode_high s k a (by omega);have r:Fz ((zd1 s k).1:Int)=false:=by simp[Fz];omega
    have l:I4 ((zd1 s k).1:Int)=false:=by simp[I4];omega
    have p:=za (Id a (Vc (by omega)));have d:∀ty,(zbJ (.pointer (some ⟨w.heap.size,0,none⟩)) true ty).run Tryz.prog (w.iter s k)=_:=λty=>run_next_any w s k ty a;go_wp2_with (first|(go_at_call 131;refine(Cr _ _).mono ?_;rintro e w' ⟨rfl,b⟩;rw[b,r])|(go_at_call 132;refine(FR _ _).mono ?_;rintro e w' ⟨rfl,b⟩;rw[b,l]));all_goals
     go_ret;exact⟨yA p.out.symm,E0⟩
  .have d:∀ty,(zbJ (.pointer (some ⟨w.heap.size,0,none⟩)) true ty).run Tryz.prog (w.iter s k)=_:=λty=>run_next_end w s k ty a;go_wp2;go_ret;exact⟨yA (by symm;unfold KV;rw[decide_eq_true_iff];exactλj hj=>i.out j hj (by omega)),E0⟩
def at8(s:ByteArray)(j:Nat):Int:=((s.data[j]?.getD 0).toNat:Nat)
theorem S7{s:ByteArray}{j:Nat}(h:j<s.size):at8 s j=((s[j]'h).toNat:Nat):=by unfold at8;have a:j<s.data.size:=h;rw[Array.getElem?_eq_getElem a];rfl
def QH(s:ByteArray):Nat->Int
 |0=>0
 |j+1=>QH s j*10+(at8 s j-48)
theorem S5(s:ByteArray):∀j,(∀i,i<j->48<=at8 s i/\at8 s i<=57)->0<=QH s j/\QH s j<(10^j:Nat)
 |0,_=>by simp[QH]
 |j+1,h=>by have h1:=S5 s j λi hi=>h i (by omega);have a:=h j (by omega);rw[QH,Nat.pow_succ];omega
noncomputable def FX(s:ByteArray):Bool:=decide (∀j,j<s.size->48<=at8 s j/\at8 s j<=57)
noncomputable def XG(s:ByteArray):Bool:= !s.toList.isEmpty&&decide (s.size<=13)&& !(decide (1<s.size)&&decide (at8 s 0=48))&&FX s&&decide (QH s s.size<=1000000000000)
theorem QG(s:ByteArray)(w:ze):∃cap w1,(convert 9 138 (.string s)).run Tryz.prog w=.ok (.slice (some ⟨w.heap.size,0,none⟩) s.size cap) w1/\(∀k,k<s.size->w1.cell? ⟨w.heap.size,k,none⟩=some (.int .u8 (at8 s k)))/\Below w.heap.size w w1:=by
 refine⟨_,_,run_bytes_of_string (P:=Tryz.prog) w 9 138 5 s Tryz.underlying9 Tryz.underlying138 Tryz.underlying5,λk hk=>?_,?_⟩
 .rw[S7 hk];have:=bytesRow_at s (grownCap w s.size 0 5) k hk;have b:=(eN w.drew (.cells (bytesRow s (grownCap w s.size 0 5)) 5 ((bytesRow s (grownCap w s.size 0 5)).size,(bytesRow s (grownCap w s.size 0 5)).size+1))).1;have a:(w.drew.alloc (.cells (bytesRow s (grownCap w s.size 0 5)) 5 ((bytesRow s (grownCap w s.size 0 5)).size,(bytesRow s (grownCap w s.size 0 5)).size+1))).heap[w.heap.size]?=some (.cells (bytesRow s (grownCap w s.size 0 5)) 5 ((bytesRow s (grownCap w s.size 0 5)).size,(bytesRow s (grownCap w s.size 0 5)).size+1)):=b;simp only[zS,a];exact this
 .exact((zt _ _).drew).alloc (zn _) _
theorem K4(s:ByteArray)(w:ze)(hs:s.size<=9223372036854775807):zM Tryz.prog 89 #[.string s] w λe w'=>e=.returned (.bool (XG s))/\Below w.heap.size w w':=by
 unfold XG;rcases zN s.toList.isEmpty with l|l
 .go_enter Tryz.func89,Tryz.ntmps89;go_wp2;go_ret;exact⟨yA (by rw[l];simp),zt _ _⟩
 by_cases y:s.size<=13
 case neg=>
  have G:decide ((s.size:Int)>13)=true:=by simp;omega
  go_enter Tryz.func89,Tryz.ntmps89;go_wp2;go_ret;exact⟨yA (by simp[y]),zt _ _⟩
 have G:decide ((s.size:Int)>13)=false:=by simp;omega
 have k:0<s.size:=by
  rw[IB]at l;have l:s≠ .empty:=by simpa using l
  rcases Nat.eq_zero_or_pos s.size with h|h
  .exact absurd (Vt (b:=.empty) (List.eq_nil_of_length_eq_zero (by simpa using h))) l
  .exact h
 have p:=S7 k;by_cases r:1<s.size/\at8 s 0=48
 .have W:decide ((s.size:Int)>1)=true:=by simp;omega
  have U:(((s[0]'k).toNat:Int)==48)=true:=by rw[<-p];simp[r.2]
  go_enter Tryz.func89,Tryz.ntmps89;go_wp2;go_ret;exact⟨yA (by simp[r.1,r.2]),zt _ _⟩
 have m:(!s.toList.isEmpty&&decide (s.size<=13)&& !(decide (1<s.size)&&decide (at8 s 0=48))&&FX s&&decide (QH s s.size<=1000000000000))=(FX s&&decide (QH s s.size<=1000000000000)):=by
  have:(decide (1<s.size)&&decide (at8 s 0=48))=false:=by
   rw[Bool.and_eq_false_iff];by_cases h:1<s.size
   .exact .inr (by simpa usingλe=>r ⟨h,e⟩)
   .exact .inl (by simpa using h)
  rw[l,this];simp[y]
 rw[m];have E:∀{Q:Prop},(decide ((s.size:Int)>1)=false->Q)->(decide ((s.size:Int)>1)=true->(((s[0]'k).toNat:Int)==48)=false->Q)->Q:=by
  intro Q f g;by_cases h:1<s.size
  .exact g (by simp;omega) (by rw[<-p];simp;exactλe=>r ⟨h,e⟩)
  .exact f (by simp;omega)
 obtain⟨N,T,q,a,o⟩:=QG s w;have R:=za a;have C:=za o;have L:=za (S5 s);clear a o m r p;refine E (λd=>?_) (λd d'=>?_);all_goals
  clear E;go_enter Tryz.func89,Tryz.ntmps89;go_wp2;clear q l G;go_loop [3,26] (λn i=>∃j:Nat,j<=s.size/\n=.int .i64 (QH s j)/\(∀i,i<j->48<=at8 s i/\at8 s i<=57)/\i=.int .i64 j) (λ_ i=>s.size-(intOf i).toNat)
  case atStart=>exact⟨0,by omega,rfl,λi h=>by omega,rfl⟩
  case round=>
   obtain⟨j,V,rfl,A,rfl⟩:=hrel;obtain⟨X,O⟩:=L.out j A;have F:=za A;clear A;by_cases x:j<s.size
   .have Y:=R.out j x;have t:(10^j:Nat)<=10^12:=Nat.pow_le_pow_right (by omega) (by omega);have J:QH s j<1000000000000:=by
     have:((10^j:Nat):Int)<=((10^12:Nat):Int):=by exact_mod_cast t
     have e:((10^12:Nat):Int)=1000000000000:=by decide
     omega
    clear O t;have H:eW (¬(48<=at8 s j/\at8 s j<=57)->FX s=false):=za (λh=>by unfold FX;rw[decide_eq_false_iff_not];exactλg=>h (g j x));have S:eW (QH s (j+1)=QH s j*10+(at8 s j-48)):=za rfl;have B:eW (48<=at8 s j->at8 s j<=57->∀i,i<j+1->48<=at8 s i/\at8 s i<=57):=za (λh h' i hi=>by
     by_cases e:i=j
     .subst e;exact⟨h,h'⟩
     .exact F.out i (by omega))
    generalize QH s j=v at*;generalize at8 s j=c at*;by_cases D:c<48
    .have P:decide (c<48)=true:=by simpa using D
     go_wp2;go_ret;exact⟨yA (by rw[H.out (by omega)];rfl),C.out⟩
    have P:decide (c<48)=false:=by simpa using D
    by_cases I:c>57
    .have M:decide (c>57)=true:=by simpa using I
     go_wp2;go_ret;exact⟨yA (by rw[H.out (by omega)];rfl),C.out⟩
    have M:decide (c>57)=false:=by simpa using I
    go_wp2;go_round
    case rel=>exact⟨j+1,by omega,by rw[S.out],B.out (by omega) (by omega),by go_num⟩
    case measure=>simp[intOf];omega
   .obtain rfl:j=s.size:=by omega
    have z:FX s=true:=by unfold FX;rw[decide_eq_true_iff];exact F.out
    go_wp2;go_ret;exact⟨yA (by first|rfl|(rw[z];simp)),C.out⟩
noncomputable def Hf(m:Nat)(s:ByteArray):Bool:=
 if Ek m=2 then(if s.toList.isEmpty then true else P7 s)else if Ek m=1 then P7 s else if Ek m=3 then XG s else true
theorem Mx(m:Nat)(t:T)(hm:t.k=m)(gv kv:zg)(w:ze)(hl:t.Lies w gv kv)(hS:Bh w)(h1:1<=m)(h27:m<27)(hs:t.s.size<=9223372036854775807):zM Tryz.prog 58 #[yJ t.k t.s gv kv] w λe w'=>e=.returned (.bool (Hf m t.s))/\Below w.heap.size w w':=by
 obtain⟨k,s,g,r⟩:=t;simp only[T.k,T.s]at hm hs;subst hm;obtain⟨j,n⟩:=T.lies_iff.1 hl;obtain⟨p,c,rfl⟩:=n.slice;obtain⟨v,q,rfl⟩:=j.slice;simp only[T.k,T.s];have d:=ya (w:=w) (.cells #[.int .i64 m,.string s,.slice v g.length q,.slice p r.length c] 25);have b:=za d;have C:=(hS.below d).text m h27;have A:(0:Int)<=(m:Int):=by omega
 have z:(m:Int)<27:=by omega
 have l:=za (λw=>PD s w hs);have o:=za (λw=>K4 s w hs);clear d j n hl hS;unfold Hf;generalize Ek m=tx at*;by_cases h:tx=2
 .subst h;rw[if_pos rfl];rcases zN s.toList.isEmpty with e|e
  .rw[if_pos e];go_enter Tryz.func58,Tryz.ntmps58;go_wp2;go_ret;exact⟨rfl,b.out⟩
  .rw[if_neg (by simp[e])];go_enter Tryz.func58,Tryz.ntmps58;go_wp2_with (first|(go_at_call 88;refine(l.out _).mono ?_;rintro e w' ⟨rfl,a⟩));go_ret;exact⟨rfl,b.out.trans (a.mono b.out.size)⟩
 rw[if_neg h];have x:(tx==2)=false:=by simpa using h
 by_cases i:tx=1
 .subst i;rw[if_pos rfl];go_enter Tryz.func58,Tryz.ntmps58;go_wp2_with (first|(go_at_call 88;refine(l.out _).mono ?_;rintro e w' ⟨rfl,a⟩));go_ret;exact⟨rfl,b.out.trans (a.mono b.out.size)⟩
 rw[if_neg i];have B:(tx==1)=false:=by simpa using i
 by_cases f:tx=3
 .subst f;rw[if_pos rfl];go_enter Tryz.func58,Tryz.ntmps58;go_wp2_with (first|(go_at_call 89;refine(o.out _).mono ?_;rintro e w' ⟨rfl,a⟩));go_ret;exact⟨rfl,b.out.trans (a.mono b.out.size)⟩
 rw[if_neg f];have y:(tx==3)=false:=by simpa using f
 go_enter Tryz.func58,Tryz.ntmps58;go_wp2;go_ret;exact⟨rfl,b.out⟩
theorem J5(s:ByteArray)(c:Int)(w:ze):zM Tryz.prog 216 #[.string s,.int .u8 c] w λe w'=>e=.returned (.int .i64 (iU s.data.toList c.toNat.toUInt8))/\w'=w:=by go_enter Tryz.func216,Tryz.ntmps216;go_wp2;rw[run_callFunc_extern Tryz.func235 (by kernel_rfl) (by kernel_rfl) (by kernel_rfl) (e:=zcf) (by kernel_rfl),Lib.run_indexByteString];simp only[Result.andThen];rw[Oper.upon_value];go_wp2;go_ret;exact⟨rfl,rfl⟩
theorem Hz(s:ByteArray)(c:Int)(w:ze):zM Tryz.prog 185 #[.string s,.int .u8 c] w λe w'=>e=.returned (.int .i64 (iU s.data.toList c.toNat.toUInt8))/\w'=w:=by have a:=za (J5 s c w);go_enter Tryz.func185,Tryz.ntmps185;go_wp2_with (first|(go_at_call 216;refine a.out.mono ?_;rintro e w' ⟨rfl,rfl⟩));go_ret;exact⟨rfl,rfl⟩
def EO(s p:ByteArray):Bool:=decide (p.size<=s.size)&&((s.extract 0 p.size).toList==p.toList)
theorem Lw(s p:ByteArray)(w:ze)(hs:s.size<=9223372036854775807)(hp:p.size<=9223372036854775807):zM Tryz.prog 154 #[.string s,.string p] w λe w'=>e=.returned (.bool (EO s p))/\w'=w:=by
 by_cases h:p.size<=s.size
 .have b:(0:Int)<=(p.size:Int):=by omega
  have a:(p.size:Int)<=(s.size:Int):=by omega
  go_enter Tryz.func154,Tryz.ntmps154;go_wp2;go_ret;exact⟨yA (by simp[EO,h]),rfl⟩
 .have a:¬((p.size:Int)<=(s.size:Int)):=by omega
  have d:decide ((s.size:Int)>=(p.size:Int))=false:=by simp;omega
  go_enter Tryz.func154,Tryz.ntmps154;go_wp2;go_ret;exact⟨yA (by simp[EO,h]),rfl⟩
theorem EP(s p:ByteArray)(w:ze)(hs:s.size<=9223372036854775807)(hp:p.size<=9223372036854775807):zM Tryz.prog 120 #[.string s,.string p] w λe w'=>e=.returned (.bool (EO s p))/\w'=w:=by have a:=za (Lw s p w hs hp);go_enter Tryz.func120,Tryz.ntmps120;go_wp2_with (first|(go_at_call 154;refine a.out.mono ?_;rintro e w' ⟨rfl,rfl⟩));go_ret;exact⟨rfl,rfl⟩
def Ls(s:ByteArray)(a:Nat):Option Nat:=
 if at8 s a=32\/at8 s a=9\/at8 s a=10 then some (a+1)
 else if EO (s.extract a s.size) ⟨#[47,47]⟩=false then none
 else if iU (s.extract a s.size).data.toList 10<0 then none else some (a+(iU (s.extract a s.size).data.toList 10).toNat+1)
theorem UB{s:ByteArray}{a b:Nat}(h:Ls s a=some b):a<b:=by
 unfold Ls at h;split at h
 .injection h with h
  omega
 .split at h
  .cases h
  .split at h
   .cases h
   .injection h with h
    omega
def He(s:ByteArray)(a:Nat):Nat:=
 if h:a<s.size then(match e:Ls s a with|none=>a|some b=>He s b)else a
termination_by s.size-a
decreasing_by
 have:=UB e;omega
theorem KG{s:ByteArray}{a b:Nat}(h:a<s.size)(e:Ls s a=some b):He s a=He s b:=by
 rw[He,dif_pos h];split
 .rename_i e';rw[e']at e;cases e
 .rename_i b' e';rw[e']at e;injection e with e
  rw[e]
theorem KO{s:ByteArray}{a:Nat}(h:a<s.size)(e:Ls s a=none):He s a=a:=by
 rw[He,dif_pos h];split
 .rfl
 .rename_i b' e';rw[e']at e;cases e
theorem Tt{s:ByteArray}{a:Nat}(h:¬a<s.size):He s a=a:=by rw[He,dif_neg h]
theorem Ud(s:ByteArray)(a:Nat)(c:UInt8)(h:a<=s.size):iU (s.extract a s.size).data.toList c<((s.size-a:Nat):Int)\/iU (s.extract a s.size).data.toList c=-1:=by
 have d:(s.extract a s.size).data.toList.length=s.size-a:=by
  have:(s.extract a s.size).size=s.size-a:=by simp
  exact this
 rw[<-d];generalize(s.extract a s.size).data.toList=l;clear d;induction l with
 |nil=>exact .inr rfl
 |cons b l ih=>
  unfold iU;have:=zdm l c;split
  .left;simp
  .split
   .exact .inr rfl
   .left;rename_i h1 f;have f:iU l c≠-1:=by simpa using f
    simp only[List.length_cons];omega
theorem PC(x:ByteArray)(w:ze):zM Tryz.prog 161 #[.string x] w λe w'=>(∃v,e=.returned v)/\w'=w:=by go_enter Tryz.func161,Tryz.ntmps161;go_wp2;exact bodyPost_end (v:=.tuple #[]) (by simp[results,Tryz.results161,go_sem]) rfl ⟨⟨_,rfl⟩,rfl⟩
theorem Ri(s:ByteArray)(w:ze)(hs:s.size<=9223372036854775807):zM Tryz.prog 160 #[.string s,.int .i64 0,.func (.func 161) #[] #[]] w λe w'=>e=.returned (.int .i64 (He s 0))/\w'=w:=by
 go_enter Tryz.func160,Tryz.ntmps160;go_wp2;go_loop [1] (λi=>∃a:Nat,a<=s.size/\He s 0=He s a/\i=.int .i64 a) (λi=>s.size-(intOf i).toNat)
 case atStart=>exact⟨0,by omega,rfl,rfl⟩
 case round=>
  obtain⟨a,D,d,rfl⟩:=hrel;have l:=za d;clear d;by_cases b:a<s.size
  .have r:=S7 b;have F:(0:Int)<=(a:Int):=by omega
   have I:(a:Int)<=(s.size:Int):=by omega
   by_cases j:at8 s a=32\/at8 s a=9\/at8 s a=10
   .have h:=za (KG b (by unfold Ls;rw[if_pos j]:Ls s a=some (a+1)));rw[r]at j;have z:(((s[a]'b).toNat:Int)==32)=true\/((((s[a]'b).toNat:Int)==32)=false/\(((s[a]'b).toNat:Int)==9)=true)\/((((s[a]'b).toNat:Int)==32)=false/\(((s[a]'b).toNat:Int)==9)=false/\(((s[a]'b).toNat:Int)==10)=true):=by simp only[beq_iff_eq,beq_eq_false_iff_ne];omega
    clear r j;rcases z with q|⟨q,A⟩|⟨q,A,t⟩;all_goals
     go_wp2;go_round
     case rel=>exact⟨a+1,by omega,by rw[l.out,h.out],by go_num⟩
     case measure=>simp[intOf];omega
   .have z:(((s[a]'b).toNat:Int)==32)=false/\(((s[a]'b).toNat:Int)==9)=false/\(((s[a]'b).toNat:Int)==10)=false:=by rw[r]at j;simp only[beq_eq_false_iff_ne];omega
    obtain⟨q,A,t⟩:=z;have o:(s.extract a s.size).size<=9223372036854775807:=by simp;omega
    have y:=za (EP (s.extract a s.size) ⟨#[47,47]⟩ w o (by decide));have x:=za (Hz (s.extract a s.size) 10 w);have B:=za (Ud s a 10 D);have G:=za (zdm (s.extract a s.size).data.toList 10);have k:((10:Int).toNat.toUInt8)=10:=rfl;rw[k]at x;have c:Ls s a=(if EO (s.extract a s.size) ⟨#[47,47]⟩=false then none else if iU (s.extract a s.size).data.toList 10<0 then none else some (a+(iU (s.extract a s.size).data.toList 10).toNat+1)):=by unfold Ls;rw[if_neg j]
    clear r j o k;by_cases g:EO (s.extract a s.size) ⟨#[47,47]⟩=true
    case neg=>
     have g:EO (s.extract a s.size) ⟨#[47,47]⟩=false:=by simpa using g
     rw[if_pos g]at c;have h:=za (KO b c);have f:=za g;clear c g;go_wp2_with (first|(go_at_call 120;refine y.out.mono ?_;rintro e w' ⟨rfl,d⟩;rw[d,f.out]));go_ret;exact⟨Ck (by rw[l.out,h.out]),rfl⟩
    have f:=za g;rw[if_neg (by simp[g])]at c;clear g;generalize iU (s.extract a s.size).data.toList 10=n at*;by_cases p:n<0
    .rw[if_pos p]at c;have h:=za (KO b c);have C:decide (n<0)=true:=by simpa using p
     clear c;go_wp2_with (first|(go_at_call 120;refine y.out.mono ?_;rintro e w' ⟨rfl,d⟩;rw[d,f.out])|(go_at_call 185;refine x.out.mono ?_;rintro e w' ⟨rfl,d⟩;rw[d]));go_ret;exact⟨Ck (by rw[l.out,h.out]),rfl⟩
    .rw[if_neg p]at c;have h:=za (KG b c);have C:decide (n<0)=false:=by simpa using p
     obtain⟨m,rfl⟩:∃m:Nat,n=(m:Int):=⟨n.toNat,by omega⟩
     have E:a+m<s.size:=by have:=B.out;omega
     have H:(a:Int)<=(a:Int)+(m:Int):=by omega
     have J:(a:Int)+(m:Int)<=(s.size:Int):=by omega
     clear c p;go_wp2_with (first|(go_at_call 120;refine y.out.mono ?_;rintro e w' ⟨rfl,d⟩;rw[d,f.out])|(go_at_call 185;refine x.out.mono ?_;rintro e w' ⟨rfl,d⟩;rw[d])|(go_at_call 161;refine(PC _ _).mono ?_;rintro e w' ⟨⟨v,rfl⟩,d⟩;rw[d]));go_round
     case rel=>exact⟨a+m+1,by omega,by rw[l.out,h.out];rfl,by go_num⟩
     case measure=>simp[intOf];omega
  .obtain rfl:a=s.size:=by omega
   go_wp2;go_ret;exact⟨Ck (by rw[l.out,Tt (by omega)]),rfl⟩
theorem RL(s:ByteArray)(w:ze)(hs:s.size<=9223372036854775807):zM Tryz.prog 133 #[.string s,.int .i64 0] w λe w'=>e=.returned (.int .i64 (He s 0))/\w'=w:=by have b:=za (Ri s w hs);go_enter Tryz.func133,Tryz.ntmps133;go_wp2_with (first|(go_at_call 160;refine b.out.mono ?_;rintro e w' ⟨rfl,a⟩;rw[a]));go_ret;exact⟨rfl,rfl⟩
def El(s:ByteArray):Bool:=decide (He s 0=s.size)
theorem MK(s:ByteArray)(w:ze)(hs:s.size<=9223372036854775807):zM Tryz.prog 90 #[.string s] w λe w'=>e=.returned (.bool (El s))/\w'=w:=by have b:=za (RL s w hs);go_enter Tryz.func90,Tryz.ntmps90;go_wp2_with (first|(go_at_call 133;refine b.out.mono ?_;rintro e w' ⟨rfl,a⟩;rw[a]));go_ret;exact⟨yA (by rw[El,iy];simp;omega),rfl⟩
def NS(t:T):Bool:=if t.g.length=0 then true else(t.g.all El&&decide ((t.g.length:Int)=t.own))
def GpS(B:Nat)(W1:ze)(t:T)(gv kv:zg)(w':ze):Prop:=w'.cell? ⟨B,0,none⟩=some (.int .i64 t.k)/\w'.cell? ⟨B,1,none⟩=some (.string t.s)/\w'.cell? ⟨B,2,none⟩=some gv/\w'.cell? ⟨B,3,none⟩=some kv/\W1.heap.size=B+1/\Below (B+1) W1 w'
theorem GpS.below{B:Nat}{W1:ze}{t:T}{gv kv:zg}{w' w'':ze}(h:GpS B W1 t gv kv w')(hb:Below w'.heap.size w' w''):GpS B W1 t gv kv w'':=by
 obtain⟨g,i,c,j,d,a⟩:=h;have f:=a.size;have b:B<w'.heap.size:=by omega
 exact⟨(hb.cell (p:=⟨B,_,none⟩) b).trans g,(hb.cell (p:=⟨B,_,none⟩) b).trans i,(hb.cell (p:=⟨B,_,none⟩) b).trans c,(hb.cell (p:=⟨B,_,none⟩) b).trans j,d,a.trans (hb.mono (by omega))⟩
theorem RX (t : T) (gv kv : zg) (w : ze) (hl : t.Lies w gv kv) (hS : Bh w) (hF : t.Fine) (hn : t.ks.length ≤ 300) :
    zM Tryz.prog 59 #[yJ t.k t.s gv kv] w fun e w' => e = .returned (.bool (NS t)) ∧ Below w.heap.size w w' := by
  have F : t.g.length ≤ 9223372036854775807 ∧ ∀ x ∈ t.g, x.size ≤ 9223372036854775807 := by
    obtain ⟨k, s, g, ks⟩ := t
    obtain ⟨_, M, W, _⟩ := T.fine_iff.1 hF
    exact ⟨M, W⟩
  obtain ⟨N, B⟩ := F
  have A := hl.gaps
  obtain ⟨f, a, rfl⟩ := A.slice
  obtain ⟨d, c, rfl⟩ := hl.kids.slice
  have n := ya (w := w) (.cells #[.int .i64 t.k, .string t.s, .slice f t.g.length a, .slice d t.ks.length c] 25)
  have z := (eN w (.cells #[.int .i64 t.k, .string t.s, .slice f t.g.length a, .slice d t.ks.length c] 25)).1
  have p : GpS w.heap.size (w.alloc (.cells #[.int .i64 t.k, .string t.s, .slice f t.g.length a, .slice d t.ks.length c] 25)) t (.slice f t.g.length a) (.slice d t.ks.length c) (w.alloc (.cells #[.int .i64 t.k, .string t.s, .slice f t.g.length a, .slice d t.ks.length c] 25)) := by
    refine ⟨?_, ?_, ?_, ?_, by simp, zt _ _⟩
    all_goals
      simp only [zS, z]
      rfl
  have U : eW (∀ wc, GpS w.heap.size (w.alloc (.cells #[.int .i64 t.k, .string t.s, .slice f t.g.length a, .slice d t.ks.length c] 25)) t (.slice f t.g.length a) (.slice d t.ks.length c) wc → zM Tryz.prog 77 #[yJ t.k t.s (.slice f t.g.length a) (.slice d t.ks.length c)] wc fun e w' => e = .returned (.int .i64 t.own) ∧ GpS w.heap.size (w.alloc (.cells #[.int .i64 t.k, .string t.s, .slice f t.g.length a, .slice d t.ks.length c] 25)) t (.slice f t.g.length a) (.slice d t.ks.length c) w') := za (fun wc h => by
    have v : Below w.heap.size w wc := n.trans (h.2.2.2.2.2.mono (by omega))
    exact (Nj t _ _ wc (T.Lies.below v t hl) hn (hS.below v)).mono fun _ _ ⟨e1, e2⟩ => ⟨e1, h.below e2⟩)
  have E := za (A.below n)
  have G := za n
  have D := za p
  clear z hl hS A hF n
  unfold NS
  by_cases r : t.g.length = 0
  · rw [if_pos r]
    have V : ((t.g.length : Int) == 0) = true := by simp [r]
    clear r
    obtain ⟨R, P, Q, X, _, _⟩ := p
    go_enter Tryz.func59, Tryz.ntmps59
    go_wp2
    go_ret
    exact ⟨rfl, G.out⟩
  rw [if_neg r]
  have V : ((t.g.length : Int) == 0) = false := by rw [beq_eq_false_iff_ne]; omega
  clear r
  obtain ⟨R, P, Q, X, _, _⟩ := p
  go_enter Tryz.func59, Tryz.ntmps59
  go_wp2
  go_loop [12] (fun i => ∃ j : Nat, j ≤ t.g.length ∧ (∀ x ∈ t.g.take j, El x = true) ∧ i = .int .i64 j) (fun i => t.g.length - (intOf i).toNat)
  case atStart => exact ⟨0, by omega, by simp, rfl⟩
  case round =>
    obtain ⟨j, Z, o, rfl⟩ := hrel
    have L := za o
    clear o
    by_cases C : j < t.g.length
    · obtain ⟨x, l⟩ : ∃ x, t.g[j]? = some x := ⟨t.g[j], zc C⟩
      obtain ⟨b, O, rfl, hb, Y⟩ := E.out.at l
      have J := za (fun w => MK x w (B x (zq l)))
      rcases zN (El x) with q | q
      · have H := za q
        have m : eW (∀ y ∈ t.g.take (j + 1), El y = true) := za (fun y hy => by
          rw [List.take_add_one, l] at hy
          simp only [Option.toList_some, List.mem_append, List.mem_singleton] at hy
          rcases hy with hy | rfl
          · exact L.out y hy
          · exact q)
        clear l q
        go_wp2_with (first | (go_at_call 90; refine (J.out _).mono ?_; rintro e w' ⟨rfl, I⟩; rw [I, H.out]))
        go_round
        case rel => exact ⟨j + 1, by omega, m.out, by go_num⟩
        case measure => simp [intOf]; omega
      · have H := za q
        have m : eW (t.g.all El = false) := za (by
          rw [List.all_eq_false]
          exact ⟨x, zq l, by rw [q]; simp⟩)
        clear l q
        go_wp2_with (first | (go_at_call 90; refine (J.out _).mono ?_; rintro e w' ⟨rfl, I⟩; rw [I, H.out]))
        go_ret
        exact ⟨yA (by rw [m.out]; rfl), G.out⟩
    · obtain rfl : j = t.g.length := by omega
      have m : eW (t.g.all El = true) := za (by
        rw [List.all_eq_true]
        intro x z
        exact L.out x (by rw [List.take_length]; exact z))
      have S : GpS w.heap.size (w.alloc (.cells #[.int .i64 t.k, .string t.s, .slice f t.g.length a, .slice d t.ks.length c] 25)) t (.slice f t.g.length a) (.slice d t.ks.length c) (w.alloc (.cells #[.int .i64 t.k, .string t.s, .slice f t.g.length a, .slice d t.ks.length c] 25)).drew := D.out.below ((zt _ _).drew)
      go_wp2
      go_region_held (fun w' => w'.cell? ⟨w.heap.size, 0, none⟩ = some (.int .i64 t.k) ∧ w'.cell? ⟨w.heap.size, 1, none⟩ = some (.string t.s) ∧ w'.cell? ⟨w.heap.size, 2, none⟩ = some (.slice f t.g.length a) ∧ w'.cell? ⟨w.heap.size, 3, none⟩ = some (.slice d t.ks.length c) ∧ (w.alloc (.cells #[.int .i64 t.k, .string t.s, .slice f t.g.length a, .slice d t.ks.length c] 25)).heap.size = w.heap.size + 1 ∧ Below (w.heap.size + 1) (w.alloc (.cells #[.int .i64 t.k, .string t.s, .slice f t.g.length a, .slice d t.ks.length c] 25)) w')
        (first | assumption | (change GpS w.heap.size (w.alloc (.cells #[.int .i64 t.k, .string t.s, .slice f t.g.length a, .slice d t.ks.length c] 25)) t (.slice f t.g.length a) (.slice d t.ks.length c) _; assumption))
        (first | (go_at_call 77; refine (U.out _ (by unfold GpS; assumption)).mono ?_; rintro e w' ⟨rfl, hS⟩))
      all_goals
        go_wp2
        go_ret
        exact ⟨yA (by rw [m.out, iy]; simp), G.out.trans (hS.2.2.2.2.2.mono (by omega))⟩
mutual
noncomputable def T.first:T->Int
 |.mk k s g ks=>if Bf k=false then 7 else if J4 k.toNat ks=false then 7 else if E9 k.toNat s=false then 7 else if GZ k s ks=false then 7 else if Hf k.toNat s=false then 4 else if NS (.mk k s g ks)=false then 7 else T.firstL ks
noncomputable def T.firstL:List T->Int
 |[]=>0
 |t::ts=>if t.first≠0 then t.first else T.firstL ts
end
theorem T.firstL_drop{ks:List T}{j:Nat}{t:T}(h:ks[j]?=some t):T.firstL (ks.drop j)=if t.first≠0 then t.first else T.firstL (ks.drop (j+1)):=by obtain⟨a,rfl⟩:=List.getElem?_eq_some_iff.1 h;rw[List.drop_eq_getElem_cons a,T.firstL]
theorem Iv{m:Nat}{ks:List T}(h:J4 m ks=true)(h14:m≠14):(Ah m).length<=ks.length:=by
 unfold J4 at h;rw[if_neg (by omega)]at h;by_cases a:ks.length<(Ah m).length
 .rw[if_pos a]at h;cases h
 .omega
theorem K3{m:Nat}{ks:List T}(h:J4 m ks=true):((m:Int)=24->2<=ks.length)/\((m:Int)=25\/(m:Int)=21->1<=ks.length):=by
 constructor
 .intro e;have e:m=24:=by omega
  subst e;exact Iv h (by omega)
 .rintro(e|e)
  .have e:m=25:=by omega
   subst e;exact Iv h (by omega)
  .have e:m=21:=by omega
   subst e;exact Iv h (by omega)
theorem OA:∀(t:T)(gv kv:zg)(w:ze),t.Lies w gv kv->Bh w->t.Fine->t.size<=300->zM Tryz.prog 31 #[yJ t.k t.s gv kv] w λe w'=>e=.returned (.int .i64 t.first)/\Below w.heap.size w w':=by
 refine T.ind λk s g ks ih gv kv w hl l hF h300=>?_;rw[T.size]at h300;have hn:=T.length_sizes ks;obtain⟨hg,hk⟩:=T.lies_iff.1 hl;obtain⟨ah,a6,az,a5,ac⟩:=T.fine_iff.1 hF;obtain⟨p,c,rfl⟩:=hk.slice;obtain⟨o,n,rfl⟩:=hg.slice;simp only[T.k,T.s];rw[T.first];have z:=ya (w:=w) (.cells #[.int .i64 k,.string s,.slice o g.length n,.slice p ks.length c] 25);have M:=(eN w (.cells #[.int .i64 k,.string s,.slice o g.length n,.slice p ks.length c] 25)).1;have B:GpS w.heap.size (w.alloc (.cells #[.int .i64 k,.string s,.slice o g.length n,.slice p ks.length c] 25)) (.mk k s g ks) (.slice o g.length n) (.slice p ks.length c) (w.alloc (.cells #[.int .i64 k,.string s,.slice o g.length n,.slice p ks.length c] 25)):=by
  refine⟨?_,?_,?_,?_,by simp,zt _ _⟩;all_goals
   simp only[zS,M];rfl
 have N:=za z;by_cases y:Bf k=true
 case neg=>
  have y:Bf k=false:=by simpa using y
  rw[if_pos y];clear M B z;go_enter Tryz.func31,Tryz.ntmps31;go_wp2_with (first|(go_at_call 54;go_loud (refine(yT _ _).mono ?_;rintro e w' ⟨rfl,D⟩;rw[D,y])));go_ret;exact⟨rfl,N.out⟩
 rw[if_neg (by simp[y])];have R:1<=k/\k<27:=by simpa[Bf]using y
 obtain⟨m,rfl⟩:∃m:Nat,k=(m:Int):=⟨k.toNat,by omega⟩
 have m1:1<=m:=by omega
 have Q:m<27:=by omega
 rw[show((m:Int)).toNat=m by omega];have C:eW (∀wc,GpS w.heap.size (w.alloc (.cells #[.int .i64 (m:Int),.string s,.slice o g.length n,.slice p ks.length c] 25)) (.mk (m:Int) s g ks) (.slice o g.length n) (.slice p ks.length c) wc->zM Tryz.prog 55 #[yJ (m:Int) s (.slice o g.length n) (.slice p ks.length c)] wc λe w'=>e=.returned (.bool (J4 m ks))/\GpS w.heap.size (w.alloc (.cells #[.int .i64 (m:Int),.string s,.slice o g.length n,.slice p ks.length c] 25)) (.mk (m:Int) s g ks) (.slice o g.length n) (.slice p ks.length c) w'):=za (λwc h=>by have q:Below w.heap.size w wc:=z.trans (h.2.2.2.2.2.mono (by omega));exact(RT m (.mk (m:Int) s g ks) rfl _ _ wc (T.Lies.below q _ hl) (l.below q) m1 Q (by simp only[T.ks];omega)).mono λ_ _ ⟨e1,e2⟩=>⟨e1,h.below e2⟩);have F:eW (∀wc,GpS w.heap.size (w.alloc (.cells #[.int .i64 (m:Int),.string s,.slice o g.length n,.slice p ks.length c] 25)) (.mk (m:Int) s g ks) (.slice o g.length n) (.slice p ks.length c) wc->zM Tryz.prog 56 #[yJ (m:Int) s (.slice o g.length n) (.slice p ks.length c)] wc λe w'=>e=.returned (.bool (E9 m s))/\GpS w.heap.size (w.alloc (.cells #[.int .i64 (m:Int),.string s,.slice o g.length n,.slice p ks.length c] 25)) (.mk (m:Int) s g ks) (.slice o g.length n) (.slice p ks.length c) w'):=za (λwc h=>by have q:Below w.heap.size w wc:=z.trans (h.2.2.2.2.2.mono (by omega));exact(Ld m (.mk (m:Int) s g ks) rfl _ _ wc (T.Lies.below q _ hl) (l.below q) m1 Q).mono λ_ _ ⟨e1,e2⟩=>⟨e1,h.below e2⟩);have V:eW (∀wc,GpS w.heap.size (w.alloc (.cells #[.int .i64 (m:Int),.string s,.slice o g.length n,.slice p ks.length c] 25)) (.mk (m:Int) s g ks) (.slice o g.length n) (.slice p ks.length c) wc->zM Tryz.prog 58 #[yJ (m:Int) s (.slice o g.length n) (.slice p ks.length c)] wc λe w'=>e=.returned (.bool (Hf m s))/\GpS w.heap.size (w.alloc (.cells #[.int .i64 (m:Int),.string s,.slice o g.length n,.slice p ks.length c] 25)) (.mk (m:Int) s g ks) (.slice o g.length n) (.slice p ks.length c) w'):=za (λwc h=>by have q:Below w.heap.size w wc:=z.trans (h.2.2.2.2.2.mono (by omega));exact(Mx m (.mk (m:Int) s g ks) rfl _ _ wc (T.Lies.below q _ hl) (l.below q) m1 Q ah).mono λ_ _ ⟨e1,e2⟩=>⟨e1,h.below e2⟩);have Z:eW (∀wc,GpS w.heap.size (w.alloc (.cells #[.int .i64 (m:Int),.string s,.slice o g.length n,.slice p ks.length c] 25)) (.mk (m:Int) s g ks) (.slice o g.length n) (.slice p ks.length c) wc->zM Tryz.prog 59 #[yJ (m:Int) s (.slice o g.length n) (.slice p ks.length c)] wc λe w'=>e=.returned (.bool (NS (.mk (m:Int) s g ks)))/\GpS w.heap.size (w.alloc (.cells #[.int .i64 (m:Int),.string s,.slice o g.length n,.slice p ks.length c] 25)) (.mk (m:Int) s g ks) (.slice o g.length n) (.slice p ks.length c) w'):=za (λwc h=>by have q:Below w.heap.size w wc:=z.trans (h.2.2.2.2.2.mono (by omega));exact(RX (.mk (m:Int) s g ks) _ _ wc (T.Lies.below q _ hl) (l.below q) hF (by simp only[T.ks];omega)).mono λ_ _ ⟨e1,e2⟩=>⟨e1,h.below e2⟩);by_cases E:J4 m ks=true
 case neg=>
  have E:J4 m ks=false:=by simpa using E
  rw[if_pos E];clear M;obtain⟨f,d,v,x,_,_⟩:=id B;simp only[T.k,T.s]at f d;go_enter Tryz.func31,Tryz.ntmps31;go_wp2_with (first|(go_at_call 54;go_loud (refine(yT _ _).mono ?_;rintro e w' ⟨rfl,D⟩;rw[D,y]))|(go_at_call 55;go_loud (refine(C.out _ (by assumption)).mono ?_;rintro e w' ⟨rfl,l⟩;rw[E];have a:=l;obtain⟨f,d,v,x,_,_⟩:=a;simp only[T.k,T.s]at f d)));go_ret;exact⟨rfl,N.out.trans (l.2.2.2.2.2.mono (by omega))⟩
 rw[if_neg (by simp[E])];by_cases G:E9 m s=true
 case neg=>
  have G:E9 m s=false:=by simpa using G
  rw[if_pos G];clear M;obtain⟨f,d,v,x,_,_⟩:=id B;simp only[T.k,T.s]at f d;go_enter Tryz.func31,Tryz.ntmps31;go_wp2_with (first|(go_at_call 54;go_loud (refine(yT _ _).mono ?_;rintro e w' ⟨rfl,D⟩;rw[D,y]))|(go_at_call 55;go_loud (refine(C.out _ (by assumption)).mono ?_;rintro e w' ⟨rfl,l⟩;rw[E];have a:=l;obtain⟨f,d,v,x,_,_⟩:=a;simp only[T.k,T.s]at f d))|(go_at_call 56;go_loud (refine(F.out _ (by assumption)).mono ?_;rintro e w' ⟨rfl,l⟩;rw[G];have a:=l;obtain⟨f,d,v,x,_,_⟩:=a;simp only[T.k,T.s]at f d)));go_ret;exact⟨rfl,N.out.trans (l.2.2.2.2.2.mono (by omega))⟩
 rw[if_neg (by simp[G])];have I:eW (∀wc,GpS w.heap.size (w.alloc (.cells #[.int .i64 (m:Int),.string s,.slice o g.length n,.slice p ks.length c] 25)) (.mk (m:Int) s g ks) (.slice o g.length n) (.slice p ks.length c) wc->zM Tryz.prog 57 #[yJ (m:Int) s (.slice o g.length n) (.slice p ks.length c)] wc λe w'=>e=.returned (.bool (GZ (m:Int) s ks))/\GpS w.heap.size (w.alloc (.cells #[.int .i64 (m:Int),.string s,.slice o g.length n,.slice p ks.length c] 25)) (.mk (m:Int) s g ks) (.slice o g.length n) (.slice p ks.length c) w'):=za (λwc h=>by have q:Below w.heap.size w wc:=z.trans (h.2.2.2.2.2.mono (by omega));exact(MO (m:Int) s g ks _ _ wc (T.Lies.below q _ hl) (K3 E).1 (K3 E).2 (by omega)).mono λ_ _ ⟨e1,e2⟩=>⟨e1,h.below e2⟩);by_cases O:GZ (m:Int) s ks=true
 case neg=>
  have O:GZ (m:Int) s ks=false:=by simpa using O
  rw[if_pos O];clear M;obtain⟨f,d,v,x,_,_⟩:=id B;simp only[T.k,T.s]at f d;go_enter Tryz.func31,Tryz.ntmps31;go_wp2_with (first|(go_at_call 54;go_loud (refine(yT _ _).mono ?_;rintro e w' ⟨rfl,D⟩;rw[D,y]))|(go_at_call 55;go_loud (refine(C.out _ (by assumption)).mono ?_;rintro e w' ⟨rfl,l⟩;rw[E];have a:=l;obtain⟨f,d,v,x,_,_⟩:=a;simp only[T.k,T.s]at f d))|(go_at_call 56;go_loud (refine(F.out _ (by assumption)).mono ?_;rintro e w' ⟨rfl,l⟩;rw[G];have a:=l;obtain⟨f,d,v,x,_,_⟩:=a;simp only[T.k,T.s]at f d))|(go_at_call 57;go_loud (refine(I.out _ (by assumption)).mono ?_;rintro e w' ⟨rfl,l⟩;rw[O];have a:=l;obtain⟨f,d,v,x,_,_⟩:=a;simp only[T.k,T.s]at f d)));go_ret;exact⟨rfl,N.out.trans (l.2.2.2.2.2.mono (by omega))⟩
 rw[if_neg (by simp[O])];by_cases U:Hf m s=true
 case neg=>
  have U:Hf m s=false:=by simpa using U
  rw[if_pos U];clear M;obtain⟨f,d,v,x,_,_⟩:=id B;simp only[T.k,T.s]at f d;go_enter Tryz.func31,Tryz.ntmps31;go_wp2_with (first|(go_at_call 54;go_loud (refine(yT _ _).mono ?_;rintro e w' ⟨rfl,D⟩;rw[D,y]))|(go_at_call 55;go_loud (refine(C.out _ (by assumption)).mono ?_;rintro e w' ⟨rfl,l⟩;rw[E];have a:=l;obtain⟨f,d,v,x,_,_⟩:=a;simp only[T.k,T.s]at f d))|(go_at_call 56;go_loud (refine(F.out _ (by assumption)).mono ?_;rintro e w' ⟨rfl,l⟩;rw[G];have a:=l;obtain⟨f,d,v,x,_,_⟩:=a;simp only[T.k,T.s]at f d))|(go_at_call 57;go_loud (refine(I.out _ (by assumption)).mono ?_;rintro e w' ⟨rfl,l⟩;rw[O];have a:=l;obtain⟨f,d,v,x,_,_⟩:=a;simp only[T.k,T.s]at f d))|(go_at_call 58;go_loud (refine(V.out _ (by assumption)).mono ?_;rintro e w' ⟨rfl,l⟩;rw[U];have a:=l;obtain⟨f,d,v,x,_,_⟩:=a;simp only[T.k,T.s]at f d)));go_ret;exact⟨rfl,N.out.trans (l.2.2.2.2.2.mono (by omega))⟩
 rw[if_neg (by simp[U])];by_cases X:NS (.mk (m:Int) s g ks)=true
 case neg=>
  have X:NS (.mk (m:Int) s g ks)=false:=by simpa using X
  rw[if_pos X];clear M;obtain⟨f,d,v,x,_,_⟩:=id B;simp only[T.k,T.s]at f d;go_enter Tryz.func31,Tryz.ntmps31;go_wp2_with (first|(go_at_call 54;go_loud (refine(yT _ _).mono ?_;rintro e w' ⟨rfl,D⟩;rw[D,y]))|(go_at_call 55;go_loud (refine(C.out _ (by assumption)).mono ?_;rintro e w' ⟨rfl,l⟩;rw[E];have a:=l;obtain⟨f,d,v,x,_,_⟩:=a;simp only[T.k,T.s]at f d))|(go_at_call 56;go_loud (refine(F.out _ (by assumption)).mono ?_;rintro e w' ⟨rfl,l⟩;rw[G];have a:=l;obtain⟨f,d,v,x,_,_⟩:=a;simp only[T.k,T.s]at f d))|(go_at_call 57;go_loud (refine(I.out _ (by assumption)).mono ?_;rintro e w' ⟨rfl,l⟩;rw[O];have a:=l;obtain⟨f,d,v,x,_,_⟩:=a;simp only[T.k,T.s]at f d))|(go_at_call 58;go_loud (refine(V.out _ (by assumption)).mono ?_;rintro e w' ⟨rfl,l⟩;rw[U];have a:=l;obtain⟨f,d,v,x,_,_⟩:=a;simp only[T.k,T.s]at f d))|(go_at_call 59;go_loud (refine(Z.out _ (by assumption)).mono ?_;rintro e w' ⟨rfl,l⟩;rw[X];have a:=l;obtain⟨f,d,v,x,_,_⟩:=a;simp only[T.k,T.s]at f d)));go_ret;exact⟨rfl,N.out.trans (l.2.2.2.2.2.mono (by omega))⟩
 rw[if_neg (by simp[X])];clear M;obtain⟨f,d,v,x,_,_⟩:=id B;simp only[T.k,T.s]at f d;have ap:=za (hk.below z);have aj:=za (l.below z);have S:eW ((w.alloc (.cells #[.int .i64 (m:Int),.string s,.slice o g.length n,.slice p ks.length c] 25)).heap.size=w.heap.size+1):=za (by simp);clear hl hg hk;go_enter Tryz.func31,Tryz.ntmps31;go_wp2_with (first|(go_at_call 54;go_loud (refine(yT _ _).mono ?_;rintro e w' ⟨rfl,D⟩;rw[D,y]))|(go_at_call 55;go_loud (refine(C.out _ (by assumption)).mono ?_;rintro e w' ⟨rfl,l⟩;rw[E];have a:=l;obtain⟨f,d,v,x,_,_⟩:=a;simp only[T.k,T.s]at f d))|(go_at_call 56;go_loud (refine(F.out _ (by assumption)).mono ?_;rintro e w' ⟨rfl,l⟩;rw[G];have a:=l;obtain⟨f,d,v,x,_,_⟩:=a;simp only[T.k,T.s]at f d))|(go_at_call 57;go_loud (refine(I.out _ (by assumption)).mono ?_;rintro e w' ⟨rfl,l⟩;rw[O];have a:=l;obtain⟨f,d,v,x,_,_⟩:=a;simp only[T.k,T.s]at f d))|(go_at_call 58;go_loud (refine(V.out _ (by assumption)).mono ?_;rintro e w' ⟨rfl,l⟩;rw[U];have a:=l;obtain⟨f,d,v,x,_,_⟩:=a;simp only[T.k,T.s]at f d))|(go_at_call 59;go_loud (refine(Z.out _ (by assumption)).mono ?_;rintro e w' ⟨rfl,l⟩;rw[X];have a:=l;obtain⟨f,d,v,x,_,_⟩:=a;simp only[T.k,T.s]at f d)));have aq:=za l;clear f d v x;go_loopw [34] (λi w'=>∃j:Nat,j<=ks.length/\T.firstL ks=T.firstL (ks.drop j)/\i=.int .i64 j/\Below (w.heap.size+1) (w.alloc (.cells #[.int .i64 (m:Int),.string s,.slice o g.length n,.slice p ks.length c] 25)) w') (λi _=>ks.length-(intOf i).toNat)
 case atStart=>exact⟨0,by omega,by simp,rfl,aq.out.2.2.2.2.2⟩
 case round=>
  rename_i wr hrel;obtain⟨j,hj,hf,rfl,A⟩:=hrel;have ai:w.heap.size+1<=wr.heap.size:=by have:=A.size;rw[S.out]at this;exact this
  have R:=ap.out.below (by rw[S.out];exact A);have ag:=za (aj.out.below (by rw[S.out];exact A));have W:=za A;have HF:=za hf;clear A hf;by_cases an:j<ks.length
  .obtain⟨t,Y⟩:∃t,ks[j]?=some t:=⟨ks[j],zc an⟩
   have HT:=za (T.firstL_drop Y);have am:=T.sizes_take Y;have af:T.sizes (ks.take (j+1))<=T.sizes ks:=by have:=T.sizes_append (ks.take (j+1)) (ks.drop (j+1));rw[List.take_append_drop]at this;omega
   obtain⟨b,ay,rfl,hb,a7,a4,f0,f1,f2,f3,H⟩:=R.at Y;obtain⟨ab,ad,rfl⟩:=H.gaps.slice;obtain⟨aa,ae,rfl⟩:=H.kids.slice;have J:=ya (w:=wr) (.cells #[.int .i64 t.k,.string t.s,.slice ab t.g.length ad,.slice aa t.ks.length ae] 25);have HI:=za (ih t (zq Y) _ _ (wr.alloc (.cells #[.int .i64 t.k,.string t.s,.slice ab t.g.length ad,.slice aa t.ks.length ae] 25)) (T.Lies.below J t H) (ag.out.below J) (ac t (zq Y)) (by omega));have L:=za J;clear R Y ih H J am af;generalize T.first t=r at*;by_cases hr:r=0
   .subst hr;go_wp2_with (first|(go_at_call 31;refine HI.out.mono ?_;rintro e w' ⟨rfl,P⟩));go_roundw
    case rel=>exact⟨j+1,by omega,by rw[HF.out,HT.out];simp,by go_num,W.out.trans ((L.out.trans (P.mono L.out.size)).mono ai)⟩
    case measure=>simp[intOf];omega
   .have dr:(r !=0)=true:=by simpa using hr
    go_wp2_with (first|(go_at_call 31;refine HI.out.mono ?_;rintro e w' ⟨rfl,P⟩));go_ret;exact⟨Ck (by rw[HF.out,HT.out,if_pos hr]),N.out.trans ((W.out.mono (by omega)).trans ((L.out.trans (P.mono L.out.size)).mono (by omega)))⟩
  .obtain rfl:j=ks.length:=by omega
   go_wp2;go_ret;exact⟨Ck (by rw[HF.out,List.drop_length,T.firstL]),N.out.trans (W.out.mono (by omega))⟩
noncomputable def T.check(t:T):Int:=if t.within 4000 60<0 then 3 else t.first
theorem FT(t:T)(gv kv:zg)(w:ze)(hl:t.Lies w gv kv)(hS:Bh w)(hF:t.Fine)(h300:t.size<=300):zM Tryz.prog 12 #[yJ t.k t.s gv kv] w λe w'=>e=.returned (.int .i64 t.check)/\Below w.heap.size w w':=by
 obtain⟨j,c,rfl⟩:=hl.gaps.slice;obtain⟨f,d,rfl⟩:=hl.kids.slice;have b:=ya (w:=w) (.cells #[.int .i64 t.k,.string t.s,.slice j t.g.length c,.slice f t.ks.length d] 25);have i:=za b;have q:=(eN w (.cells #[.int .i64 t.k,.string t.s,.slice j t.g.length c,.slice f t.ks.length d] 25)).1;have l:GpS w.heap.size (w.alloc (.cells #[.int .i64 t.k,.string t.s,.slice j t.g.length c,.slice f t.ks.length d] 25)) t (.slice j t.g.length c) (.slice f t.ks.length d) (w.alloc (.cells #[.int .i64 t.k,.string t.s,.slice j t.g.length c,.slice f t.ks.length d] 25)):=by
  refine⟨?_,?_,?_,?_,by simp,zt _ _⟩;all_goals
   simp only[zS,q];rfl
 have v:=za (NI t _ _ _ 4000 60 (T.Lies.below b t hl) (by omega) (by omega) (by omega) (by omega) hF);have y:eW (∀wc,Below w.heap.size w wc->zM Tryz.prog 31 #[yJ t.k t.s (.slice j t.g.length c) (.slice f t.ks.length d)] wc λe w'=>e=.returned (.int .i64 t.first)/\Below wc.heap.size wc w'):=za (λwc h=>OA t _ _ wc (T.Lies.below h t hl) (hS.below h) hF h300);have p:=za l;clear hl hS hF b q l;unfold T.check;generalize T.within t 4000 60=r at*;by_cases n:r<0
 .rw[if_pos n];have x:decide (r<0)=true:=by simpa using n
  go_enter Tryz.func12,Tryz.ntmps12;go_wp2_with (first|(go_at_call 30;refine v.out.mono ?_;rintro e w' ⟨rfl,a⟩));go_ret;exact⟨rfl,i.out.trans (a.mono i.out.size)⟩
 .rw[if_neg n];have x:decide (r<0)=false:=by simpa using n
  go_enter Tryz.func12,Tryz.ntmps12;go_wp2_with (first|(go_at_call 30;refine v.out.mono ?_;rintro e w' ⟨rfl,a⟩;have z:=p.out.below a;obtain⟨C,A,B,E,_,_⟩:=z)|(go_at_call 31;refine(y.out _ (i.out.trans (Below.mono (by assumption) i.out.size))).mono ?_;rintro e D ⟨rfl,o⟩));go_ret;have m:=i.out.trans (a.mono i.out.size);exact⟨rfl,m.trans (o.mono m.size)⟩
end Go.Proofs
