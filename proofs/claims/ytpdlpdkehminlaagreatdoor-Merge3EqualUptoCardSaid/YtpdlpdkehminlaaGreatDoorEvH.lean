/-
  Part of the proof: Operations that look at no memory, continued: comparisons, composites, lengths.
-/
import Derived.Test.YtpdlpdkehminlaaGreatDoorEvD
import Derived.Laws.Strings
set_option linter.all false
set_option maxRecDepth 100000
set_option maxHeartbeats 20000000
open Bool renaming and_eq_true->zo,false_eq_true->zH,not_false->zdA,not_true->zcg
open ByteArray renaming ext->zbb
open ForInStep renaming done->zcw,yield->zaV
open Go renaming IntKind->iB,Program->zZ,TypeId->zL,Value->zg
open Go.ByteArray renaming toList_eq->iQ
open Go.Op renaming bytesLess->oe,equalIn->oU,stringOp->lZ
open Go.Result renaming andThen_ok->zr
open Go.Sem renaming run_bind->zK,run_pure->zP
open List renaming forIn_cons->zbK,map_cons->iZ
open Nat renaming beq->zD,blt->zB,eq_of_beq_eq_true->oF
open Option renaming bind_eq_some_iff->zu,map_eq_some_iff->zh
open Option.some renaming injEq->zb
open Std.Legacy.Range renaming forIn_eq_forIn_range'->zb0,size->zb1
open UInt8 renaming lt_iff_toNat_lt->zau,ofNat->eX
namespace Go.Ev
theorem B4(a b:Int):Gh a b=(a==b):=by
 cases a<;>cases b<;>simp only[Gh]
 .rename_i m n;by_cases h:m=n
  .subst h;simp
  .rw[Fs h];symm;simp;omega
 .symm;simp
 .symm;simp
 .rename_i m n;by_cases h:m=n
  .subst h;simp
  .rw[Fs h];symm;simp;exact h
theorem blt_eq(n m:Nat):zB n m=decide (n<m):=by
 by_cases h:n<m
 .rw[decide_eq_true h];simpa[Nat.blt_eq]using h
 .rw[decide_eq_false h];cases e:zB n m with
  |false=>rfl
  |true=>exact absurd (yF e) h
theorem Bw(a b:Int):Fi a b=decide (a<b):=by
 cases a<;>cases b<;>simp only[Fi,blt_eq]
 .simp
 .rename_i m n;symm;simp;omega
 .rename_i m n;symm;simp;omega
 .rename_i m n;by_cases h:n<m
  .rw[decide_eq_true h];symm;simp;omega
  .rw[decide_eq_false h];symm;simp;omega
theorem EM(k:iB)(n:Int):Kq k n=some (.int k n):=by
 cases n with
 |ofNat m=>cases m<;>rfl
 |negSucc m=>cases m<;>rfl
theorem R4{a b:iB}(h:zD (Jl a) (Jl b)=true):a=b:=by have:=yZ h;cases a<;>cases b<;>simp[Jl]at this<;>rfl
theorem RV{v:CV}{f:iB->Int->Option CV}{u:CV}(h:Wk v f=some u):∃k n,v=.int k n/\f k n=some u:=by cases v<;>first|(exact⟨_,_,rfl,h⟩)|(exact absurd h (by unfold Wk;simp))
theorem Ox{v:CV}{f:iB->Int->Option CV}{g:Nat->Nat->Option CV}{u:CV}(h:Ta v f g=some u):(∃k n,v=.int k n/\f k n=some u)\/∃c lo hi,v=.ulen c lo hi/\g lo hi=some u:=by cases v<;>first|(exact .inl ⟨_,_,rfl,h⟩)|(exact .inr ⟨_,_,_,rfl,h⟩)|(exact absurd h (by unfold Ta;simp))
theorem Td{op:BinOp}{f:iB->Int->Int->Option CV}{x y v:CV}(h:Xl op f x y=some v):(∃k a b,x=.int k a/\y=.int k b/\f k a b=some v)\/∃c lo hi,x=.ulen c lo hi/\Oh op lo hi y=some v:=by
 unfold Xl at h;rcases Ox h with⟨k,a,j,g⟩|g;rotate_left
 .exact .inr g
 obtain⟨i,b,l,d⟩:=RV g;cases hk:zD (Jl k) (Jl i)with
 |false=>rw[hk]at d;cases d
 |true=>rw[hk]at d;obtain rfl:=R4 hk;exact .inl ⟨k,a,b,j,l,d⟩
theorem BP(s:List Nat):(yH s).data.toList=s.map eX:=by simp[yH]
theorem AY(s:List Nat):(yH s).toList=s.map eX:=by rw[iQ,BP]
theorem M9{a b:Nat}(ha:a<256)(hb:b<256)(h:eX a=eX b):a=b:=by have:=congrArg UInt8.toNat h;simp at this;omega
theorem Gk:∀(a b:List Nat)(r:Bool),Gx a b=some r->((a.map eX)==(b.map eX))=r
 |[],[],r,h=>by simp[Gx]at h;subst h;rfl
 |[],_::_,r,h=>by simp[Gx]at h;subst h;rfl
 |_::_,[],r,h=>by simp[Gx]at h;subst h;rfl
 |x::a,y::b,r,h=>by
  simp only[Gx]at h;cases hb:zD x y with
  |true=>rw[hb,cond_true]at h;obtain rfl:=yZ hb;have:=Gk a b r h;simpa using this
  |false=>
   rw[hb,cond_false]at h;cases hc:(zB x 256&&zB y 256)with
   |false=>rw[hc]at h;cases h
   |true=>
    rw[hc,cond_true]at h;cases h;simp only[zo]at hc;have c:x≠y:=λe=>by rw[Dy e]at hb;cases hb
    have:eX x≠eX y:=λe=>c (M9 (yF hc.1) (yF hc.2) e);simp[this]
theorem Gd:∀(a b:List Nat)(r:Bool),J0 a b=some r->oe (a.map eX) (b.map eX)=r
 |[],[],r,h=>by simp[J0]at h;subst h;rfl
 |_::_,[],r,h=>by simp[J0]at h;subst h;rfl
 |[],_::_,r,h=>by simp[J0]at h;subst h;rfl
 |x::a,y::b,r,h=>by
  simp only[J0]at h;cases hc:(zB x 256&&zB y 256)with
  |false=>rw[hc]at h;cases h
  |true=>
   rw[hc,cond_true]at h;simp only[zo]at hc;have hx:=yF hc.1;have hy:=yF hc.2;simp only[iZ,oe];have hlt:(eX x<eX y)↔x<y:=by rw[zau];simp;omega
   cases h1:zB x y with
   |true=>rw[h1,cond_true]at h;cases h;have:=hlt.2 (yF h1);simp[this]
   |false=>
    rw[h1,cond_false]at h;have f:¬x<y:=λe=>by rw[blt_eq,decide_eq_true e]at h1;cases h1
    have c:¬(eX x<eX y):=λe=>f (hlt.1 e);cases h2:zD x y with
    |true=>rw[h2,cond_true]at h;obtain rfl:=yZ h2;simpa[c]using Gd a b r h
    |false=>
     rw[h2,cond_false]at h;cases h;have d:x≠y:=λe=>by rw[Dy e]at h2;cases h2
     have:eX x≠eX y:=λe=>d (M9 hx hy e);simp[c,this]
theorem JU:∀(a b:List UInt8),oe b a= !(oe a b||a==b)
 |[],[]=>rfl
 |[],_::_=>rfl
 |_::_,[]=>rfl
 |x::a,y::b=>by
  have ih:=JU a b;simp only[oe];by_cases d:x<y
  .have f:¬y<x:=by rw[zau]at*;omega
   have c:y≠x:=λe=>by subst e;exact f d
   have g:x≠y:=λe=>c e.symm;simp[d,f,c,g]
  .by_cases f:y<x
   .have c:y≠x:=λe=>by subst e;exact d f
    have g:x≠y:=λe=>c e.symm;simp[d,f,c,g]
   .have c:x=y:=by apply UInt8.toNat_inj.1;rw[zau]at d f;omega
    subst c;simp[d,ih]
theorem Uk(a b:List UInt8):(!(oe a b||a==b))=oe b a:=(JU a b).symm
theorem U9(a b:List UInt8):(oe a b||a==b)= !oe b a:=by rw[JU a b,Bool.not_not]
theorem Db{x:Option Bool}{v:CV}(h:Wu x=some v):∃b,x=some b/\v=.bool b:=by cases x<;>simp[Wu]at h;exact⟨_,rfl,h.symm⟩
theorem Da{x:Option Bool}{v:CV}(h:Ws x=some v):∃b,x=some b/\v=.bool (!b):=by cases x<;>simp[Ws]at h;exact⟨_,rfl,h.symm⟩
section
variable{P:zZ}
theorem ME{op:BinOp}{a b:List Nat}{v:CV}(h:Sw op a b=some v)(ρ:Ren):∃V,yx ρ v=some V/\∀w,(lZ op (yH a) (yH b)).run P w=.ok V w:=by
 unfold Sw at h;split at h
 .cases d:zB (a.length+b.length) lim with
  |false=>rw[d]at h;cases h
  |true=>
   rw[d,cond_true]at h;cases h;have d:=yF d;refine⟨_,rfl,λw=>?_⟩;have:¬(((yH a).size+(yH b).size:Nat):Int)>IntKind.i64.max:=by rw[AL,AL];unfold lim at d;simp[IntKind.max,IntKind.signed,IntKind.bits];omega
   simp only[lZ,this,if_false,zP];congr 2;apply zbb;simp[yH]
 .obtain⟨r,c,rfl⟩:=Db h;refine⟨_,rfl,λw=>?_⟩;simp only[lZ,AY,Gk _ _ _ c,zP]
 .obtain⟨r,c,rfl⟩:=Da h;refine⟨_,rfl,λw=>?_⟩;simp only[lZ,AY,Gk _ _ _ c,zP]
 .obtain⟨r,c,rfl⟩:=Db h;refine⟨_,rfl,λw=>?_⟩;simp only[lZ,AY,Gd _ _ _ c,zP]
 .obtain⟨r,c,rfl⟩:=Db h;refine⟨_,rfl,λw=>?_⟩;have:=Gd _ _ _ c;simp only[lZ,AY,zP];rw[Uk,this]
 .obtain⟨r,c,rfl⟩:=Da h;refine⟨_,rfl,λw=>?_⟩;have:=Gd _ _ _ c;simp only[lZ,AY,zP];rw[U9,this]
 .obtain⟨r,c,rfl⟩:=Da h;refine⟨_,rfl,λw=>?_⟩;simp only[lZ,AY,Gd _ _ _ c,zP]
 .cases h
theorem FY(xs ys:List CV):DE [] xs ys=some true:=by simp[DE]
theorem Es(off size:Nat)(agg:Bool)(e:EqT)(l:List (Nat×Nat×Bool×EqT))(xs ys:List CV):DE ((off,size,agg,e)::l) xs ys=
  match IK size agg xs off,IK size agg ys off with
  |some a,some b=>(match DX e a b with
   |some true=>DE l xs ys
   |some false=>some false
   |none=>none)
  |_,_=>none:=by simp only[DE];rfl
theorem C9(a b:ByteArray):(a==b)=(a.data.toList==b.data.toList):=by show(a.data==b.data)=_;rw[Bool.eq_iff_iff];simp
def Ia(P:zZ)(d:Nat)(f:Field):Nat×Nat×Bool×EqT:=(f.offset,(match Ac P f.type with|some j=>j.size|none=>0),(match Ac P f.type with|some j=>Bs j.desc|none=>false),FV P d f.type)
theorem Mg{ρ:Ren}{d D:Nat}(ih:∀(t:zL)(x y:CV)(X Y:zg)(r:Bool),DX (FV P d t) x y=some r->yx ρ x=some X->yx ρ y=some Y->∀w,(oU D t X Y).run P w=.ok r w){xs ys:List CV}{X Y:List zg}(hX:yG ρ xs=some X)(hY:yG ρ ys=some Y)(w:World):∀(fs:List Field)(r:Bool),DE ((fs.filter (·.name≠ "_")).map (Ia P d)) xs ys=some r->(forIn fs ((none,()):Option Bool×Unit) λf __s=>
      if f.name≠ "_" then do
       let __do_lift<-part f.type X.toArray f.offset;let __do_lift_1<-part f.type Y.toArray f.offset;let __do_lift<-oU D f.type __do_lift __do_lift_1;if(!__do_lift)=true then pure (zcw (some false,()))else pure (zaV (none,()))
      else pure (zaV (none,())):Sem (Option Bool×Unit)).run P w=.ok (if r then(none,())else(some false,())) w
 |[],r,h=>by simp[FY]at h;subst h;rfl
 |f::fs,r,h=>by
  rw[zbK];by_cases hn:f.name≠ "_"
  .rw[List.filter_cons_of_pos (by simpa using hn),iZ]at h;have hp:Ia P d f=(f.offset,(Ia P d f).2.1,(Ia P d f).2.2.1,FV P d f.type):=rfl;rw[hp,Es]at h;split at h
   .rename_i u v hu hv;simp only[Ia]at hu hv;cases hj:Ac P f.type with
    |none=>
     rw[hj]at hu hv;have:FV P d f.type=.no:=by
      cases d with
      |zero=>rfl
      |succ d=>simp only[FV,hj]
     rw[this]at h;simp[DX]at h
    |some j=>
     rw[hj]at hu hv;obtain⟨U,hU,hU'⟩:=Dq hj hX hu;obtain⟨V,hV,hV'⟩:=Dq hj hY hv;split at h
     .rename_i he;have:=ih f.type u v U V true he hU hV;rw[if_pos hn];simp only[zK,hU',hV',zr,this,zcg,zH,if_false,zP];exact Mg ih hX hY w fs r h
     .rename_i he;cases h;have:=ih f.type u v U V false he hU hV;rw[if_pos hn];simp only[zK,hU',hV',zr,this,zdA,if_true,zP,zH,if_false]
     .cases h
   .cases h
  .rw[List.filter_cons_of_neg (by simpa using hn)]at h;rw[if_neg hn];simp only[zK,zP,zr];exact Mg ih hX hY w fs r h
def TF(P:zZ)(d:Nat)(q:zL)(j:TyE)(i:Nat):Nat×Nat×Bool×EqT:=(i*j.size,j.size,Bs j.desc,FV P d q)
theorem MQ{ρ:Ren}{d D:Nat}(ih:∀(t:zL)(x y:CV)(X Y:zg)(r:Bool),DX (FV P d t) x y=some r->yx ρ x=some X->yx ρ y=some Y->∀w,(oU D t X Y).run P w=.ok r w){xs ys:List CV}{X Y:List zg}(hX:yG ρ xs=some X)(hY:yG ρ ys=some Y)(q:zL)(j:TyE)(hj:Ac P q=some j)(w:World):∀(is:List Nat)(r:Bool),DE (is.map (TF P d q j)) xs ys=some r->(forIn is ((none,()):Option Bool×Unit) λi __s=>do
       let __do_lift<-part q X.toArray (i*j.size);let __do_lift_1<-part q Y.toArray (i*j.size);let __do_lift<-oU D q __do_lift __do_lift_1;if(!__do_lift)=true then pure (zcw (some false,()))else pure (zaV (none,())):Sem (Option Bool×Unit)).run P w=.ok (if r then(none,())else(some false,())) w
 |[],r,h=>by simp[FY]at h;subst h;rfl
 |i::is,r,h=>by
  rw[zbK];rw[iZ]at h;have hp:TF P d q j i=(i*j.size,j.size,Bs j.desc,FV P d q):=rfl;rw[hp,Es]at h;split at h
  .rename_i u v hu hv;obtain⟨U,c,a⟩:=Dq hj hX hu;obtain⟨V,f,b⟩:=Dq hj hY hv;split at h
   .rename_i he;have:=ih q u v U V true he c f;simp only[zK,a,b,zr,this,zcg,zH,if_false,zP];exact MQ ih hX hY q j hj w is r h
   .rename_i he;cases h;have:=ih q u v U V false he c f;simp only[zK,a,b,zr,this,zdA,if_true,zP,zH,if_false]
   .cases h
  .cases h
theorem O8{ρ:Ren}{c1 l1 m1 c2 l2 m2:Nat}{s1 s2:ByteArray}(h1:ρ.ustr c1 l1 m1=some s1)(h2:ρ.ustr c2 l2 m2=some s2):(s1==s2)=zD c1 c2:=by
 obtain⟨b,c,_⟩:=Ren.ustr_some h1;obtain⟨a,_⟩:=Ren.ustr_some h2;cases hc:zD c1 c2 with
 |true=>obtain rfl:=yZ hc;rw[b]at a;cases a;rw[C9];simp
 |false=>
  cases hb:s1==s2 with
  |false=>rfl
  |true=>rw[C9]at hb;have e:s1=s2:=zbb (Array.ext' (by simpa using hb));subst e;have:=c _ _ _ b a;rw[this,Nat.beq_refl]at hc;cases hc
theorem E1{ρ:Ren}:∀(d D:Nat),d<=D->∀(t:zL)(x y:CV)(X Y:zg)(r:Bool),DX (FV P d t) x y=some r->yx ρ x=some X->yx ρ y=some Y->∀w,(oU D t X Y).run P w=.ok r w
 |0,D,hD,t,x,y,X,Y,r,h,hx,hy,w=>by simp[FV,DX]at h
 |d+1,0,hD,t,x,y,X,Y,r,h,hx,hy,w=>by omega
 |d+1,D+1,hD,t,x,y,X,Y,r,h,hx,hy,w=>by
  simp only[FV]at h;cases ht:Ac P t with
  |none=>rw[ht]at h;simp[DX]at h
  |some i=>
   rw[ht]at h;simp only at h;have hun:=yg ht w;simp only[oU,zK,hun,zr];cases hd:i.desc with
   |bool=>rw[hd]at h;cases x<;>cases y<;>simp[DX]at h;simp only[yx,zb]at hx hy;subst hx;subst hy;subst h;simp
   |int k=>rw[hd]at h;cases x<;>cases y<;>simp[DX]at h;obtain⟨hk,h⟩:=h;simp only[yx,zb]at hx hy;subst hx;subst hy;rw[B4]at h;subst h;simp[hk]
   |string=>
    rw[hd]at h;cases x<;>cases y<;>simp[DX]at h
    .simp only[yx,zb]at hx hy;subst hx;subst hy;rename_i a b;have:=Gk _ _ _ h;simp only[zP];congr 1;rw[<-this,<-BP,<-BP];exact C9 _ _
    .rename_i c1 l1 m1 c2 l2 m2;simp only[yx,zh]at hx hy;obtain⟨s1,h1,rfl⟩:=hx;obtain⟨s2,h2,rfl⟩:=hy;simp only[zP];congr 1;rw[<-h];exact O8 h1 h2
   |pointer q=>
    rw[hd]at h;simp only at h;cases hq:Ac P q with
    |none=>rw[hq]at h;simp[DX]at h
    |some qi=>
    rw[hq]at h;simp only at h;have hsz:=yW hq w;cases x<;>cases y<;>simp only[DX,reduceCtorEq,zb]at h;all_goals(simp only[yx,zb,zh]at hx hy)
    .subst hx;subst hy;subst h;simp
    .obtain⟨z,hz,rfl⟩:=hy;subst hx;subst h;simp
    .obtain⟨z,hz,rfl⟩:=hx;subst hy;subst h;simp
    .rename_i b1 o1 b2 o2;cases hc:(zD b1 b2&&zD o1 o2)with
     |false=>rw[hc]at h;cases h
     |true=>
      rw[hc,cond_true]at h;cases h;simp only[zo]at hc;have e1:=oF hc.1;have e2:=oF hc.2;subst e1 e2;obtain⟨z,hz,rfl⟩:=hx;obtain⟨z',hz',rfl⟩:=hy;rw[hz]at hz';cases hz';simp only[zK,hsz,zr];by_cases h0:qi.size≠0
      .rw[if_pos h0];simp[sameAddr]
      .rw[if_neg h0];simp
   |slice q=>
    rw[hd]at h;cases x<;>cases y<;>simp[DX]at h;all_goals(simp only[yx,zb,zu,zh]at hx hy)
    .subst hx;subst hy;subst h;simp
    .obtain⟨z,hz,c,hc,rfl⟩:=hy;subst hx;subst h;simp
    .obtain⟨z,hz,c,hc,rfl⟩:=hx;subst hy;subst h;simp
   |map q q'=>
    rw[hd]at h;cases x<;>cases y<;>simp[DX]at h;all_goals(simp only[yx,zb,zh]at hx hy)
    .subst hx;subst hy;subst h;simp
    .obtain⟨z,hz,rfl⟩:=hy;subst hx;subst h;simp
    .obtain⟨z,hz,rfl⟩:=hx;subst hy;subst h;simp
   |func q q' q''=>
    rw[hd]at h;cases x<;>cases y<;>simp[DX]at h;all_goals(simp only[yx,zb,zu,zh]at hx hy)
    .obtain⟨z,hz,c,hc,rfl⟩:=hx;subst hy;subst h;simp
    .obtain⟨z,hz,c,hc,rfl⟩:=hy;subst hx;subst h;simp
    .subst hx;subst hy;subst h;simp
   |struct fields=>
    rw[hd]at h;simp only at h;split at h
    .simp[DX]at h
    .rename_i hs;cases x<;>cases y<;>simp only[DX,reduceCtorEq]at h;simp only[yx,zh]at hx hy;obtain⟨LX,hX,rfl⟩:=hx;obtain⟨LY,hY,rfl⟩:=hy;have hs':P.stoodInHeld t=false:=by simpa using hs
     simp only[zK,run_program,zr,hs',zH,if_false];rw[<-Array.forIn_toList];have:=Mg (P:=P) (d:=d) (D:=D) (λt x y X Y r h hx hy w=>E1 d D (by omega) t x y X Y r h hx hy w) hX hY w fields.toList r h;rw[this];cases r<;>rfl
   |array n q=>
    rw[hd]at h;simp only at h;cases hq:Ac P q with
    |none=>rw[hq]at h;simp[DX]at h
    |some j=>rw[hq]at h;cases x<;>cases y<;>simp only[DX,reduceCtorEq]at h;simp only[yx,zh]at hx hy;obtain⟨LX,hX,rfl⟩:=hx;obtain⟨LY,hY,rfl⟩:=hy;have hsz:=yW hq w;simp only[zK,hsz,zr];have:=MQ (P:=P) (d:=d) (D:=D) (λt x y X Y r h hx hy w=>E1 d D (by omega) t x y X Y r h hx hy w) hX hY q j hq w (List.range n) r h;rw[zb0,<-List.range_eq_range'];simp only[zb1,Nat.sub_zero,Nat.add_sub_cancel,Nat.div_one];rw[this];cases r<;>rfl
   |_=>rw[hd]at h;simp[DX]at h
end
end Go.Ev
