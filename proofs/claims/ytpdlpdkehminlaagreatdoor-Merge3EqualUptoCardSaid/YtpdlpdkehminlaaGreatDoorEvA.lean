/-
  Part of the proof: Tries keyed by numbers.
-/
import GoSem.Core.Value
import GoSem.Step
set_option linter.all false
set_option maxRecDepth 100000
set_option maxHeartbeats 20000000
open BitVec renaming ofInt->ov
open Bool renaming rec->lV
open Go renaming BinOp->za8,FuncId->zaU,IntKind->iB,Oper->eS,Operand->eo,Program->zZ,TypeDesc->lE,TypeId->zL
open Go.Region renaming binds->zR
open Int renaming sub->zdY
open Nat renaming beq->zD,ble->ic,blt->zB,div->o5,mod->oP,pred->za7,rec->zcb
open Option renaming rec->iO
namespace Go.Ev
inductive Tr(α:Type)where
 |leaf
 |node (v:Option α) (l r:Tr α)
 deriving Inhabited
theorem Fs{n m:Nat}(h:n≠m):zD n m=false:=by
 cases e:zD n m with
 |false=>rfl
 |true=>exact absurd (Nat.eq_of_beq_eq_true e) h
theorem Dy{n m:Nat}(h:n=m):zD n m=true:=by subst h;exact Nat.beq_refl n
namespace Tr
variable{α:Type}
noncomputable def get(t:Tr α):Nat->Option α:=Tr.rec (motive:=λ_=>Nat->Option α) (λ_=>none) (λv _ _ gl gr n=>lV (lV (gr (za7 (o5 n 2))) (gl (o5 n 2)) (zD (oP n 2) 1)) v (zD n 0)) t
noncomputable def set(f:Nat):Tr α->Nat->Option α->Tr α:=zcb (motive:=λ_=>Tr α->Nat->Option α->Tr α) (λt _ _=>t) (λ_ ih t n x=>Tr.rec (motive:=λ_=>Tr α) (lV (lV (.node none .leaf (ih .leaf (za7 (o5 n 2)) x)) (.node none (ih .leaf (o5 n 2) x) .leaf) (zD (oP n 2) 1)) (.node x .leaf .leaf) (zD n 0)) (λv l r _ _=>lV (lV (.node v l (ih r (za7 (o5 n 2)) x)) (.node v (ih l (o5 n 2) x) r) (zD (oP n 2) 1)) (.node x l r) (zD n 0)) t) f
def top:Tr α->Option α
 |.leaf=>none
 |.node v _ _=>v
def lft:Tr α->Tr α
 |.leaf=>.leaf
 |.node _ l _=>l
def rgt:Tr α->Tr α
 |.leaf=>.leaf
 |.node _ _ r=>r
@[simp]theorem Xp (n:Nat):(Tr.leaf:Tr α).get n=none:=rfl
theorem Vq(t:Tr α)(n:Nat):t.get n=if n=0 then t.top else if n%2=1 then t.lft.get (n/2)else t.rgt.get (n/2-1):=by
 cases t with
 |leaf=>simp[top,lft,rgt]
 |node v l r=>
  show(lV (motive:=λ_=>Option α) (lV (motive:=λ_=>Option α) (r.get (za7 (o5 n 2))) (l.get (o5 n 2)) (zD (oP n 2) 1)) v (zD n 0))=_;simp only[top,lft,rgt];by_cases a:n=0
  .rw[Dy a,if_pos a]
  .rw[Fs a,if_neg a];by_cases b:n%2=1
   .rw[Dy (show oP n 2=1 from b),if_pos b];rfl
   .rw[Fs (show oP n 2≠1 from b),if_neg b];rfl
theorem Vp(f:Nat)(t:Tr α)(n:Nat)(x:Option α):
  set (f+1) t n x=if n=0 then .node x t.lft t.rgt else if n%2=1 then .node t.top (set f t.lft (n/2) x) t.rgt else .node t.top t.lft (set f t.rgt (n/2-1) x):=by
 cases t with
 |leaf=>
  show(lV (motive:=λ_=>Tr α) (lV (motive:=λ_=>Tr α) (Tr.node none .leaf (set f .leaf (za7 (o5 n 2)) x)) (.node none (set f .leaf (o5 n 2) x) .leaf) (zD (oP n 2) 1)) (.node x .leaf .leaf) (zD n 0))=_;simp only[top,lft,rgt];by_cases a:n=0
  .rw[Dy a,if_pos a]
  .rw[Fs a,if_neg a];by_cases b:n%2=1
   .rw[Dy (show oP n 2=1 from b),if_pos b];rfl
   .rw[Fs (show oP n 2≠1 from b),if_neg b];rfl
 |node v l r=>
  show(lV (motive:=λ_=>Tr α) (lV (motive:=λ_=>Tr α) (Tr.node v l (set f r (za7 (o5 n 2)) x)) (.node v (set f l (o5 n 2) x) r) (zD (oP n 2) 1)) (.node x l r) (zD n 0))=_;simp only[top,lft,rgt];by_cases a:n=0
  .rw[Dy a,if_pos a]
  .rw[Fs a,if_neg a];by_cases b:n%2=1
   .rw[Dy (show oP n 2=1 from b),if_pos b];rfl
   .rw[Fs (show oP n 2≠1 from b),if_neg b];rfl
theorem Fd(v:Option α)(l r:Tr α)(n:Nat):(Tr.node v l r).get n=if n=0 then v else if n%2=1 then l.get (n/2)else r.get (n/2-1):=Vq _ _
theorem get_set_eq:∀(f:Nat)(t:Tr α)(n:Nat)(x:Option α),n+1<2^f->(set f t n x).get n=x:=by
 intro f;induction f with
 |zero=>intro t n x h;simp at h
 |succ f ih=>
  intro t n x h;have c:(2:Nat)^(f+1)=2*2^f:=by rw[Nat.pow_succ];omega
  rw[c]at h;rw[Vp];by_cases a:n=0
  .rw[if_pos a,Fd,if_pos a]
  .rw[if_neg a];by_cases b:n%2=1
   .rw[if_pos b,Fd,if_neg a,if_pos b];exact ih _ _ _ (by omega)
   .rw[if_neg b,Fd,if_neg a,if_neg b];exact ih _ _ _ (by omega)
theorem get_set_ne:∀(f:Nat)(t:Tr α)(n m:Nat)(x:Option α),n≠m->(set f t n x).get m=t.get m:=by
 intro f;induction f with
 |zero=>intro t n m x h;rfl
 |succ f ih=>
  intro t n m x h;rw[Vp,Vq t m];by_cases d:n=0
  .rw[if_pos d,Fd];by_cases a:m=0
   .omega
   .rw[if_neg a,if_neg a]
  .rw[if_neg d];by_cases c:n%2=1
   .rw[if_pos c,Fd];by_cases a:m=0
    .rw[if_pos a,if_pos a]
    .rw[if_neg a,if_neg a];by_cases b:m%2=1
     .rw[if_pos b,if_pos b];exact ih _ _ _ _ (by omega)
     .rw[if_neg b,if_neg b]
   .rw[if_neg c,Fd];by_cases a:m=0
    .rw[if_pos a,if_pos a]
    .rw[if_neg a,if_neg a];by_cases b:m%2=1
     .rw[if_pos b,if_pos b]
     .rw[if_neg b,if_neg b];exact ih _ _ _ _ (by omega)
end Tr
structure N16(α:Type)where
 a0:α
 a1:α
 a2:α
 a3:α
 a4:α
 a5:α
 a6:α
 a7:α
 a8:α
 a9:α
 a10:α
 a11:α
 a12:α
 a13:α
 a14:α
 a15:α
namespace N16
variable{α:Type}
def all(v:α):N16 α:=⟨v,v,v,v,v,v,v,v,v,v,v,v,v,v,v,v⟩
noncomputable def sel(k:Nat):N16 α->α:=
 match k with
 |0=>λx=>N16.rec (motive:=λ_=>α) (λa0 _ _ _ _ _ _ _ _ _ _ _ _ _ _ _=>a0) x
 |1=>λx=>N16.rec (motive:=λ_=>α) (λ_ a1 _ _ _ _ _ _ _ _ _ _ _ _ _ _=>a1) x
 |2=>λx=>N16.rec (motive:=λ_=>α) (λ_ _ a2 _ _ _ _ _ _ _ _ _ _ _ _ _=>a2) x
 |3=>λx=>N16.rec (motive:=λ_=>α) (λ_ _ _ a3 _ _ _ _ _ _ _ _ _ _ _ _=>a3) x
 |4=>λx=>N16.rec (motive:=λ_=>α) (λ_ _ _ _ a4 _ _ _ _ _ _ _ _ _ _ _=>a4) x
 |5=>λx=>N16.rec (motive:=λ_=>α) (λ_ _ _ _ _ a5 _ _ _ _ _ _ _ _ _ _=>a5) x
 |6=>λx=>N16.rec (motive:=λ_=>α) (λ_ _ _ _ _ _ a6 _ _ _ _ _ _ _ _ _=>a6) x
 |7=>λx=>N16.rec (motive:=λ_=>α) (λ_ _ _ _ _ _ _ a7 _ _ _ _ _ _ _ _=>a7) x
 |8=>λx=>N16.rec (motive:=λ_=>α) (λ_ _ _ _ _ _ _ _ a8 _ _ _ _ _ _ _=>a8) x
 |9=>λx=>N16.rec (motive:=λ_=>α) (λ_ _ _ _ _ _ _ _ _ a9 _ _ _ _ _ _=>a9) x
 |10=>λx=>N16.rec (motive:=λ_=>α) (λ_ _ _ _ _ _ _ _ _ _ a10 _ _ _ _ _=>a10) x
 |11=>λx=>N16.rec (motive:=λ_=>α) (λ_ _ _ _ _ _ _ _ _ _ _ a11 _ _ _ _=>a11) x
 |12=>λx=>N16.rec (motive:=λ_=>α) (λ_ _ _ _ _ _ _ _ _ _ _ _ a12 _ _ _=>a12) x
 |13=>λx=>N16.rec (motive:=λ_=>α) (λ_ _ _ _ _ _ _ _ _ _ _ _ _ a13 _ _=>a13) x
 |14=>λx=>N16.rec (motive:=λ_=>α) (λ_ _ _ _ _ _ _ _ _ _ _ _ _ _ a14 _=>a14) x
 |_=>λx=>N16.rec (motive:=λ_=>α) (λ_ _ _ _ _ _ _ _ _ _ _ _ _ _ _ a15=>a15) x
noncomputable def upd(k:Nat)(v:α):N16 α->N16 α:=
 match k with
 |0=>λx=>N16.rec (motive:=λ_=>N16 α) (λ_ a1 a2 a3 a4 a5 a6 a7 a8 a9 a10 a11 a12 a13 a14 a15=>N16.mk v a1 a2 a3 a4 a5 a6 a7 a8 a9 a10 a11 a12 a13 a14 a15) x
 |1=>λx=>N16.rec (motive:=λ_=>N16 α) (λa0 _ a2 a3 a4 a5 a6 a7 a8 a9 a10 a11 a12 a13 a14 a15=>N16.mk a0 v a2 a3 a4 a5 a6 a7 a8 a9 a10 a11 a12 a13 a14 a15) x
 |2=>λx=>N16.rec (motive:=λ_=>N16 α) (λa0 a1 _ a3 a4 a5 a6 a7 a8 a9 a10 a11 a12 a13 a14 a15=>N16.mk a0 a1 v a3 a4 a5 a6 a7 a8 a9 a10 a11 a12 a13 a14 a15) x
 |3=>λx=>N16.rec (motive:=λ_=>N16 α) (λa0 a1 a2 _ a4 a5 a6 a7 a8 a9 a10 a11 a12 a13 a14 a15=>N16.mk a0 a1 a2 v a4 a5 a6 a7 a8 a9 a10 a11 a12 a13 a14 a15) x
 |4=>λx=>N16.rec (motive:=λ_=>N16 α) (λa0 a1 a2 a3 _ a5 a6 a7 a8 a9 a10 a11 a12 a13 a14 a15=>N16.mk a0 a1 a2 a3 v a5 a6 a7 a8 a9 a10 a11 a12 a13 a14 a15) x
 |5=>λx=>N16.rec (motive:=λ_=>N16 α) (λa0 a1 a2 a3 a4 _ a6 a7 a8 a9 a10 a11 a12 a13 a14 a15=>N16.mk a0 a1 a2 a3 a4 v a6 a7 a8 a9 a10 a11 a12 a13 a14 a15) x
 |6=>λx=>N16.rec (motive:=λ_=>N16 α) (λa0 a1 a2 a3 a4 a5 _ a7 a8 a9 a10 a11 a12 a13 a14 a15=>N16.mk a0 a1 a2 a3 a4 a5 v a7 a8 a9 a10 a11 a12 a13 a14 a15) x
 |7=>λx=>N16.rec (motive:=λ_=>N16 α) (λa0 a1 a2 a3 a4 a5 a6 _ a8 a9 a10 a11 a12 a13 a14 a15=>N16.mk a0 a1 a2 a3 a4 a5 a6 v a8 a9 a10 a11 a12 a13 a14 a15) x
 |8=>λx=>N16.rec (motive:=λ_=>N16 α) (λa0 a1 a2 a3 a4 a5 a6 a7 _ a9 a10 a11 a12 a13 a14 a15=>N16.mk a0 a1 a2 a3 a4 a5 a6 a7 v a9 a10 a11 a12 a13 a14 a15) x
 |9=>λx=>N16.rec (motive:=λ_=>N16 α) (λa0 a1 a2 a3 a4 a5 a6 a7 a8 _ a10 a11 a12 a13 a14 a15=>N16.mk a0 a1 a2 a3 a4 a5 a6 a7 a8 v a10 a11 a12 a13 a14 a15) x
 |10=>λx=>N16.rec (motive:=λ_=>N16 α) (λa0 a1 a2 a3 a4 a5 a6 a7 a8 a9 _ a11 a12 a13 a14 a15=>N16.mk a0 a1 a2 a3 a4 a5 a6 a7 a8 a9 v a11 a12 a13 a14 a15) x
 |11=>λx=>N16.rec (motive:=λ_=>N16 α) (λa0 a1 a2 a3 a4 a5 a6 a7 a8 a9 a10 _ a12 a13 a14 a15=>N16.mk a0 a1 a2 a3 a4 a5 a6 a7 a8 a9 a10 v a12 a13 a14 a15) x
 |12=>λx=>N16.rec (motive:=λ_=>N16 α) (λa0 a1 a2 a3 a4 a5 a6 a7 a8 a9 a10 a11 _ a13 a14 a15=>N16.mk a0 a1 a2 a3 a4 a5 a6 a7 a8 a9 a10 a11 v a13 a14 a15) x
 |13=>λx=>N16.rec (motive:=λ_=>N16 α) (λa0 a1 a2 a3 a4 a5 a6 a7 a8 a9 a10 a11 a12 _ a14 a15=>N16.mk a0 a1 a2 a3 a4 a5 a6 a7 a8 a9 a10 a11 a12 v a14 a15) x
 |14=>λx=>N16.rec (motive:=λ_=>N16 α) (λa0 a1 a2 a3 a4 a5 a6 a7 a8 a9 a10 a11 a12 a13 _ a15=>N16.mk a0 a1 a2 a3 a4 a5 a6 a7 a8 a9 a10 a11 a12 a13 v a15) x
 |_=>λx=>N16.rec (motive:=λ_=>N16 α) (λa0 a1 a2 a3 a4 a5 a6 a7 a8 a9 a10 a11 a12 a13 a14 _=>N16.mk a0 a1 a2 a3 a4 a5 a6 a7 a8 a9 a10 a11 a12 a13 a14 v) x
end N16
theorem N16.sel_upd_eq{α:Type}(k:Nat)(v:α)(x:N16 α)(hk:k<16):N16.sel k (N16.upd k v x)=v:=by
 cases x;have a:k=0\/k=1\/k=2\/k=3\/k=4\/k=5\/k=6\/k=7\/k=8\/k=9\/k=10\/k=11\/k=12\/k=13\/k=14\/k=15:=by omega
 rcases a with rfl|rfl|rfl|rfl|rfl|rfl|rfl|rfl|rfl|rfl|rfl|rfl|rfl|rfl|rfl|rfl<;>rfl
theorem N16.sel_all{α:Type}(k:Nat)(v:α)(hk:k<16):N16.sel k (N16.all v)=v:=by
 have a:k=0\/k=1\/k=2\/k=3\/k=4\/k=5\/k=6\/k=7\/k=8\/k=9\/k=10\/k=11\/k=12\/k=13\/k=14\/k=15:=by omega
 rcases a with rfl|rfl|rfl|rfl|rfl|rfl|rfl|rfl|rfl|rfl|rfl|rfl|rfl|rfl|rfl|rfl<;>rfl
theorem N16.sel_upd_ne{α:Type}(j k:Nat)(v:α)(x:N16 α)(hj:j<16)(hk:k<16)(h:j≠k):
  N16.sel j (N16.upd k v x)=N16.sel j x:=by
 cases x;have a:j=0\/j=1\/j=2\/j=3\/j=4\/j=5\/j=6\/j=7\/j=8\/j=9\/j=10\/j=11\/j=12\/j=13\/j=14\/j=15:=by omega
 have b:k=0\/k=1\/k=2\/k=3\/k=4\/k=5\/k=6\/k=7\/k=8\/k=9\/k=10\/k=11\/k=12\/k=13\/k=14\/k=15:=by omega
 rcases a with rfl|rfl|rfl|rfl|rfl|rfl|rfl|rfl|rfl|rfl|rfl|rfl|rfl|rfl|rfl|rfl<;>
  rcases b with rfl|rfl|rfl|rfl|rfl|rfl|rfl|rfl|rfl|rfl|rfl|rfl|rfl|rfl|rfl|rfl<;>
  first|rfl|exact absurd rfl h
inductive Box(α:Type)where
 |mk (f:α)
namespace N16
variable{α:Type}
noncomputable def selB(k:Nat):Box (N16 α->α):=
 match k with
 |0=>.mk λx=>N16.rec (motive:=λ_=>α) (λa0 _ _ _ _ _ _ _ _ _ _ _ _ _ _ _=>a0) x
 |1=>.mk λx=>N16.rec (motive:=λ_=>α) (λ_ a1 _ _ _ _ _ _ _ _ _ _ _ _ _ _=>a1) x
 |2=>.mk λx=>N16.rec (motive:=λ_=>α) (λ_ _ a2 _ _ _ _ _ _ _ _ _ _ _ _ _=>a2) x
 |3=>.mk λx=>N16.rec (motive:=λ_=>α) (λ_ _ _ a3 _ _ _ _ _ _ _ _ _ _ _ _=>a3) x
 |4=>.mk λx=>N16.rec (motive:=λ_=>α) (λ_ _ _ _ a4 _ _ _ _ _ _ _ _ _ _ _=>a4) x
 |5=>.mk λx=>N16.rec (motive:=λ_=>α) (λ_ _ _ _ _ a5 _ _ _ _ _ _ _ _ _ _=>a5) x
 |6=>.mk λx=>N16.rec (motive:=λ_=>α) (λ_ _ _ _ _ _ a6 _ _ _ _ _ _ _ _ _=>a6) x
 |7=>.mk λx=>N16.rec (motive:=λ_=>α) (λ_ _ _ _ _ _ _ a7 _ _ _ _ _ _ _ _=>a7) x
 |8=>.mk λx=>N16.rec (motive:=λ_=>α) (λ_ _ _ _ _ _ _ _ a8 _ _ _ _ _ _ _=>a8) x
 |9=>.mk λx=>N16.rec (motive:=λ_=>α) (λ_ _ _ _ _ _ _ _ _ a9 _ _ _ _ _ _=>a9) x
 |10=>.mk λx=>N16.rec (motive:=λ_=>α) (λ_ _ _ _ _ _ _ _ _ _ a10 _ _ _ _ _=>a10) x
 |11=>.mk λx=>N16.rec (motive:=λ_=>α) (λ_ _ _ _ _ _ _ _ _ _ _ a11 _ _ _ _=>a11) x
 |12=>.mk λx=>N16.rec (motive:=λ_=>α) (λ_ _ _ _ _ _ _ _ _ _ _ _ a12 _ _ _=>a12) x
 |13=>.mk λx=>N16.rec (motive:=λ_=>α) (λ_ _ _ _ _ _ _ _ _ _ _ _ _ a13 _ _=>a13) x
 |14=>.mk λx=>N16.rec (motive:=λ_=>α) (λ_ _ _ _ _ _ _ _ _ _ _ _ _ _ a14 _=>a14) x
 |_=>.mk λx=>N16.rec (motive:=λ_=>α) (λ_ _ _ _ _ _ _ _ _ _ _ _ _ _ _ a15=>a15) x
noncomputable def updB(k:Nat):Box (α->N16 α->N16 α):=
 match k with
 |0=>.mk λv x=>N16.rec (motive:=λ_=>N16 α) (λ_ a1 a2 a3 a4 a5 a6 a7 a8 a9 a10 a11 a12 a13 a14 a15=>N16.mk v a1 a2 a3 a4 a5 a6 a7 a8 a9 a10 a11 a12 a13 a14 a15) x
 |1=>.mk λv x=>N16.rec (motive:=λ_=>N16 α) (λa0 _ a2 a3 a4 a5 a6 a7 a8 a9 a10 a11 a12 a13 a14 a15=>N16.mk a0 v a2 a3 a4 a5 a6 a7 a8 a9 a10 a11 a12 a13 a14 a15) x
 |2=>.mk λv x=>N16.rec (motive:=λ_=>N16 α) (λa0 a1 _ a3 a4 a5 a6 a7 a8 a9 a10 a11 a12 a13 a14 a15=>N16.mk a0 a1 v a3 a4 a5 a6 a7 a8 a9 a10 a11 a12 a13 a14 a15) x
 |3=>.mk λv x=>N16.rec (motive:=λ_=>N16 α) (λa0 a1 a2 _ a4 a5 a6 a7 a8 a9 a10 a11 a12 a13 a14 a15=>N16.mk a0 a1 a2 v a4 a5 a6 a7 a8 a9 a10 a11 a12 a13 a14 a15) x
 |4=>.mk λv x=>N16.rec (motive:=λ_=>N16 α) (λa0 a1 a2 a3 _ a5 a6 a7 a8 a9 a10 a11 a12 a13 a14 a15=>N16.mk a0 a1 a2 a3 v a5 a6 a7 a8 a9 a10 a11 a12 a13 a14 a15) x
 |5=>.mk λv x=>N16.rec (motive:=λ_=>N16 α) (λa0 a1 a2 a3 a4 _ a6 a7 a8 a9 a10 a11 a12 a13 a14 a15=>N16.mk a0 a1 a2 a3 a4 v a6 a7 a8 a9 a10 a11 a12 a13 a14 a15) x
 |6=>.mk λv x=>N16.rec (motive:=λ_=>N16 α) (λa0 a1 a2 a3 a4 a5 _ a7 a8 a9 a10 a11 a12 a13 a14 a15=>N16.mk a0 a1 a2 a3 a4 a5 v a7 a8 a9 a10 a11 a12 a13 a14 a15) x
 |7=>.mk λv x=>N16.rec (motive:=λ_=>N16 α) (λa0 a1 a2 a3 a4 a5 a6 _ a8 a9 a10 a11 a12 a13 a14 a15=>N16.mk a0 a1 a2 a3 a4 a5 a6 v a8 a9 a10 a11 a12 a13 a14 a15) x
 |8=>.mk λv x=>N16.rec (motive:=λ_=>N16 α) (λa0 a1 a2 a3 a4 a5 a6 a7 _ a9 a10 a11 a12 a13 a14 a15=>N16.mk a0 a1 a2 a3 a4 a5 a6 a7 v a9 a10 a11 a12 a13 a14 a15) x
 |9=>.mk λv x=>N16.rec (motive:=λ_=>N16 α) (λa0 a1 a2 a3 a4 a5 a6 a7 a8 _ a10 a11 a12 a13 a14 a15=>N16.mk a0 a1 a2 a3 a4 a5 a6 a7 a8 v a10 a11 a12 a13 a14 a15) x
 |10=>.mk λv x=>N16.rec (motive:=λ_=>N16 α) (λa0 a1 a2 a3 a4 a5 a6 a7 a8 a9 _ a11 a12 a13 a14 a15=>N16.mk a0 a1 a2 a3 a4 a5 a6 a7 a8 a9 v a11 a12 a13 a14 a15) x
 |11=>.mk λv x=>N16.rec (motive:=λ_=>N16 α) (λa0 a1 a2 a3 a4 a5 a6 a7 a8 a9 a10 _ a12 a13 a14 a15=>N16.mk a0 a1 a2 a3 a4 a5 a6 a7 a8 a9 a10 v a12 a13 a14 a15) x
 |12=>.mk λv x=>N16.rec (motive:=λ_=>N16 α) (λa0 a1 a2 a3 a4 a5 a6 a7 a8 a9 a10 a11 _ a13 a14 a15=>N16.mk a0 a1 a2 a3 a4 a5 a6 a7 a8 a9 a10 a11 v a13 a14 a15) x
 |13=>.mk λv x=>N16.rec (motive:=λ_=>N16 α) (λa0 a1 a2 a3 a4 a5 a6 a7 a8 a9 a10 a11 a12 _ a14 a15=>N16.mk a0 a1 a2 a3 a4 a5 a6 a7 a8 a9 a10 a11 a12 v a14 a15) x
 |14=>.mk λv x=>N16.rec (motive:=λ_=>N16 α) (λa0 a1 a2 a3 a4 a5 a6 a7 a8 a9 a10 a11 a12 a13 _ a15=>N16.mk a0 a1 a2 a3 a4 a5 a6 a7 a8 a9 a10 a11 a12 a13 v a15) x
 |_=>.mk λv x=>N16.rec (motive:=λ_=>N16 α) (λa0 a1 a2 a3 a4 a5 a6 a7 a8 a9 a10 a11 a12 a13 a14 _=>N16.mk a0 a1 a2 a3 a4 a5 a6 a7 a8 a9 a10 a11 a12 a13 a14 v) x
theorem selB_eq(k:Nat)(hk:k<16):(selB k:Box (N16 α->α))=.mk (sel k):=by
 have a:k=0\/k=1\/k=2\/k=3\/k=4\/k=5\/k=6\/k=7\/k=8\/k=9\/k=10\/k=11\/k=12\/k=13\/k=14\/k=15:=by omega
 rcases a with rfl|rfl|rfl|rfl|rfl|rfl|rfl|rfl|rfl|rfl|rfl|rfl|rfl|rfl|rfl|rfl<;>rfl
theorem updB_eq(k:Nat)(hk:k<16):(updB k:Box (α->N16 α->N16 α))=.mk (upd k):=by
 have a:k=0\/k=1\/k=2\/k=3\/k=4\/k=5\/k=6\/k=7\/k=8\/k=9\/k=10\/k=11\/k=12\/k=13\/k=14\/k=15:=by omega
 rcases a with rfl|rfl|rfl|rfl|rfl|rfl|rfl|rfl|rfl|rfl|rfl|rfl|rfl|rfl|rfl|rfl<;>rfl
end N16
noncomputable section
inductive Cap where
 |ex (n:Nat)
 |sy (id base:Nat)
 deriving Inhabited
inductive CV where
 |bool (b:Bool)
 |int (k:iB) (n:Int)
 |str (s:List Nat)
 |nilp
 |ptr (b o:Nat)
 |nils
 |slice (b o len:Nat) (c:Cap)
 |nilm
 |map (r:Nat)
 |func (f:zaU) (fi ca:List CV)
 |nilf
 |iface (t:zL) (v:CV)
 |nili
 |agg (l:List CV)
 |tup (l:List CV)
 |opq (i:Nat)
 |tail (b o sh id:Nat)
 |ustr (c lo hi:Nat)
 |ulen (c lo hi:Nat)
 deriving Inhabited
def CV.cells:CV->List CV
 |.agg l=>l
 |v=>[v]
inductive Bp where
 |row (cells:Tr CV) (sh hi:Nat) (wr:Bool) (id sz ty:Nat)
 |map (es:List (CV×CV×Nat)) (clock:Nat)
 |siter (s:List Nat) (pos:Nat)
 |mapU (es:List (CV×CV×Nat))
 |miter (m:Option Nat) (since:Nat) (seen:List Nat) (last:Nat)
 |mapQ (hs:List (CV×Option CV))
 deriving Inhabited
def Bp.wr:Bp->Bool
 |.row _ _ _ w _ _ _=>w
 |.mapQ _=>false
 |_=>true
structure St where
 heap:Tr Bp
 next:Nat
 nk:Nat
 deriving Inhabited
def big:Nat:=48
def lim:Nat:=140737488355328
def ofV:Nat->Value->Option CV
 |0,_=>none
 |n+1,v=>match v with
  |.bool b=>some (.bool b)
  |.int k m=>some (.int k m)
  |.string s=>some (.str (s.data.toList.map UInt8.toNat))
  |.pointer none=>some .nilp
  |.slice none 0 0=>some .nils
  |.map none=>some .nilm
  |.nilFunc=>some .nilf
  |.nilIface=>some .nili
  |.func (.func f) fi ca=>if fi.isEmpty&&ca.isEmpty then some (.func f [] [])else none
  |.agg cs=>(cs.toList.mapM (ofV n)).map .agg
  |.tuple cs=>(cs.toList.mapM (ofV n)).map .tup
  |_=>none
def EF:Nat:=8
abbrev Tm:=N16 (N16 (Option CV))
def Tm.empty:Tm:=N16.all (N16.all none)
inductive Opd where
 |tmp (f:Tm->N16 (Option CV)) (g:N16 (Option CV)->Option CV)
 |con (v:CV)
 |bad
def Ei(t:Nat)(tm:Tm):Option CV:=N16.sel (t%16) (N16.sel (t/16) tm)
def WD(t:Nat)(v:CV)(tm:Tm):Tm:=N16.upd (t/16) (N16.upd (t%16) (some v) (N16.sel (t/16) tm)) tm
def RQ(t:Nat):Opd:=bif zB t 256 then(match N16.selB (t/16),N16.selB (t%16)with
 |.mk f,.mk g=>.tmp f g)else .bad
inductive Dst where
 |none
 |at (f:Tm->N16 (Option CV)) (g:Option CV->N16 (Option CV)->N16 (Option CV)) (h:N16 (Option CV)->Tm->Tm)
def Dg(nt:Nat):Option Tmp->Option Dst
 |.none=>some .none
 |some d=>bif zB d nt&&zB d 256 then(match N16.selB (d/16),N16.updB (d%16),N16.updB (d/16)with
  |.mk f,.mk g,.mk h=>some (.at f g h))else Option.none
def De(x:Dst)(v:CV)(tm:Tm):Tm:=Dst.rec (motive:=λ_=>Tm) tm (λf g h=>h (g (some v) (f tm)) tm) x
def opd(P:zZ):eo->Opd
 |.tmp t=>RQ t
 |.const v=>match ofV EF v with
  |some v=>.con v
  |none=>.bad
 |.global g=>bif zB g P.globals.size then .con (.ptr g 0)else .bad
 |.func f=>.con (.func f [] [])
def Opd.eval(x:Opd)(tm:Tm):Option CV:=Opd.rec (motive:=λ_=>Option CV) (λf g=>g (f tm)) (λv=>some v) none x
def Rg(P:zZ):List eo->List Opd
 |[]=>[]
 |x::xs=>opd P x::Rg P xs
def If(l:List Opd)(tm:Tm):Option (List CV):=List.rec (motive:=λ_=>Option (List CV)) (some []) (λx _ ih=>iO (motive:=λ_=>Option (List CV)) none (λv=>iO (motive:=λ_=>Option (List CV)) none (λvs=>some (v::vs)) ih) (x.eval tm)) l
structure TyE where
 desc:lE
 size:Nat
 bytes:Nat
 zero:Option Value
def Ac(P:zZ)(t:zL):Option TyE:=
 match P.info? t with
 |none=>none
 |some i=>match P.underlying t with
  |none=>none
  |some d=>some {desc:=d,size:=i.size,bytes:=i.bytes,zero:=i.zero}
def Bs:lE->Bool
 |.struct _|.array _ _=>true
 |_=>false
def BW(P:zZ)(t:zL):Option CV:=
 match Ac P t with
 |none=>none
 |some i=>match i.zero with
  |none=>none
  |some v=>ofV EF v
noncomputable def JO(t:Tr CV)(k:Tr CV->Tr CV):Tr CV:=Tr.rec (motive:=λ_=>Tr CV) (k .leaf) (λv l r _ _=>k (.node v l r)) t
noncomputable def SZ(t:Tr CV)(k:Tr CV->Tr CV):Tr CV:=Tr.rec (motive:=λ_=>Tr CV) (k .leaf) (λv l r _ _=>JO l λl=>JO r λr=>k (.node v l r)) t
def lay(t:Tr CV)(i:Nat):List CV->Tr CV
 |[]=>t
 |v::vs=>SZ (t.set big i (some v)) λt=>lay t (i+1) vs
theorem Ku(t:Tr CV)(k:Tr CV->Tr CV):JO t k=k t:=by cases t<;>rfl
theorem QO(t:Tr CV)(k:Tr CV->Tr CV):SZ t k=k t:=by
 cases t with
 |leaf=>rfl
 |node v l r=>show JO l (λl=>JO r λr=>k (.node v l r))=_;rw[Ku,Ku]
def Vx(t:Tr CV):Nat->Nat->Option (List CV)
 |_,0=>some []
 |i,n+1=>match t.get i with
  |none=>none
  |some v=>match Vx t (i+1) n with
   |none=>none
   |some vs=>some (v::vs)
def alloc(S:St)(o:Bp):Option (Nat×St):=
 match S with
 |⟨h,n,k⟩=>bif zB n lim then some (n,⟨h.set big n (some o),n+1,k⟩)else none
def MY(ty:Nat)(cells:List CV):Bp:=.row (lay .leaf 0 cells) 0 cells.length true 0 0 ty
def U1(cells:List CV):Bp:=MY 0 cells
def KS(cells:List CV)(id sz ty:Nat):Bp:=.row (lay .leaf 0 cells) 0 cells.length true id sz ty
def L8(S:St)(b o n:Nat):Option (List CV):=
 match S.heap.get b with
 |some (.row c sh hi _ _ _ _)=>bif ic (o+n) hi then Vx c (o+sh) n else none
 |_=>none
def VJ(S:St)(b o:Nat):Option CV:=
 match S.heap.get b with
 |some (.row c sh hi _ _ _ _)=>bif zB o hi then c.get (o+sh)else none
 |_=>none
def Cc(S:St)(b o:Nat)(vs:List CV):Option St:=
 match S with
 |⟨h,n,k⟩=>match h.get b with
  |some (.row c sh hi true id sz ty)=>bif ic (o+vs.length) hi&&zB (hi+sh) lim&&zB b lim then some ⟨h.set big b (some (.row (lay c (o+sh) vs) sh hi true id sz ty)),n,k⟩else none
  |_=>none
def Wn(size:Nat)(agg:Bool)(a:CV)(S:St):Option CV:=
 match a with
 |.ptr b o=>bif agg then(match L8 S b o size with
   |some l=>some (.agg l)
   |none=>none)else VJ S b o
 |_=>none
def Aa:List CV->Bool
 |[]=>true
 |.agg _::_=>false
 |.tup _::_=>false
 |_::l=>Aa l
def Qp(size:Nat)(a v:CV)(S:St):Option St:=
 match a with
 |.ptr b o=>bif zD v.cells.length size&&Aa v.cells then Cc S b o v.cells else none
 |_=>none
def IK(size:Nat)(agg:Bool)(cs:List CV)(off:Nat):Option CV:=bif agg then some (.agg ((cs.drop off).take size))else cs[off]?
def setCells:List CV->Nat->List CV->List CV
 |cs,_,[]=>cs
 |cs,i,v::vs=>setCells (cs.set i v) (i+1) vs
def Pb:List CV->List (Nat×Nat×CV)->Option (List CV)
 |cells,[]=>some cells
 |cells,(off,size,v)::rest=>bif zD v.cells.length size&&ic (off+v.cells.length) cells.length then Pb (setCells cells off v.cells) rest else none
def Fp:List (Nat×Nat×Opd)->Tm->Option (List (Nat×Nat×CV))
 |[],_=>some []
 |(i,n,x)::xs,tm=>match x.eval tm with
  |none=>none
  |some v=>match Fp xs tm with
   |none=>none
   |some vs=>some ((i,n,v)::vs)
def DH(P:zZ)(place:Nat->Option (Nat×Nat)):List (Nat×eo)->Option (List (Nat×Nat×Opd))
 |[]=>some []
 |(i,x)::xs=>match place i,DH P place xs with
  |some (o,n),some l=>some ((o,n,opd P x)::l)
  |_,_=>none
def KI(P:zZ):List Field->Option (List (Nat×Nat))
 |[]=>some []
 |f::fs=>match Ac P f.type,KI P fs with
  |some i,some l=>some ((f.offset,i.size)::l)
  |_,_=>none
def rep(zs:List CV):Nat->List CV
 |0=>[]
 |n+1=>zs++rep zs n
def PI:Cap->Nat->Option Cap
 |.ex n,l=>bif ic l n then some (.ex (n-l))else none
 |.sy id base,l=>bif zB l base then some (.sy id (base-l))else none
def Il(n:Nat):Cap->Bool
 |.ex m=>ic n m
 |.sy _ base=>ic n base
def Wm(l:Nat):Cap->Bool
 |.ex n=>zD n l
 |.sy _ _=>false
def LT:CV->Option Nat
 |.int _ (.ofNat n)=>some n
 |_=>none
def Qi(s:List Nat)(lo:Nat)(hi:Option Nat):Option CV:=bif ic lo (hi.getD s.length)&&ic (hi.getD s.length) s.length then some (.str ((s.drop lo).take (hi.getD s.length-lo)))else none
def VF(size b o lo:Nat):Cap->Option CV
 |.sy id base=>bif zD lo base then some (.tail b o (lo*size) id)else none
 |.ex _=>none
def LW(size b o len:Nat)(c:Cap)(lo:Nat)(hi mx:Option Nat):Option CV:=bif ic lo (hi.getD len)then
    match mx with
    |none=>bif Il (hi.getD len) c then(match PI c lo with
         |some c'=>some (.slice b (bif Wm lo c then o else o+lo*size) (hi.getD len-lo) c')
         |none=>VF size b o lo c)else none
    |some m=>bif hi.isSome&&ic (hi.getD len) m&&Il m c then some (.slice b (bif zD m lo then o else o+lo*size) (hi.getD len-lo) (.ex (m-lo)))else none
  else none
def Gp:Option Nat->Bool
 |none=>true
 |some n=>zD n 0
def Pk(S:St)(size bytes e:Nat)(s:CV)(n:Nat)(new:List CV):Option (CV×St):=
  match s with
  |.nils=>(match S with
    |⟨h,nx,k⟩=>bif zB nx lim&&zB new.length lim then some (.slice nx 0 n (.sy k n),⟨h.set big nx (some (KS new k size (e+1))),nx+1,k+1⟩)else none)
  |.slice b o len c=>
    bif Il (len+n) c then(bif Aa new then(match Cc S b (o+len*size) new with
       |some S'=>some (.slice b o (len+n) c,S')
       |none=>none)else none)
    else(match S with
      |⟨h,nx,k⟩=>match h.get b with
        |some (.row cs sh hi wr id sz ty)=>
          bif ic (o+len*size) hi&&zB (sh+o+(len+n)*size) lim&&zB b lim&&zB nx lim&&zB ((len+n)*bytes) lim&&zB (len+n) lim then(match c with
             |.ex _=>some (.slice nx 0 (len+n) (.sy k (len+n)),⟨h.set big nx (some (.row (lay cs (sh+o+len*size) new) (sh+o) ((len+n)*size) true k size (e+1))),nx+1,k+1⟩)
             |.sy id' base=>bif wr&&zD id id'&&zD sz size&&zD (o+base*size) hi&&ic len base&&Aa new then some (.slice nx 0 (len+n) (.sy k (len+n)),⟨(h.set big b none).set big nx (some (.row (lay cs (sh+o+len*size) new) (sh+o) ((len+n)*size) true k size (bif zD ty (e+1)then ty else 0))),nx+1,k+1⟩)else none)
          else none
        |_=>none)
  |_=>none
def lenOf:CV->Option Nat
 |.nils=>some 0
 |.slice _ _ n _=>some n
 |.str s=>some s.length
 |_=>none
def Cm:List Nat->List CV
 |[]=>[]
 |b::l=>.int .u8 b::Cm l
def Do:List Nat->Bool
 |[]=>true
 |b::l=>zB b 256&&Do l
def firstCells(S:St)(size n:Nat):CV->Option (List CV)
 |.nils=>some []
 |.slice b o _ _=>bif zD (n*size) 0 then some []else L8 S b o (n*size)
 |.str s=>bif Do (s.take n)then some (Cm (s.take n))else none
 |_=>none
def Gx:List Nat->List Nat->Option Bool
 |[],[]=>some true
 |a::x,b::y=>bif zD a b then Gx x y else(bif zB a 256&&zB b 256 then some false else none)
 |[],_::_=>some false
 |_::_,[]=>some false
def Gh:Int->Int->Bool
 |.ofNat a,.ofNat b=>zD a b
 |.negSucc a,.negSucc b=>zD a b
 |_,_=>false
def Fi:Int->Int->Bool
 |.ofNat a,.ofNat b=>zB a b
 |.negSucc a,.negSucc b=>zB b a
 |.negSucc _,.ofNat _=>true
 |.ofNat _,.negSucc _=>false
inductive EqT where
 |bool|int|str|ptr|slice|map|func
 |parts (l:List (Nat×Nat×Bool×EqT))
 |no
 deriving Inhabited
inductive UO where
 |one (d:lE)
 |parts (l:List (Nat×Nat×Bool×EqT))
 |no
def Eh:CV->CV->Option Bool
 |.int k a,.int k' b=>if k=k' then some (Gh a b)else none
 |.str a,.str b=>Gx a b
 |.bool a,.bool b=>some (a==b)
 |_,_=>none
def EE:List CV->List CV->Option Bool
 |[],[]=>some true
 |x::xs,y::ys=>(match Eh x y with
  |some true=>EE xs ys
  |some false=>some false
  |none=>none)
 |_,_=>none
def Fh:CV->CV->Option Bool
 |.agg xs,.agg ys=>bif zD xs.length ys.length then EE xs ys else none
 |x,y=>Eh x y
def AK:EqT->CV->Bool
 |.int,.int _ _=>true
 |.str,.str _=>true
 |.bool,.bool _=>true
 |_,_=>false
def AC:Nat->List (Nat×Nat×Bool×EqT)->List CV->Bool
 |_,[],[]=>true
 |i,(off,size,agg,e)::l,x::xs=>zD off i&&zD size 1&& !agg&&AK e x&&AC (i+1) l xs
 |_,_,_=>false
def Cp:lE->CV->Bool
 |.int _,.int _ _=>true
 |.string,.str _=>true
 |.bool,.bool _=>true
 |_,_=>false
def Ak:UO->CV->Bool
 |.one d,k=>Cp d k
 |.parts l,.agg xs=>AC 0 l xs
 |_,_=>false
def find(k:CV):List (CV×CV×Nat)->Option (Option CV)
 |[]=>some none
 |(k',v,_)::es=>match Fh k k' with
  |some true=>some (some v)
  |some false=>find k es
  |none=>none
def upd(k v:CV):List (CV×CV×Nat)->List (CV×CV×Nat)
 |[]=>[]
 |(k',v',n)::es=>match Fh k k' with
  |some true=>(k,v,n)::es
  |_=>(k',v',n)::upd k v es
def Si:CV->CV->Bool
 |.ustr a _ _,.ustr b _ _=>zD a b
 |.opq a,.opq b=>zD a b
 |_,_=>false
def Xj(k:CV):List (CV×Option CV)->Option (Option CV)
 |[]=>none
 |(k',v)::l=>bif Si k k' then some v else Xj k l
def Wo(kd:UO)(m k:CV)(S:St):Option (Option CV):=
 match m with
 |.map r=>(match S.heap.get r with
  |some (.mapQ hs)=>(match kd with
   |.one .string=>Xj k hs
   |_=>none)
  |_=>none)
 |_=>none
def Sm(kd:UO)(z:CV)(ok:Bool)(m k:CV)(S:St):Option CV:=
 match Wo kd m k S with
 |some (some v)=>some (bif ok then .tup [v,.bool true]else v)
 |some none=>some (bif ok then .tup [z,.bool false]else z)
 |none=>
 bif Ak kd k then
  match(match m with
   |.nilm=>some none
   |.map r=>(match S.heap.get r with
    |some (.map es _)=>find k es
    |some (.mapU es)=>find k es
    |_=>none)
   |_=>none:Option (Option CV))with
  |some (some v)=>some (bif ok then .tup [v,.bool true]else v)
  |some none=>some (bif ok then .tup [z,.bool false]else z)
  |none=>none
 else none
def Hp(kd:UO)(m k v:CV)(S:St):Option St:=bif Ak kd k then
  match m,S with
  |.map r,⟨h,nx,nk⟩=>(match h.get r with
   |some (.map es clock)=>(match find k es with
    |some (some _)=>bif zB r lim then some ⟨h.set big r (some (.map (upd k v es) clock)),nx,nk⟩else none
    |some none=>bif zB r lim then some ⟨h.set big r (some (.map (es++[(k,v,clock)]) (clock+1))),nx,nk⟩else none
    |none=>none)
   |_=>none)
  |_,_=>none
 else none
def J0:List Nat->List Nat->Option Bool
 |_,[]=>some false
 |[],_::_=>some true
 |a::x,b::y=>bif zB a 256&&zB b 256 then(bif zB a b then some true else bif zD a b then J0 x y else some false)else none
def fits:iB->Nat
 |.i8=>128|.i16=>32768|.i32=>2147483648|.i64=>9223372036854775808
 |.u8=>256|.u16=>65536|.u32=>4294967296|.u64=>18446744073709551616
def wr(k:iB)(n:Int):Int:=
 match n with
 |.ofNat m=>bif zB m (fits k)then .ofNat m else k.wrap n
 |.negSucc m=>bif k.signed&&zB m (fits k)then .negSucc m else k.wrap n
def Kq(k:iB)(n:Int):Option CV:=Int.rec (motive:=λ_=>Option CV) (λm=>zcb (motive:=λ_=>Option CV) (some (.int k (.ofNat 0))) (λp _=>some (.int k (.ofNat (Nat.succ p)))) m) (λm=>zcb (motive:=λ_=>Option CV) (some (.int k (.negSucc 0))) (λp _=>some (.int k (.negSucc (Nat.succ p)))) m) n
def Qa(op:za8)(k:iB)(a b:Int):Option CV:=
 match op with
 |.add=>Kq k (wr k (Int.add a b))
 |.sub=>Kq k (wr k (zdY a b))
 |.mul=>Kq k (wr k (Int.mul a b))
 |.quo=>bif Gh b 0 then none else some (.int k (wr k (a.tdiv b)))
 |.rem=>bif Gh b 0 then none else some (.int k (a.tmod b))
 |.eql=>some (.bool (Gh a b))
 |.neq=>some (.bool (!Gh a b))
 |.lss=>some (.bool (Fi a b))
 |.leq=>some (.bool (!Fi b a))
 |.gtr=>some (.bool (Fi b a))
 |.geq=>some (.bool (!Fi a b))
 |.and=>some (.int k (k.wrap (ov k.bits a&&&ov k.bits b).toNat))
 |.or=>some (.int k (k.wrap (ov k.bits a|||ov k.bits b).toNat))
 |.xor=>some (.int k (k.wrap (ov k.bits a^^^ov k.bits b).toNat))
 |.andNot=>some (.int k (k.wrap (ov k.bits a&&&~~~ov k.bits b).toNat))
 |_=>none
def Ws:Option Bool->Option CV
 |some b=>some (.bool (!b))
 |none=>none
def Wu:Option Bool->Option CV
 |some b=>some (.bool b)
 |none=>none
def Sw(op:za8)(a b:List Nat):Option CV:=
 match op with
 |.add=>bif zB (a.length+b.length) lim then some (.str (a++b))else none
 |.eql=>Wu (Gx a b)
 |.neq=>Ws (Gx a b)
 |.lss=>Wu (J0 a b)
 |.gtr=>Wu (J0 b a)
 |.leq=>Ws (J0 b a)
 |.geq=>Ws (J0 a b)
 |_=>none
mutual
def DX:EqT->CV->CV->Option Bool
 |.bool,.bool a,.bool b=>some (a==b)
 |.int,.int k a,.int k' b=>if k=k' then some (Gh a b)else none
 |.str,.str a,.str b=>Gx a b
 |.str,.ustr c _ _,.ustr c' _ _=>some (zD c c')
 |.ptr,.nilp,.nilp=>some true
 |.ptr,.nilp,.ptr _ _=>some false
 |.ptr,.ptr b o,.ptr b' o'=>bif zD b b'&&zD o o' then some true else none
 |.ptr,.ptr _ _,.nilp=>some false
 |.slice,.nils,.nils=>some true
 |.slice,.nils,.slice _ _ _ _=>some false
 |.slice,.slice _ _ _ _,.nils=>some false
 |.map,.nilm,.nilm=>some true
 |.map,.nilm,.map _=>some false
 |.map,.map _,.nilm=>some false
 |.func,.nilf,.nilf=>some true
 |.func,.nilf,.func _ _ _=>some false
 |.func,.func _ _ _,.nilf=>some false
 |.parts l,.agg xs,.agg ys=>DE l xs ys
 |_,_,_=>none
def DE:List (Nat×Nat×Bool×EqT)->List CV->List CV->Option Bool
 |[],_,_=>some true
 |(off,size,agg,e)::l,xs,ys=>
  match IK size agg xs off,IK size agg ys off with
  |some a,some b=>(match DX e a b with
   |some true=>DE l xs ys
   |some false=>some false
   |none=>none)
  |_,_=>none
end
def FV(P:zZ):Nat->zL->EqT
 |0,_=>.no
 |d+1,t=>
  match Ac P t with
  |none=>.no
  |some i=>
   match i.desc with
   |.bool=>.bool
   |.int _=>.int
   |.string=>.str
   |.pointer q=>(match Ac P q with
    |some _=>.ptr
    |none=>.no)
   |.slice _=>.slice
   |.map _ _=>.map
   |.func _ _ _=>.func
   |.struct fields=>
    if P.stoodInHeld t then .no else
    .parts ((fields.toList.filter (·.name≠ "_")).map λf=>(f.offset,(match Ac P f.type with|some j=>j.size|none=>0),(match Ac P f.type with|some j=>Bs j.desc|none=>false),FV P d f.type))
   |.array n q=>(match Ac P q with
    |some j=>.parts ((List.range n).map λi=>(i*j.size,j.size,Bs j.desc,FV P d q))
    |none=>.no)
   |_=>.no
def C0(P:zZ)(t:zL)(d:lE):UO:=
 match d with
 |.struct _=>(match FV P 8 t with
  |.parts l=>.parts l
  |_=>.no)
 |.array _ _=>(match FV P 8 t with
  |.parts l=>.parts l
  |_=>.no)
 |d=>.one d
def Wk(v:CV)(f:iB->Int->Option CV):Option CV:=CV.casesOn (motive_1:=λ_=>Option CV) v (λ_=>none) (λk n=>f k n) (λ_=>none) none (λ_ _=>none) none (λ_ _ _ _=>none) none (λ_=>none) (λ_ _ _=>none) none (λ_ _=>none) none (λ_=>none) (λ_=>none) (λ_=>none) (λ_ _ _ _=>none) (λ_ _ _=>none) (λ_ _ _=>none)
def Jl(k:iB):Nat:=IntKind.rec (motive:=λ_=>Nat) 0 1 2 3 4 5 6 7 k
def Ta(v:CV)(f:iB->Int->Option CV)(u:Nat->Nat->Option CV):Option CV:=CV.casesOn (motive_1:=λ_=>Option CV) v (λ_=>none) (λk n=>f k n) (λ_=>none) none (λ_ _=>none) none (λ_ _ _ _=>none) none (λ_=>none) (λ_ _ _=>none) none (λ_ _=>none) none (λ_=>none) (λ_=>none) (λ_=>none) (λ_ _ _ _=>none) (λ_ _ _=>none) (λ_ lo hi=>u lo hi)
def Oh(op:za8)(lo hi:Nat)(y:CV):Option CV:=
 match op,y with
 |.gtr,.int .i64 (.ofNat k)=>bif ic hi k then some (.bool false)else bif zB k lo then some (.bool true)else none
 |_,_=>none
def Xl(op:za8)(f:iB->Int->Int->Option CV)(x y:CV):Option CV:=Ta x (λk a=>Wk y λk' b=>lV (motive:=λ_=>Option CV) none (f k a b) (zD (Jl k) (Jl k'))) λlo hi=>Oh op lo hi y
def JZ:za8->Bool
 |.eql|.neq=>true
 |_=>false
def ON(op:za8)(e:EqT)(x y:CV):Option CV:=
 match op with
 |.eql=>Wu (DX e x y)
 |.neq=>Ws (DX e x y)
 |_=>none
def Xu(op:za8)(e:EqT)(x y:CV):Option CV:=
 match x with
 |.int k a=>(match y with
  |.int k' b=>(match op with
   |.shl=>bif Fi b 0 then none else some (.int k (k.wrap (a*2^(min b.toNat k.bits))))
   |.shr=>bif Fi b 0 then none else some (.int k (a.fdiv (2^(min b.toNat k.bits))))
   |_=>if k=k' then Qa op k a b else none)
  |_=>none)
 |.str a=>(match y with
  |.str b=>Sw op a b
  |_=>none)
 |.nili=>none
 |_=>(match y with
  |.nili=>none
  |_=>ON op e x y)
def DS:List CV->Option (List Nat)
 |[]=>some []
 |.int .u8 (.ofNat n)::l=>(match DS l with
  |some s=>bif zB n 256 then some (n::s)else none
  |none=>none)
 |_=>none
inductive Jd where
 |val (v:CV)
 |undef
 |call (f:zaU) (args:List CV)
 deriving Inhabited
inductive OpC where
 |pure (f:Tm->Option CV)
 |read (f:Tm->St->Option CV)
 |new (f:Tm->Option (Bp×(Nat->CV)))
 |chain (f:Tm->St->Option (Jd×St))
 |bad
 deriving Inhabited
def Oq:Option St->Option (Jd×St)
 |some S=>some (.undef,S)
 |none=>none
def XI:Option (CV×St)->Option (Jd×St)
 |some (v,S)=>some (.val v,S)
 |none=>none
def BE(x:Opd)(f:CV->Option CV)(tm:Tm):Option CV:=iO (motive:=λ_=>Option CV) none (λv=>f v) (x.eval tm)
def Ca(x y:Opd)(f:CV->CV->Option CV)(tm:Tm):Option CV:=iO (motive:=λ_=>Option CV) none (λv=>iO (motive:=λ_=>Option CV) none (λu=>f v u) (y.eval tm)) (x.eval tm)
def QI(c a b:Opd)(tm:Tm):Option CV:=
 match c.eval tm with
 |some (.bool t)=>bif t then a.eval tm else b.eval tm
 |_=>none
def Wx(x:Opd)(tm:Tm):Option (Bp×(Nat->CV)):=
 match x.eval tm with
 |some v=>bif zB v.cells.length lim then some (U1 v.cells,λb=>.ptr b 0)else none
 |none=>none
def Ej(zs:List CV)(ps:List (Nat×Nat×Opd))(tm:Tm):Option CV:=
 match Fp ps tm with
 |some vs=>(match Pb zs vs with
  |some cs=>some (.agg cs)
  |none=>none)
 |none=>none
def BG(len:Nat)(zs:List CV)(ps:List (Nat×Nat×Opd))(tm:Tm):Option (Bp×(Nat->CV)):=
 match Fp ps tm with
 |some vs=>(match Pb zs vs with
  |some cs=>bif zB cs.length lim then some (U1 cs,λb=>.slice b 0 len (.ex len))else none
  |none=>none)
 |none=>none
def Rn(size:Nat)(agg:Bool)(a:Opd)(tm:Tm)(S:St):Option CV:=
 match a.eval tm with
 |some a=>Wn size agg a S
 |none=>none
def KY(size:Nat)(a x:Opd)(tm:Tm)(S:St):Option (Jd×St):=
 match a.eval tm,x.eval tm with
 |some a,some x=>Oq (Qp size a x S)
 |_,_=>none
def I7:CV->Option CV
 |.ptr b o=>some (.ptr b o)
 |.func f fi ca=>some (.func f fi ca)
 |_=>none
def XH:CV->Option CV
 |.bool b=>some (.bool (!b))
 |_=>none
def XE:CV->Option CV
 |.int k n=>some (.int k (wr k (zdY 0 n)))
 |_=>none
def OT(k:iB):CV->Option CV
 |.int _ n=>some (.int k (wr k n))
 |_=>none
def OE:CV->Option CV
 |.str s=>some (.str s)
 |_=>none
def Fc(x:Opd)(tm:Tm)(S:St):Option (Jd×St):=
 match x.eval tm with
 |some (.str s)=>bif zB s.length lim&&Do s then(match S with
   |⟨h,n,k⟩=>bif zB n lim then some (.val (.slice n 0 s.length (.sy k s.length)),⟨h.set big n (some (KS (Cm s) k 1 0)),n+1,k+1⟩)else none)else none
 |_=>none
def E6(x:Opd)(tm:Tm)(S:St):Option CV:=
 match x.eval tm with
 |some .nils=>some (.str [])
 |some (.slice b o n _)=>(match L8 S b o n with
  |some cs=>(match DS cs with
   |some s=>some (.str s)
   |none=>none)
  |none=>none)
 |_=>none
def Iw(x:Opd)(tm:Tm)(S:St):Option CV:=
 match x.eval tm with
 |some .nilp=>some .nilp
 |some (.ptr b o)=>(match S.heap.get b with
  |some (.row _ _ hi _ _ _ _)=>bif zB o hi then some (.ptr b o)else none
  |_=>none)
 |_=>none
def E7(u size:Nat)(x:Opd)(tm:Tm)(S:St):Option CV:=
 match x.eval tm with
 |some .nilp=>some .nilp
 |some (.ptr b 0)=>(match S.heap.get b with
  |some (.row _ _ hi _ _ sz ty)=>bif zD sz 0&&zD ty (u+1)&&ic size hi then some (.ptr b 0)else none
  |_=>none)
 |_=>none
def GS:CV->Option CV
 |.nils=>some .nilp
 |.slice b o _ c=>bif Il 1 c then some (.ptr b o)else none
 |_=>none
def CR(e:Nat)(p n:Opd)(tm:Tm)(S:St):Option (Jd×St):=
 match p.eval tm,n.eval tm with
 |some .nilp,some (.int .i64 (.ofNat 0))=>some (.val (.str []),S)
 |some (.ptr b o),some (.int .i64 (.ofNat n))=>bif zD n 0 then some (.val (.str []),S)else(match L8 S b o n with
  |some cs=>(match DS cs,S with
   |some s,⟨h,nx,k⟩=>(match h.get b with
    |some (.row c sh hi true id sz ty)=>bif zD ty (e+1)&&zB b lim&&zB n lim then some (.val (.str s),⟨h.set big b (some (.row c sh hi false id sz ty)),nx,k⟩)else none
    |_=>none)
   |none,_=>none)
  |none=>none)
 |_,_=>none
def N8(t:zL)(v:CV):Option CV:=some (.iface t v)
def KF(f:zaU)(fi ca:List Opd)(tm:Tm):Option CV:=
 match If fi tm,If ca tm with
 |some fi,some ca=>some (.func f fi ca)
 |_,_=>none
def Xa(_:Tm):Option (Bp×(Nat->CV)):=some (.map [] 0,λr=>.map r)
def GU(zs:List CV)(bytes:Nat)(l c:Opd)(tm:Tm):Option (Bp×(Nat->CV)):=
 match l.eval tm,c.eval tm with
 |some l,some c=>(match LT l,LT c with
  |some l,some c=>bif ic l c&&zB (c*bytes) lim&&zB c lim&&zB (rep zs c).length lim then some (U1 (rep zs c),λb=>.slice b 0 l (.ex c))else none
  |_,_=>none)
 |_,_=>none
def Gy(x:Option Opd)(tm:Tm):Option (Option Nat):=
 match x with
 |none=>some none
 |some x=>match x.eval tm with
  |some v=>(match LT v with
   |some n=>some (some n)
   |none=>none)
  |none=>none
def XA(hi mx:Option Nat):Bool:=
 match mx with
 |none=>true
 |some _=>hi.isSome
inductive SlK where
 |str
 |sl (size:Nat)
 |arr (n size:Nat)
def MR(k:SlK)(x:CV)(lo hi mx:Option Nat):Option CV:=
 match k,x with
 |.str,.str s=>(match mx with
  |none=>Qi s (lo.getD 0) hi
  |some _=>none)
 |.sl size,.slice b o len c=>LW size b o len c (lo.getD 0) hi mx
 |.sl _,.nils=>bif Gp lo&&Gp hi&&Gp mx&&XA hi mx then some .nils else none
 |.arr n size,.ptr b o=>LW size b o n (.ex n) (lo.getD 0) hi mx
 |_,_=>none
def EI(k:SlK)(x:Opd)(lo hi mx:Option Opd)(tm:Tm):Option CV:=
 match x.eval tm,Gy lo tm,Gy hi tm,Gy mx tm with
 |some x,some lo,some hi,some mx=>MR k x lo hi mx
 |_,_,_,_=>none
def Hd(off:Nat):CV->Option CV
 |.ptr b o=>some (.ptr b (o+off))
 |_=>none
def SX(size:Nat)(agg:Bool)(off:Nat):CV->Option CV
 |.agg cs=>IK size agg cs off
 |_=>none
def Eo(len size:Nat)(x ix:CV):Option CV:=
 match x,LT ix with
 |.ptr b o,some n=>bif zB n len then some (.ptr b (o+n*size))else none
 |_,_=>none
def FH(size:Nat)(x ix:CV):Option CV:=
 match x,LT ix with
 |.slice b o len _,some n=>bif zB n len then some (.ptr b (o+n*size))else none
 |_,_=>none
def Lc(len size:Nat)(agg:Bool)(x ix:CV):Option CV:=
 match x,LT ix with
 |.agg cs,some n=>bif zB n len then IK size agg cs (n*size)else none
 |_,_=>none
def Ln(x ix:CV):Option CV:=
 match x,LT ix with
 |.str s,some n=>(match s[n]?with
  |some b=>bif zB b 256 then some (.int .u8 b)else none
  |none=>none)
 |_,_=>none
def Md(kd:UO)(z:CV)(ok:Bool)(m k:Opd)(tm:Tm)(S:St):Option CV:=
 match m.eval tm,k.eval tm with
 |some m,some k=>Sm kd z ok m k S
 |_,_=>none
def DO(kd:UO)(m k v:Opd)(tm:Tm)(S:St):Option (Jd×St):=
 match m.eval tm,k.eval tm,v.eval tm with
 |some m,some k,some v=>Oq (Hp kd m k v S)
 |_,_,_=>none
def Hh(k:CV):List (CV×CV×Nat)->Nat
 |[]=>0
 |(k',_,n)::es=>match Fh k k' with
  |some true=>n
  |_=>Hh k es
def Gg(kd:UO)(z:CV)(m k:Opd)(tm:Tm)(S:St):Option (Jd×St):=
 match m.eval tm,k.eval tm,S with
 |some (.map r),some k,⟨h,nx,nk⟩=>bif Ak kd k then(match h.get r with
  |some (.map es clock)=>(match find k es with
   |some (some v)=>bif zB r lim then some (.val (.tup [v,.int .i64 (.ofNat (Hh k es))]),⟨h.set big r (some (.map (upd k v es) clock)),nx,nk⟩)else none
   |some none=>bif zB r lim then some (.val (.tup [z,.int .i64 (.ofNat clock)]),⟨h.set big r (some (.map (es++[(k,z,clock)]) (clock+1))),nx,nk⟩)else none
   |none=>none)
  |_=>none)
  else none
 |_,_,_=>none
def Gc(n:Nat)(v:CV):List (CV×CV×Nat)->Option (List (CV×CV×Nat))
 |[]=>none
 |(k,u,t)::es=>bif zD t n then some ((k,v,t)::es)else(match Gc n v es with
  |some es'=>some ((k,u,t)::es')
  |none=>none)
def D7(m s x:Opd)(tm:Tm)(S:St):Option (Jd×St):=
 match m.eval tm,s.eval tm,x.eval tm,S with
 |some (.map r),some (.int _ (.ofNat n)),some v,⟨h,nx,nk⟩=>(match h.get r with
  |some (.map es clock)=>(match Gc n v es with
   |some es'=>bif zB r lim then some (.undef,⟨h.set big r (some (.map es' clock)),nx,nk⟩)else none
   |none=>none)
  |_=>none)
 |_,_,_,_=>none
def Fb(x:Opd)(tm:Tm):Option (Bp×(Nat->CV)):=
 match x.eval tm with
 |some (.str s)=>some (.siter s 0,λr=>.ptr r 0)
 |_=>none
def LV(it:Opd)(tm:Tm)(S:St):Option (Jd×St):=
 match it.eval tm,S with
 |some (.ptr r 0),⟨h,nx,nk⟩=>(match h.get r with
  |some (.siter s pos)=>
   (match s[pos]?with
   |none=>some (.val (.tup [.bool false]),⟨h,nx,nk⟩)
   |some c=>bif zB c 128&&zB r lim then some (.val (.tup [.bool true,.int .i64 pos,.int .i32 c]),⟨h.set big r (some (.siter s (pos+1))),nx,nk⟩)else none)
  |_=>none)
 |_,_=>none
def GM(x:Opd)(tm:Tm)(S:St):Option (Jd×St):=
 match x.eval tm,S with
 |some .nilm,⟨h,nx,nk⟩=>bif zB nx lim then some (.val (.ptr nx 0),⟨h.set big nx (some (.miter none 0 [] 0)),nx+1,nk⟩)else none
 |some (.map r),⟨h,nx,nk⟩=>(match h.get r with
  |some (.map _ clock)=>bif zB nx lim then some (.val (.ptr nx 0),⟨h.set big nx (some (.miter (some r) clock [] clock)),nx+1,nk⟩)else none
  |_=>none)
 |_,_=>none
def UD(b:Nat):List Nat->Bool
 |[]=>false
 |x::l=>zD b x||UD b l
def IZ(seen:List Nat):List (CV×CV×Nat)->List (CV×CV×Nat)
 |[]=>[]
 |(k,v,b)::es=>bif UD b seen then IZ seen es else(k,v,b)::IZ seen es
def ES(n:Nat):List (CV×CV×Nat)->Bool
 |[]=>true
 |(_,_,b)::es=>zB b n&&ES n es
def Iy(it:Opd)(tm:Tm)(S:St):Option (Jd×St):=
 match it.eval tm,S with
 |some (.ptr r 0),⟨h,nx,nk⟩=>(match h.get r with
  |some (.miter none _ _ _)=>some (.val (.tup [.bool false]),⟨h,nx,nk⟩)
  |some (.miter (some m) since seen last)=>(match h.get m with
   |some (.map es clock)=>bif ES since es&&ic since last&&zB r lim then(match IZ seen es with
    |[]=>some (.val (.tup [.bool false]),⟨h,nx,nk⟩)
    |[(k,v,b)]=>some (.val (.tup [.bool true,k,v]),⟨h.set big r (some (.miter (some m) since (seen++[b]) clock)),nx,nk⟩)
    |_=>none)else none
   |_=>none)
  |_=>none)
 |_,_=>none
def Ga(b:Nat):List (CV×CV×Nat)->Option (CV×CV)
 |[]=>none
 |(k,v,b')::es=>bif zD b' b then some (k,v)else Ga b es
def F0(it:Opd)(tm:Tm)(S:St):Option CV:=
 match it.eval tm with
 |some (.ptr r 0)=>(match S.heap.get r with
  |some (.miter (some m) _ seen last)=>(match S.heap.get m,seen.getLast? with
   |some (.map es clock),some b=>bif zD clock last then(match Ga b es with
    |some (k,v)=>some (.tup [k,v])
    |none=>none)else none
   |_,_=>none)
  |_=>none)
 |_=>none
def PT(x:Opd)(tm:Tm)(S:St):Option (Jd×St):=
 match x.eval tm,S with
 |some .nilm,⟨h,nx,nk⟩=>some (.val (.tup []),⟨h,nx,nk⟩)
 |some (.map r),⟨h,nx,nk⟩=>(match h.get r with
  |some (.map _ clock)=>bif zB r lim then some (.val (.tup []),⟨h.set big r (some (.map [] clock)),nx,nk⟩)else none
  |_=>none)
 |_,_=>none
def Ly(i:Nat):CV->Option CV
 |.tup vs=>vs[i]?
 |_=>none
def U5(f:Opd)(args:List Opd)(tm:Tm)(S:St):Option (Jd×St):=
 match f.eval tm with
 |some (.func f fi ca)=>(match If args tm with
  |some args=>some (.call f (fi++args++ca),S)
  |none=>none)
 |_=>none
inductive Xv where
 |str|sl|arr (n:Nat)
def VV(k:Xv)(x:CV):Option CV:=
 match k,x with
 |.str,.str s=>some (.int .i64 s.length)
 |.str,.ustr c lo hi=>some (.ulen c lo hi)
 |.sl,.nils=>some (.int .i64 0)
 |.sl,.tail _ _ _ _=>some (.int .i64 0)
 |.sl,.slice _ _ n _=>some (.int .i64 n)
 |.arr n,_=>some (.int .i64 n)
 |_,_=>none
def Qu(x:Opd)(tm:Tm)(S:St):Option CV:=
 match x.eval tm with
 |some .nilm=>some (.int .i64 0)
 |some (.map r)=>(match S.heap.get r with
  |some (.map es _)=>some (.int .i64 es.length)
  |_=>none)
 |_=>none
def Mh(size bytes e:Nat)(s x:Opd)(tm:Tm)(S:St):Option (Jd×St):=
 match s.eval tm,x.eval tm with
 |some s,some x=>(match lenOf x with
  |some 0=>(match s with
   |.nils=>some (.val s,S)
   |.slice _ _ l c=>bif Il l c then some (.val s,S)else none
   |_=>none)
  |some n=>(match firstCells S size n x with
   |some new=>bif zB (n*bytes) lim&&zB n lim&&zB 0 bytes&&zD new.length (n*size)then XI (Pk S size bytes e s n new)else none
   |none=>none)
  |none=>none)
 |_,_=>none
def Xq(x y:CV):Option CV:=
 match x,y with
 |.int k a,.int k' b=>if k=k' then some (.int k (bif Fi b a then b else a))else none
 |_,_=>none
def VU(x y:CV):Option CV:=
 match x,y with
 |.int k a,.int k' b=>if k=k' then some (.int k (bif Fi a b then b else a))else none
 |_,_=>none
def Wv(a b c:Opd)(tm:Tm):Option CV:=
 match Ca a b VU tm,c.eval tm with
 |some m,some z=>VU m z
 |_,_=>none
def XK(k:iB)(a b:Int):Option CV:=Kq k (wr k (Int.add a b))
def XM(k:iB)(a b:Int):Option CV:=Kq k (wr k (zdY a b))
def eqI(_:iB)(a b:Int):Option CV:=some (.bool (Gh a b))
def neI(_:iB)(a b:Int):Option CV:=some (.bool (!Gh a b))
def ltI(_:iB)(a b:Int):Option CV:=some (.bool (Fi a b))
def leI(_:iB)(a b:Int):Option CV:=some (.bool (!Fi b a))
def gtI(_:iB)(a b:Int):Option CV:=some (.bool (Fi b a))
def geI(_:iB)(a b:Int):Option CV:=some (.bool (!Fi a b))
def Xo:za8->Option (iB->Int->Int->Option CV)
 |.add=>some XK
 |.sub=>some XM
 |.eql=>some eqI
 |.neq=>some neI
 |.lss=>some ltI
 |.leq=>some leI
 |.gtr=>some gtI
 |.geq=>some geI
 |_=>none
def Bd:eo->Bool
 |.const .nilIface=>true
 |_=>false
def P5(op:za8)(b:Bool):Option CV:=
 match op with
 |.eql=>some (.bool b)
 |.neq=>some (.bool (!b))
 |_=>none
def V4(op:za8)(x:CV):Option CV:=
 match x with
 |.nili=>P5 op true
 |.iface _ _=>P5 op false
 |_=>none
def Hj:Callee->Bool
 |.builtin .recover=>true
 |_=>false
def T5(nt t:Nat)(o0 o1 o2 o3:eS):Option zL:=
 match o0.guard,o1.guard,o2.guard,o3.guard with
 |none,none,none,none=>(match o0.dst,o0.op,o1.dst,o1.op,o2.dst,o2.op,o3.dst,o3.op with
  |some d0,.call c,some d1,.assign (.tmp x1),some d2,.move (.tmp x2),some d3,.binOp .neq ty (.tmp x3) y _=>bif Hj c.callee&&zD x1 d0&&zD x2 d1&&zD x3 d2&&zD t d3&&Bd y&&zB d0 nt&&zB d1 nt&&zB d2 nt&&zB d3 nt then some ty else none
  |_,_,_,_,_,_,_,_=>none)
 |_,_,_,_=>none
def Qg(nt:Nat):Code->Option zL
 |.seq (.region _ ops0 false) (.seq (.region _ ops1 false) (.cond (.tmp t) _ .skip))=>(match ops0.toList,ops1.toList with
  |[o0,o1],[o2,o3]=>T5 nt t o0 o1 o2 o3
  |_,_=>none)
 |_=>none
def PN:lE->Bool
 |.interface _=>true
 |_=>false
def MZ(P:zZ)(f:zaU):Bool:=
 match P.funcs[f]?with
 |some fn=>(match fn.body with
  |some c=>(match Qg fn.ntmps c with
   |some ty=>(match Ac P ty with
    |some i=>PN i.desc&&fn.results.isEmpty&& !(fn.name== "runtime.NumGoroutine")
    |none=>false)
   |none=>false)
  |none=>false)
 |none=>false
def Qe(idle:zaU->Bool)(x:Opd)(tm:Tm)(S:St):Option (Jd×St):=
 match x.eval tm with
 |some (.func f _ _)=>bif idle f then some (.undef,S)else none
 |_=>none
def UU(size:Nat)(d x:Opd)(tm:Tm)(S:St):Option (Jd×St):=
 match d.eval tm,x.eval tm with
 |some d,some x=>(match lenOf x with
  |some n=>bif zD n 0 then(match d with
    |.nils=>some (.val (.int .i64 0),S)
    |.slice _ _ _ _=>some (.val (.int .i64 0),S)
    |_=>none)
   else(match d with
    |.slice b o l _=>bif ic n l then(match firstCells S size n x with
     |some new=>bif Aa new then(match Cc S b o new with
      |some S'=>some (.val (.int .i64 n),S')
      |none=>none)else none
     |none=>none)else none
    |_=>none)
  |none=>none)
 |_,_=>none
def F4(P:zZ)(b:Builtin)(ts:List zL)(args:List eo):OpC:=
 match b,ts,args with
 |.len,[t],[x]=>(match Ac P t with
  |none=>.bad
  |some i=>match i.desc with
   |.string=>.pure (BE (opd P x) (VV .str))
   |.slice _=>.pure (BE (opd P x) (VV .sl))
   |.array n _=>.pure (BE (opd P x) (VV (.arr n)))
   |.map _ _=>.read (Qu (opd P x))
   |_=>.bad)
 |.append,[t,u],[s,x]=>(match Ac P t,Ac P u with
  |some i,some j=>(match i.desc,j.desc with
   |.slice _,.int _=>.bad
   |.slice e,_=>(match Ac P e,BW P e with
    |some ei,some z=>bif zD z.cells.length ei.size&&zB 0 ei.size then .chain (Mh ei.size ei.bytes e (opd P s) (opd P x))else .bad
    |_,_=>.bad)
   |_,_=>.bad)
  |_,_=>.bad)
 |.clear,[t],[x]=>(match Ac P t with
  |some i=>(match i.desc with
   |.map _ _=>.chain (PT (opd P x))
   |_=>.bad)
  |none=>.bad)
 |.unsafeSliceData,_,[x]=>.pure (BE (opd P x) GS)
 |.unsafeString,[t,_],[x,n]=>(match Ac P t with
  |some i=>(match i.desc with
   |.pointer e=>(match Ac P e with
    |some ei=>(match ei.desc with
     |.int .u8=>bif zD ei.size 1 then .chain (CR e (opd P x) (opd P n))else .bad
     |_=>.bad)
    |none=>.bad)
   |_=>.bad)
  |none=>.bad)
 |.copy,[t,_],[d,x]=>(match Ac P t with
  |some i=>(match i.desc with
   |.slice e=>(match Ac P e with
    |some ei=>.chain (UU ei.size (opd P d) (opd P x))
    |none=>.bad)
   |_=>.bad)
  |none=>.bad)
 |.min,_,[x,y]=>.pure (Ca (opd P x) (opd P y) Xq)
 |.max,_,[x,y]=>.pure (Ca (opd P x) (opd P y) VU)
 |.max,_,[x,y,z]=>.pure (Wv (opd P x) (opd P y) (opd P z))
 |_,_,_=>.bad
def opC(P:zZ)(op:Op):OpC:=
 match op with
 |.move x|.assign x=>.pure (opd P x).eval
 |.pick c a b=>.pure (QI (opd P c) (opd P a) (opd P b))
 |.alloc t=>(match BW P t with
  |some z=>bif zB z.cells.length lim then .new (λ_=>some (MY (t+1) z.cells,λb=>.ptr b 0))else .bad
  |none=>.bad)
 |.box _ x=>.new (Wx (opd P x))
 |.build t ps=>(match Ac P t,BW P t with
  |some i,some z=>(match i.desc with
   |.struct fields=>(match KI P fields.toList with
    |some pl=>(match DH P (pl[·]?) ps.toList with
     |some l=>.pure (Ej z.cells l)
     |none=>.bad)
    |none=>.bad)
   |.array _ e=>(match Ac P e with
    |some ei=>(match DH P (λi=>some (i*ei.size,ei.size)) ps.toList with
     |some l=>.pure (Ej z.cells l)
     |none=>.bad)
    |none=>.bad)
   |_=>.bad)
  |_,_=>.bad)
 |.buildSlice t len ps=>(match Ac P t with
  |some i=>(match i.desc with
   |.slice e=>(match Ac P e with
    |some ei=>(match DH P (λi=>some (i*ei.size,ei.size)) ps.toList with
     |some l=>bif zD (len*ei.size) 0 then .new (BG len [] l)else(match BW P e with
      |some z=>bif ic (len*ei.size) 16777216&&zD z.cells.length ei.size then .new (BG len (rep z.cells len) l)else .bad
      |none=>.bad)
     |none=>.bad)
    |none=>.bad)
   |_=>.bad)
  |none=>.bad)
 |.load t a=>(match Ac P t with
  |some i=>.read (Rn i.size (Bs i.desc) (opd P a))
  |none=>.bad)
 |.store t a x=>(match Ac P t with
  |some i=>.chain (KY i.size (opd P a) (opd P x))
  |none=>.bad)
 |.nilCheck x=>.pure (BE (opd P x) I7)
 |.binOp op t x y _=>(match Ac P t with
  |some i=>(match i.desc,Xo op with
   |.int _,some f=>.pure (Ca (opd P x) (opd P y) (Xl op f))
   |.interface _,_=>bif Bd y then .pure (BE (opd P x) (V4 op))else .bad
   |_,_=>bif JZ op&&Bs i.desc&&P.eqGuardType P.depth t then .bad else .pure (Ca (opd P x) (opd P y) (Xu op (bif JZ op then FV P EF t else .no))))
  |none=>.bad)
 |.unOp .not _ x=>.pure (BE (opd P x) XH)
 |.unOp .neg _ x=>.pure (BE (opd P x) XE)
 |.convert src dst x=>(match Ac P src,Ac P dst with
  |some i,some j=>(match i.desc,j.desc with
   |.int _,.int k=>.pure (BE (opd P x) (OT k))
   |.string,.string=>.pure (BE (opd P x) OE)
   |.pointer u,.unsafePointer=>(match Ac P u with
    |some ui=>bif zD ui.size 0 then .bad else .read (Iw (opd P x))
    |none=>.bad)
   |.unsafePointer,.pointer u=>(match Ac P u with
    |some ui=>bif zD ui.size 0 then .bad else .read (E7 u ui.size (opd P x))
    |none=>.bad)
   |.string,.slice e=>(match Ac P e with
    |some k=>(match k.desc with
     |.int .u8=>.chain (Fc (opd P x))
     |_=>.bad)
    |none=>.bad)
   |.slice e,.string=>(match Ac P e with
    |some k=>(match k.desc with
     |.int .u8=>.read (E6 (opd P x))
     |_=>.bad)
    |none=>.bad)
   |_,_=>.bad)
  |_,_=>.bad)
 |.makeInterface t x=>(match Ac P t with
  |some i=>(match i.desc with
   |.interface _=>.bad
   |_=>.pure (BE (opd P x) (N8 t)))
  |none=>.bad)
 |.makeFunc (.func f) fi ca=>.pure (KF f (Rg P fi.toList) (Rg P ca.toList))
 |.makeMap _ none=>.new Xa
 |.makeSlice t l c=>(match Ac P t with
  |some i=>(match i.desc with
   |.slice e=>(match Ac P e with
    |some ei=>bif zD ei.size 0 then .bad else(match BW P e with
     |some z=>bif zD z.cells.length ei.size then .new (GU z.cells ei.bytes (opd P l) (opd P c))else .bad
     |none=>.bad)
    |none=>.bad)
   |_=>.bad)
  |none=>.bad)
 |.slice t x lo hi mx=>(match Ac P t with
  |some i=>(match i.desc with
   |.string=>.pure (EI .str (opd P x) (lo.map (opd P)) (hi.map (opd P)) (mx.map (opd P)))
   |.slice e=>(match Ac P e with
    |some ei=>.pure (EI (.sl ei.size) (opd P x) (lo.map (opd P)) (hi.map (opd P)) (mx.map (opd P)))
    |none=>.bad)
   |.array n e=>(match Ac P e with
    |some ei=>.pure (EI (.arr n ei.size) (opd P x) (lo.map (opd P)) (hi.map (opd P)) (mx.map (opd P)))
    |none=>.bad)
   |_=>.bad)
  |none=>.bad)
 |.fieldAddr s x f=>(match Ac P s with
  |some i=>(match i.desc with
   |.struct fields=>(match fields[f]?with
    |some fd=>(match Ac P fd.type with
     |some fi=>bif zD fi.size 0 then .bad else .pure (BE (opd P x) (Hd fd.offset))
     |none=>.bad)
    |none=>.bad)
   |_=>.bad)
  |none=>.bad)
 |.field t x f=>(match Ac P t with
  |some i=>(match i.desc with
   |.struct fields=>(match fields[f]?with
    |some fd=>(match Ac P fd.type with
     |some fi=>.pure (BE (opd P x) (SX fi.size (Bs fi.desc) fd.offset))
     |none=>.bad)
    |none=>.bad)
   |_=>.bad)
  |none=>.bad)
 |.indexAddr t x ix=>(match Ac P t with
  |some i=>(match i.desc with
   |.array len e=>(match Ac P e with
    |some ei=>.pure (Ca (opd P x) (opd P ix) (Eo len ei.size))
    |none=>.bad)
   |.slice e=>(match Ac P e with
    |some ei=>.pure (Ca (opd P x) (opd P ix) (FH ei.size))
    |none=>.bad)
   |_=>.bad)
  |none=>.bad)
 |.index t x ix=>(match Ac P t with
  |some i=>(match i.desc with
   |.array len e=>(match Ac P e with
    |some ei=>.pure (Ca (opd P x) (opd P ix) (Lc len ei.size (Bs ei.desc)))
    |none=>.bad)
   |.string=>.pure (Ca (opd P x) (opd P ix) Ln)
   |_=>.bad)
  |none=>.bad)
 |.lookup t x k ok=>(match Ac P t with
  |some i=>(match i.desc with
   |.map kt et=>(match Ac P kt,BW P et with
    |some ki,some z=>.read (Md (C0 P kt ki.desc) z ok (opd P x) (opd P k))
    |_,_=>.bad)
   |_=>.bad)
  |none=>.bad)
 |.mapUpdate t m k x|.insert t m k x=>(match Ac P t with
  |some i=>(match i.desc with
   |.map kt _=>(match Ac P kt with
    |some ki=>.chain (DO (C0 P kt ki.desc) (opd P m) (opd P k) (opd P x))
    |none=>.bad)
   |_=>.bad)
  |none=>.bad)
 |.mapEntry t m k=>(match Ac P t with
  |some i=>(match i.desc with
   |.map kt et=>(match Ac P kt,BW P et with
    |some ki,some z=>.chain (Gg (C0 P kt ki.desc) z (opd P m) (opd P k))
    |_,_=>.bad)
   |_=>.bad)
  |none=>.bad)
 |.entryStore _ m s x=>.chain (D7 (opd P m) (opd P s) (opd P x))
 |.range t x=>(match Ac P t with
  |some i=>(match i.desc with
   |.string=>.new (Fb (opd P x))
   |.map _ _=>.chain (GM (opd P x))
   |_=>.bad)
  |none=>.bad)
 |.next it true=>.chain (LV (opd P it))
 |.next it false=>.chain (Iy (opd P it))
 |.entry it=>.read (F0 (opd P it))
 |.extract t i=>.pure (BE (opd P t) (Ly i))
 |.call c=>(match c.callee with
  |.value f=>.chain (U5 (opd P f) (Rg P c.args.toList))
  |.builtin b=>F4 P b c.argTypes.toList c.args.toList
  |.invoke _ _=>.bad)
 |.defer c=>(match c.callee,c.args.toList with
  |.value f,[]=>.chain (Qe (MZ P) (opd P f))
  |_,_=>.bad)
 |_=>.bad
end
noncomputable section
inductive N6 where
 |fail
 |ok (v:CV) (S:St)
abbrev Call:=zaU->List CV->St->N6
inductive Res where
 |fail
 |normal (tm:Tm) (S:St)
 |exit (id:Nat) (tm:Tm) (S:St)
 |ret (tm:Tm) (S:St)
def AV:CV:=.tup []
def JM(all:List eS)(o:eS):Option (Option (Tmp×Bool)):=
 match o.guard with
 |none=>some none
 |some (j,want)=>(match all[j]?with
  |some oj=>(match oj.dst with
   |some d=>some (some (d,want))
   |none=>none)
  |none=>none)
inductive GuC where
 |free
 |on (x:Opd) (want:Bool)
 |bad
def guC(all:List eS)(o:eS):GuC:=
 match JM all o with
 |none=>.bad
 |some none=>.free
 |some (some (d,want))=>.on (RQ d) want
def Bm(g:GuC)(tm:Tm):Option Bool:=
 match g with
 |.free=>some true
 |.on x want=>(match x.eval tm with
  |some (.bool b)=>some (b==want)
  |some _=>some false
  |none=>none)
 |.bad=>none
def Pf(eq:CV->CV->Bool):List CV->List CV->Bool
 |[],[]=>true
 |a::x,b::y=>eq a b&&Pf eq x y
 |_,_=>false
def VI:Cap->Cap->Bool
 |.ex a,.ex b=>zD a b
 |.sy i a,.sy j b=>zD i j&&zD a b
 |_,_=>false
def Mm:List Nat->List Nat->Bool
 |[],[]=>true
 |a::x,b::y=>zD a b&&Mm x y
 |_,_=>false
def WW(a b:iB):Bool:=decide (a=b)
def Vr:Nat->CV->CV->Bool
 |0,_,_=>false
 |n+1,x,y=>match x,y with
  |.bool a,.bool b=>a==b
  |.int k a,.int j b=>WW k j&&Gh a b
  |.str a,.str b=>Mm a b
  |.nilp,.nilp=>true
  |.ptr a i,.ptr b j=>zD a b&&zD i j
  |.nils,.nils=>true
  |.slice a i l c,.slice b j m d=>zD a b&&zD i j&&zD l m&&VI c d
  |.nilm,.nilm=>true
  |.map a,.map b=>zD a b
  |.func f x y,.func g u v=>zD f g&&Pf (Vr n) x u&&Pf (Vr n) y v
  |.nilf,.nilf=>true
  |.iface t x,.iface u y=>zD t u&&Vr n x y
  |.nili,.nili=>true
  |.agg x,.agg y=>Pf (Vr n) x y
  |.tup x,.tup y=>Pf (Vr n) x y
  |.opq i,.opq j=>zD i j
  |_,_=>false
def bit(m i:Nat):Bool:=zD (oP (Nat.shiftRight m i) 2) 1
def Fl(done:List Nat):List Edge->Nat
 |[]=>0
 |e::l=>bif zR .any e then Nat.lor (Nat.lor (Nat.shiftLeft 1 e.on) ((done[e.on]?).getD 0)) (Fl done l)else Fl done l
def Ce:List Nat->List eS->List Nat
 |done,[]=>done
 |done,o::l=>Ce (done++[Fl done o.after.toList]) l
def yN:OpC->Bool
 |.chain _=>true
 |_=>false
structure DOp where
 i:Nat
 g:GuC
 c:OpC
 dst:Dst
 pre:Nat
 keep:Bool
structure Rec where
 i:Nat
 pend:List (Nat×Nat×Bp)
 f:St->Option CV
 v:CV
structure DSt where
 tm:Tm
 S:St
 hist:List (Nat×St)
 pend:List (Nat×Nat×Bp)
 recs:List Rec
def AA:List (Nat×Nat×Bp)->St->St
 |[],S=>S
 |(_,b,o)::l,S=>AA l ⟨S.heap.set big b (some o),S.next,S.nk⟩
def Ba(pre:Nat):List (Nat×Nat×Bp)->List (Nat×Nat×Bp)×List (Nat×Nat×Bp)
 |[]=>([],[])
 |(i,b,o)::l=>match Ba pre l with
  |(x,y)=>bif bit pre i then((i,b,o)::x,y)else(x,(i,b,o)::y)
def PK(v:CV)(f:St->Option CV)(S:St):Bool:=
 match f S with
 |some u=>Vr 6 v u
 |none=>false
def FZ(pre:Nat)(v:CV)(f:St->Option CV):List (Nat×St)->Bool
 |[]=>true
 |(c,S)::l=>(bit pre c||PK v f S)&&FZ pre v f l
def FM(pre:Nat)(S:St):List Rec->Bool
 |[]=>true
 |r::l=>(bit pre r.i||PK r.v (λS=>r.f (AA r.pend S)) S)&&FM pre S l
def Ew(pre:Nat):List Rec->List Rec
 |[]=>[]
 |r::l=>⟨r.i,(Ba pre r.pend).2,r.f,r.v⟩::Ew pre l
def Ch(call:Call)(x:Option (Jd×St)):N6:=
 match x with
 |some (.val v,S)=>.ok v S
 |some (.undef,S)=>.ok AV S
 |some (.call g args,S)=>call g args S
 |none=>.fail
def Xn(d:DOp)(base:Nat)(call:Call)(x:DSt):Option (CV×DSt):=
 match d.c with
 |.pure f=>(match f x.tm with
  |some v=>some (v,x)
  |none=>none)
 |.read f=>(match Ba d.pre x.pend with
  |(mine,_)=>(match f x.tm (AA mine x.S)with
   |some v=>bif FZ d.pre v (λS=>f x.tm (AA mine S)) x.hist then some (v,⟨x.tm,x.S,x.hist,x.pend,bif d.keep then⟨d.i,mine,f x.tm,v⟩::x.recs else x.recs⟩)else none
   |none=>none))
 |.new f=>(match f x.tm with
  |some (o,mk)=>bif o.wr then some (mk (base+d.i),⟨x.tm,x.S,x.hist,(d.i,base+d.i,o)::x.pend,x.recs⟩)else none
  |none=>none)
 |.chain f=>(match Ba d.pre x.pend with
  |(mine,rest)=>(match Ch call (f x.tm (AA mine x.S))with
   |.ok v S=>(match Ew d.pre x.recs with
    |recs=>bif FM d.pre S recs then some (v,⟨x.tm,S,(d.i,x.S)::x.hist,rest,recs⟩)else none)
   |.fail=>none))
 |.bad=>none
def Vy(base:Nat)(call:Call):List DOp->DSt->Option DSt
 |[],x=>some x
 |d::l,x=>(match Bm d.g x.tm with
  |some true=>(match Xn d base call x with
   |some (v,y)=>Vy base call l ⟨De d.dst v y.tm,y.S,y.hist,y.pend,y.recs⟩
   |none=>none)
  |some false=>Vy base call l ⟨De d.dst AV x.tm,x.S,x.hist,x.pend,x.recs⟩
  |none=>none)
def EC(all:List eS)(o:eS):List Tmp:=o.dst.toList++(match JM all o with|some (some (d,_))=>[d]|_=>[])++o.op.operands.toList.filterMap λ|.tmp t=>some t|_=>none
def N9(pres:List Nat)(i j:Nat):Bool:=bif zB i j then bit ((pres[j]?).getD 0) i else bit ((pres[i]?).getD 0) j
def Ge(t:Tr (List Nat))(i:Nat):List eS->Tr (List Nat)
 |[]=>t
 |o::l=>Ge (match o.dst with
  |some d=>t.set big d (some (i::(t.get d).getD []))
  |none=>t) (i+1) l
def F8(t:Tr (List Nat))(pres:List Nat)(j:Nat):List Tmp->Bool
 |[]=>true
 |d::l=>(((t.get d).getD []).all λi=>zD i j||N9 pres i j)&&F8 t pres j l
def Is(all:List eS)(t:Tr (List Nat))(pres:List Nat)(j:Nat):List eS->Bool
 |[]=>true
 |o::l=>F8 t pres j (EC all o)&&Is all t pres (j+1) l
def Ee:List eS->Bool
 |[]=>true
 |o::l=>(match o.dst with|some d=>zB d lim|none=>true)&&Ee l
def Lv(all:List eS)(pres:List Nat):Bool:=Ee all&&Is all (Ge .leaf 0 all) pres 0 all
def Bz(P:zZ)(i:Nat):List eS->List Nat
 |[]=>[]
 |o::l=>bif yN (opC P o.op)then i::Bz P (i+1) l else Bz P (i+1) l
def Hi(pres:List Nat):List Nat->Bool
 |[]=>true
 |i::l=>(l.all λj=>bit ((pres[j]?).getD 0) i)&&Hi pres l
def Hg(i:Nat):List eS->Bool
 |[]=>true
 |o::l=>(o.after.toList.all λe=> !(zR .any e)||zB e.on i)&&Hg (i+1) l
def PG(pres:List Nat)(ch:List Nat)(i:Nat):Bool:=ch.any λj=>zB i j&& !(bit ((pres[j]?).getD 0) i)
def JI(P:zZ)(nt:Nat)(all:List eS)(pres ch:List Nat)(i:Nat):List eS->List Nat->Option (List DOp)
 |o::l,m::ms=>(match Dg nt o.dst,JI P nt all pres ch (i+1) l ms with
  |some dst,some ds=>some (DOp.mk i (guC all o) (opC P o.op) dst m (PG pres ch i)::ds)
  |_,_=>none)
 |[],[]=>some []
 |_,_=>none
def noSelect(all:List eS):Bool:=all.all λo=>match o.op with|.select _ _=>false|_=>true
structure Uq where
 pures:List ((Tm->Option CV)×Dst)
 size:Nat
 x:Opd
 y:Opd
 dst:Dst
inductive DrC where
 |mk (n:Nat) (dops:List DOp)
 |two (n:Nat) (dops:List DOp) (a b:Uq)
 |bad
def E4(P:zZ)(nt:Nat)(all:List eS)(pres ch:List Nat):Option (List DOp):=bif Lv all pres&&Hi pres ch&&Hg 0 all&&noSelect all then JI P nt all pres ch 0 all pres else none
def IA:Nat->(Nat->Bool)->Bool
 |0,_=>true
 |n+1,f=>f n&&IA n f
def IC(o:eS)(q:Nat):Bool:=o.after.toList.any λe=>zD e.on q&&zR .any e
def TP(p:Nat)(o:eS):Bool:=IA p (IC o)
def IV(p:Nat)(o:eS):Bool:=
 match o.guard with
 |none=>true
 |some (j,_)=>zB j p
def TR(p b i:Nat)(o:eS):Bool:=o.after.toList.all λe=> !(zR .any e)||zB e.on p||(ic b e.on&&zB e.on (b+i))
def WG(b:Nat)(o:eS):Nat->Bool
 |0=>true
 |i+1=>IC o (b+i)
def Eb(p b:Nat):Nat->List eS->Bool
 |_,[]=>true
 |i,o::l=>o.guard.isNone&&WG b o i&&TR p b i o&&TP p o&&Eb p b (i+1) l
def Vz(x:Nat)(o:eS):Bool:=o.op.operands.toList.any λy=>match y with|.tmp t=>zD t x|_=>false
def Te(x:Nat)(o:eS):Bool:=match o.dst with|some d=>zD d x|none=>false
def KK(l m:List eS):Bool:=l.all λo=>match o.dst with|some x=>m.all λo'=> !(Vz x o')&& !(Te x o')|none=>true
def Ll:Op->Option (zL×eo×eo)
 |.store t x y=>some (t,x,y)
 |_=>none
def Wy(P:zZ)(nt:Nat):List eS->Option Uq
 |[]=>none
 |[o]=>(match Ll o.op with
  |some (t,x,y)=>(match Ac P t,Dg nt o.dst with
   |some ti,some d=>some ⟨[],ti.size,opd P x,opd P y,d⟩
   |_,_=>none)
  |none=>none)
 |o::o'::l=>(match opC P o.op with
  |.pure f=>(match Dg nt o.dst,Wy P nt (o'::l)with
   |some d,some s=>some ⟨(f,d)::s.pures,s.size,s.x,s.y,s.dst⟩
   |_,_=>none)
  |_=>none)
def Wq(o:eS):Bool:=(Ll o.op).isSome
def WZ(p:Nat):List eS->Option Nat
 |[]=>none
 |o::l=>(match WZ (p+1) l with
  |some r=>some r
  |none=>bif (o::l).all (TP p)then some p else none)
def Ki(i:Nat):List eS->Option Nat
 |[]=>none
 |o::l=>bif Wq o then some i else Ki (i+1) l
def VX(P:zZ)(nt:Nat)(all:List eS)(p k:Nat):DrC:=bif ic p all.length&&(all.take p).all (IV p)&&Eb p p 0 ((all.drop p).take k)&&Eb p (p+k) 0 ((all.drop p).drop k)&&KK ((all.drop p).take k) ((all.drop p).drop k)&&KK ((all.drop p).drop k) ((all.drop p).take k)then(match E4 P nt (all.take p) (Ce [] (all.take p)) (Bz P 0 (all.take p)),Wy P nt ((all.drop p).take k),Wy P nt ((all.drop p).drop k)with
  |some ds,some a,some b=>.two p ds a b
  |_,_,_=>.bad)
 else .bad
def SU(P:zZ)(nt:Nat)(all:List eS):DrC:=
 match WZ 0 all with
 |some p=>(match Ki 1 (all.drop p)with
  |some k=>VX P nt all p k
  |none=>.bad)
 |none=>.bad
def T6(P:zZ)(nt:Nat)(all:List eS):DrC:=
 match E4 P nt all (Ce [] all) (Bz P 0 all)with
 |some ds=>.mk all.length ds
 |none=>SU P nt all
def KD:List ((Tm->Option CV)×Dst)->Tm->Option (List CV×Tm)
 |[],tm=>some ([],tm)
 |(f,d)::l,tm=>(match f tm with
  |some v=>(match KD l (De d v tm)with
   |some (vs,tm')=>some (v::vs,tm')
   |none=>none)
  |none=>none)
def Kj:List ((Tm->Option CV)×Dst)->List CV->Tm->Tm
 |(_,d)::l,v::vs,tm=>Kj l vs (De d v tm)
 |_,_,tm=>tm
def KC(s:Uq)(tm:Tm)(S:St):Option (List CV×Nat×St):=
 match KD s.pures tm with
 |some (vs,tm')=>(match s.x.eval tm',s.y.eval tm' with
  |some (.ptr b off),some u=>bif zD u.cells.length s.size&&Aa u.cells then(match Cc S b off u.cells with
    |some S'=>some (vs,b,S')
    |none=>none)else none
  |_,_=>none)
 |none=>none
def Ul(n:Nat)(dops:List DOp)(call:Call)(tm:Tm)(S:St)(k:Tm->St->Res):Res:=
 match S with
 |⟨h,next,nk⟩=>
  bif zB (next+n) lim then(match Vy next call dops ⟨tm,⟨h,next+n,nk⟩,[],[],[]⟩with
   |some x=>k x.tm (AA x.pend x.S)
   |none=>.fail)
  else .fail
def PP(a b:Uq)(k:Tm->St->Res)(tm:Tm)(S:St):Res:=
 match KC a tm S with
 |some (va,ba,SA)=>(match KC b tm SA with
  |some (vb,bb,SB)=>bif zD ba bb then .fail else k (De b.dst AV (Kj b.pures vb (De a.dst AV (Kj a.pures va tm)))) SB
  |none=>.fail)
 |none=>.fail
def OW(d:DrC)(call:Call)(tm:Tm)(S:St)(k:Tm->St->Res):Res:=
 match d with
 |.mk n dops=>Ul n dops call tm S k
 |.two n dops a b=>Ul n dops call tm S (PP a b k)
 |.bad=>.fail
inductive CC where
 |fin
 |pure (f:Tm->Option CV) (d:Dst) (next:CC)
 |read (f:Tm->St->Option CV) (d:Dst) (next:CC)
 |new (f:Tm->Option (Bp×(Nat->CV))) (d:Dst) (next:CC)
 |chain (f:Tm->St->Option (Jd×St)) (d:Dst) (next:CC)
 |undef (d:Dst) (next:CC)
 |guard (x:Opd) (want:Bool) (yes no:CC)
 |cond (x:Opd) (yes no:CC)
 |draw (d:DrC) (next:CC)
 |exit (id:Nat)
 |ret
 |block (id:Nat) (body next:CC)
 |loop (body:CC)
 |bad
def Wz(c:OpC)(d:Dst)(next:CC):CC:=
 match c with
 |.pure f=>.pure f d next
 |.read f=>.read f d next
 |.new f=>.new f d next
 |.chain f=>.chain f d next
 |.bad=>.bad
def XB(g:GuC)(d:Dst)(yes next:CC):CC:=
 match g with
 |.free=>yes
 |.on x want=>.guard x want yes (.undef d next)
 |.bad=>.bad
def Ny(P:zZ)(nt:Nat)(all:List eS):List eS->CC->CC
 |[],next=>next
 |o::l,next=>(match Dg nt o.dst with
  |some d=>XB (guC all o) d (Wz (opC P o.op) d (Ny P nt all l next)) (Ny P nt all l next)
  |none=>.bad)
def Cf (P : zZ) (nt : Nat) : Code → CC → CC
  | .skip, next => next
  | .label _, next => next
  | .exit id, _ => .exit id
  | .ret, _ => .ret
  | .seq a b, next => Cf P nt a (Cf P nt b next)
  | .cond c a b, next => .cond (opd P c) (Cf P nt a next) (Cf P nt b next)
  | .block id a, next => .block id (Cf P nt a .fin) next
  | .loop a, _ => .loop (Cf P nt a .fin)
  | .region _ ops false, next => Ny P nt ops.toList ops.toList next
  | .region _ ops true, next => .draw (T6 P nt ops.toList) next
  | _, _ => .bad
def rounds:Nat:=1000000
def Xg(v:CV)(f:Bool->Res):Res:=CV.casesOn (motive_1:=λ_=>Res) v f (λ_ _=>.fail) (λ_=>.fail) .fail (λ_ _=>.fail) .fail (λ_ _ _ _=>.fail) .fail (λ_=>.fail) (λ_ _ _=>.fail) .fail (λ_ _=>.fail) .fail (λ_=>.fail) (λ_=>.fail) (λ_=>.fail) (λ_ _ _ _=>.fail) (λ_ _ _=>.fail) (λ_ _ _=>.fail)
def DA(rounds:Nat)(c:CC):Call->Tm->St->Res:=CC.rec (motive:=λ_=>Call->Tm->St->Res) (λ_ tm S=>.normal tm S) (λf d _ ih call tm S=>iO (motive:=λ_=>Res) .fail (λv=>ih call (De d v tm) S) (f tm)) (λf d _ ih call tm S=>iO (motive:=λ_=>Res) .fail (λv=>ih call (De d v tm) S) (f tm S)) (λf d _ ih call tm S=>iO (motive:=λ_=>Res) .fail (λp=>Prod.rec (motive:=λ_=>Res) (λo mk=>iO (motive:=λ_=>Res) .fail (λq=>Prod.rec (motive:=λ_=>Res) (λb S=>ih call (De d (mk b) tm) S) q) (alloc S o)) p) (f tm)) (λf d _ ih call tm S=>N6.rec (motive:=λ_=>Res) .fail (λv S=>ih call (De d v tm) S) (Ch call (f tm S))) (λd _ ih call tm S=>ih call (De d AV tm) S) (λx want _ _ yes no call tm S=>match x.eval tm with
   |some (.bool b)=>bif b==want then yes call tm S else no call tm S
   |some _=>no call tm S
   |none=>.fail)
  (λx _ _ yes no call tm S=>iO (motive:=λ_=>Res) .fail (λv=>Xg v λb=>lV (motive:=λ_=>Res) (no call tm S) (yes call tm S) b) (x.eval tm))
  (λd _ ih call tm S=>OW d call tm S (λtm S=>ih call tm S))
  (λid _ tm S=>.exit id tm S)
  (λ_ tm S=>.ret tm S)
  (λid _ _ body next call tm S=>Res.rec (motive:=λ_=>Res) .fail (λtm S=>next call tm S) (λi tm S=>lV (motive:=λ_=>Res) (.exit i tm S) (next call tm S) (zD i id)) (λtm S=>.ret tm S) (body call tm S))
  (λ_ body call tm S=>zcb (motive:=λ_=>Tm->St->Res) (λ_ _=>.fail) (λ_ again tm S=>Res.rec (motive:=λ_=>Res) .fail (λtm S=>again tm S) (λi tm S=>.exit i tm S) (λtm S=>.ret tm S) (body call tm S)) rounds tm S)
  (λ_ _ _=>.fail) c
def XL(c:CC):Call->Tm->St->Res:=DA rounds c
def Xm(P:zZ):ResultVar->Option (Tm->St->Option CV)
 |.tmp t=>some λtm _=>(RQ t).eval tm
 |.cell a t=>(match Ac P t with
  |some i=>some (Rn i.size (Bs i.desc) (RQ a))
  |none=>none)
def WB(P:zZ):List ResultVar->Option (List (Tm->St->Option CV))
 |[]=>some []
 |r::rs=>(match Xm P r,WB P rs with
  |some f,some l=>some (f::l)
  |_,_=>none)
def Rl:List (Tm->St->Option CV)->Tm->St->Option (List CV)
 |[],_,_=>some []
 |f::l,tm,S=>(match f tm S with
  |some v=>(match Rl l tm S with
   |some vs=>some (v::vs)
   |none=>none)
  |none=>none)
def Tq:List CV->CV
 |[]=>.tup []
 |[v]=>v
 |v::u::vs=>.tup (v::u::vs)
inductive FnC where
 |mk (k:CC) (np:Nat) (res:List (Tm->St->Option CV))
 |none
def fnC(P:zZ)(f:zaU):FnC:=
 match P.funcs[f]?with
 |some fn=>(match fn.body with
  |some c=>(match WB P fn.results.toList with
   |some rs=>.mk (Cf P fn.ntmps c .fin) fn.ntmps rs
   |none=>.none)
  |none=>.none)
 |none=>.none
abbrev QS:=zaU->Option (List CV->St->N6)
def VN(tm:Tm)(i:Nat):List CV->Tm
 |[]=>tm
 |v::vs=>VN (WD i v tm) (i+1) vs
def P6(res:List (Tm->St->Option CV))(tm:Tm)(S:St):N6:=
 match Rl res tm S with
 |some vs=>.ok (Tq vs) S
 |none=>.fail
def TH(x:FnC)(call:Call)(args:List CV)(S:St):N6:=
 match x with
 |.mk k ntmps res=>
  bif ic args.length ntmps&&ic args.length 256 then Res.rec (motive:=λ_=>N6) .fail (λtm S=>P6 res tm S) (λ_ _ _=>.fail) (λtm S=>P6 res tm S) (XL k call (VN .empty 0 args) S)
  else .fail
 |.none=>.fail
def Pe(P:zZ)(prims:QS)(n:Nat):Call:=zcb (motive:=λ_=>Call) (λ_ _ _=>.fail) (λ_ ih f args S=>match prims f with
   |some p=>p args S
   |none=>TH (fnC P f) ih args S) n
end
end Go.Ev
