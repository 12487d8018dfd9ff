/-
  Part of the proof: print: the kids that are left, a list in brackets, a name with a value, a body.
-/
import Derived.Test.YtpdlpdkehminlaaGreatDoorWJ
set_option linter.all false
set_option maxRecDepth 100000
set_option maxHeartbeats 20000000
open Bool renaming eq_false_or_eq_true->zN
open Go renaming Calls->zM,Value->zg,World->ze,cell_of_row->zV,frozen_of_row->zk,heap_alloc_new->zx
open Go.Exit renaming «then»->ef
open Go.Lib renaming hid->za
open Go.RowKit renaming Hid->eW
open Go.RowKit.Below renaming refl->zt
open Go.World renaming ownsRow_nil->ed
open Go.World.ownsRow renaming cellAt->ep,frozenAt->iN,stored->ii
open List renaming drop_zero->zem,getElem?_eq_getElem->zc,mem_of_getElem?->zq
open Nat renaming le_refl->zn
namespace Go.Proofs
open Go.RowKit Go.Maps Go.MapKept
open Classical
structure WK(w0:ze)(b l P:Nat)(wN:ze)(X:Nat)(t:T)(gv kv:zg)(lv:Nat):Prop where
 own:∀(W:ze)(nk c:Nat)(canon word:ByteArray),St w0 b l P wN X t gv kv lv nk c W->canon.size<=2000->word.size<=2000000->c<=5000->zM Tryz.prog 179 #[.pointer (some ⟨X,0,none⟩),.string canon,.string word] W λe w'=>e=.returned (.tuple #[])/\St w0 b l P wN X t gv kv lv nk (c+1) w'
 kid:∀(W:ze)(nk c:Nat)(u:T)(lead:ByteArray),St w0 b l P wN X t gv kv lv nk c W->t.ks[nk]?=some u->lead.size<=2000->c+8*u.size<=5000->zM Tryz.prog 181 #[.pointer (some ⟨X,0,none⟩),.string lead] W λe w'=>e=.returned (.tuple #[])/\St w0 b l P wN X t gv kv lv (nk+1) (c+8*u.size-1) w'
theorem Xi(w0:ze)(b l P:Nat)(wN:ze)(X:Nat)(t:T)(gv kv:zg)(lv:Nat)(hl:t.Lies w0 gv kv)(HN:∀u∈t.ks,Qz w0 b l P u)(hlv:∀u∈t.ks,lv+u.size<=1000)(hb:t.bulk<=1048576)(h300:t.size<=300):WK w0 b l P wN X t gv kv lv:=by
 have j:=T.length_sizes t.ks;have i:t.size=1+T.sizes t.ks:=by cases t;rw[T.size,T.ks]
 have f:∀x∈t.g,x.size<=2000000:=λx hx=>by
  have a:=Qr hx;have d:Ms t.g<=t.bulk:=by cases t;rw[T.bulk,T.g];omega
  omega
 exact⟨λW nk c canon word h a d h3=>QW w0 b l P wN X t gv kv lv nk c canon word W h hl.gaps f (by omega) d h3,λW nk c u lead h a d h3=>Rb w0 b l P wN X t u gv kv lv nk c lead W h hl.kids a (HN u (zq a)) d (hlv u (zq a)) h3 (by omega)⟩
theorem OX(w:ze)(n:Nat):Below w.heap.size w (w.drewN n):=by
 induction n with
 |zero=>exact zt _ _
 |succ n ih=>exact ih.drew
theorem St.drew{w0:ze}{b l P:Nat}{wN:ze}{X:Nat}{t:T}{gv kv:zg}{lv:Int}{nk c:Nat}{w:ze}(h:St w0 b l P wN X t gv kv lv nk c w):∀n,St w0 b l P wN X t gv kv lv nk c (w.drewN n):=λn=>by have a:=OX w n;have m:=h.fr.bel.size;obtain⟨j,g,o,q,k,f,d,p,i⟩:=h.wr;exact⟨h.pr.below a,h.fr.trans (Fr.new (by have:=h.bas;omega) m a),h.old,h.lo,h.bas,j,g,o,q,k,f,(a.block X (yz d)).trans d,yy p a,yy i a⟩
theorem St.kids_le{w0:ze}{b l P:Nat}{wN:ze}{X:Nat}{t:T}{gv kv:zg}{lv:Int}{nk c:Nat}{w:ze}(h:St w0 b l P wN X t gv kv lv nk c w):∃(pok:Option Addr)(cok ng:Nat)(og:zg),w.heap[X]?=some (.cells (FD P t gv kv og (.slice pok nk cok) lv) 192 (0,0)):=by obtain⟨ng,og,k,i,j,f,g,d,a⟩:=h.wr;obtain⟨pok,cok,rfl⟩:=yq a;exact⟨pok,cok,ng,og,g⟩
def doneAt(X:Nat)(W:ze):Nat:=match W.cell? ⟨X,8,none⟩with
 |some (.slice _ n _)=>n
 |_=>0
theorem St.doneAt{w0:ze}{b l P:Nat}{wN:ze}{X:Nat}{t:T}{gv kv:zg}{lv:Int}{nk c:Nat}{w:ze}(h:St w0 b l P wN X t gv kv lv nk c w):Go.Proofs.doneAt X w=nk:=by obtain⟨d,a,i,g,f⟩:=h.kids_le;unfold Go.Proofs.doneAt;rw[zV w X 8 _ _ _ f];rfl
theorem T.sizes_drop{ks:List T}{j:Nat}{u:T}(h:ks[j]?=some u):T.sizes (ks.drop j)=u.size+T.sizes (ks.drop (j+1)):=by obtain⟨a,rfl⟩:=List.getElem?_eq_some_iff.1 h;rw[List.drop_eq_getElem_cons a,T.sizes]
theorem FA(w0:ze)(b l P:Nat)(wN:ze)(X:Nat)(t:T)(gv kv:zg)(lv nk c:Nat)(w:ze)(HK:WK w0 b l P wN X t gv kv lv)(h:St w0 b l P wN X t gv kv lv nk c w)(hn:nk<=t.ks.length)(hc:c+8*T.sizes (t.ks.drop nk)+1<=5000)(hkv:∃p cc,kv=.slice p t.ks.length cc):zM Tryz.prog 180 #[.pointer (some ⟨X,0,none⟩)] w λe w'=>e=.returned (.tuple #[])/\∃nk' c',c'<=c+8*T.sizes (t.ks.drop nk)+1/\St w0 b l P wN X t gv kv lv nk' c' w':=by
 obtain⟨H,F,rfl⟩:=hkv;have A:=za HK.own;have n:=za HK.kid;have G:=za h;clear h HK;go_enter Tryz.func180,Tryz.ntmps180;go_wp2;go_loopw [2] (λv W=>∃(f:Bool)(j d:Nat),v=.bool f/\j<=t.ks.length/\d+8*T.sizes (t.ks.drop j)<=c+8*T.sizes (t.ks.drop nk)/\St w0 b l P wN X t gv (.slice H t.ks.length F) lv j d W) (λ_ W=>t.ks.length-doneAt X W)
 case atStart=>exact⟨true,nk,c,rfl,hn,zn _,G.out⟩
 case round=>
  obtain⟨f,j,d,rfl,L,J,o⟩:=hrel;obtain⟨I,E,M,R,s⟩:=o.kids_le;have N:wr.cell? ⟨X,4,none⟩=_:=zV wr X 4 _ _ _ s;have O:wr.cell? ⟨X,8,none⟩=_:=zV wr X 8 _ _ _ s;have i:=o.drew;have x:=za i;have y:=za o.doneAt;clear o s i;by_cases r:j<t.ks.length
  .obtain⟨u,q⟩:∃u,t.ks[j]?=some u:=⟨t.ks[j],zc r⟩
   have D:=T.sizes_drop q;have C:=T.size_pos u;have z:=za q;clear q;cases f with
   |true=>
    go_wp2;go_quiet (fail);go_wp2_with fail;refine(n.out _ j d u ⟨#[]⟩ (x.out _) z.out (by decide) (by omega)).mono ?_;rintro e B ⟨rfl,a⟩;have g:=za a;clear a;go_wp2;go_roundw
    case rel=>exact⟨false,j+1,d+8*u.size-1,rfl,by omega,by omega,g.out⟩
    case measure=>rw[y.out,g.out.doneAt];omega
   |false=>
    go_wp2;go_quiet (fail);go_wp2_with fail;refine(A.out _ j d ⟨#[]⟩ ⟨#[44]⟩ (x.out _) (by decide) (by decide) (by omega)).mono ?_;rintro e B ⟨rfl,a⟩;have g:=za a;clear a;go_wp2_with fail;refine(n.out _ j (d+1) u ⟨#[32]⟩ g.out z.out (by decide) (by omega)).mono ?_;rintro e Q ⟨rfl,m⟩;have k:=za m;clear m;go_wp2;go_roundw
    case rel=>exact⟨false,j+1,d+1+8*u.size-1,rfl,by omega,by omega,k.out⟩
    case measure=>rw[y.out,k.out.doneAt];omega
  .obtain rfl:j=t.ks.length:=by omega
   go_wp2;go_quiet (fail);go_wp2_with fail;refine(A.out _ t.ks.length d ⟨#[]⟩ ⟨#[41]⟩ (x.out _) (by decide) (by decide) (by omega)).mono ?_;rintro e B ⟨rfl,a⟩;go_wp2;go_end0;exact⟨rfl,_,_,by omega,a⟩
theorem St.text{w0:ze}{b l P:Nat}{wN:ze}{X:Nat}{t:T}{gv kv:zg}{lv:Int}{nk c:Nat}{w:ze}(h:St w0 b l P wN X t gv kv lv nk c w):w.cell? ⟨X,1,none⟩=some (.int .i64 t.k)/\w.cell? ⟨X,2,none⟩=some (.string t.s)/\w.cell? ⟨X,4,none⟩=some kv/\w.cell? ⟨X,9,none⟩=some (.int .i64 lv)/\w.frozen? ⟨X,9,none⟩=false:=by obtain⟨f,d,i,g,a⟩:=h.kids_le;exact⟨zV w X 1 _ _ _ a,zV w X 2 _ _ _ a,zV w X 4 _ _ _ a,zV w X 9 _ _ _ a,zk w X 9 _ _ a⟩
theorem St.below{w0:ze}{b l P:Nat}{wN:ze}{X:Nat}{t:T}{gv kv:zg}{lv:Int}{nk c:Nat}{w w':ze}(h:St w0 b l P wN X t gv kv lv nk c w)(hb:Below w.heap.size w w'):St w0 b l P wN X t gv kv lv nk c w':=by have k:=h.fr.bel.size;obtain⟨i,f,m,o,j,d,a,n,g⟩:=h.wr;exact⟨h.pr.below hb,h.fr.trans (Fr.new (by have:=h.bas;omega) k hb),h.old,h.lo,h.bas,i,f,m,o,j,d,(hb.block X (yz a)).trans a,yy n hb,yy g hb⟩
theorem St.level{w0:ze}{b l P:Nat}{wN:ze}{X:Nat}{t:T}{gv kv:zg}{lv:Int}{nk c:Nat}{w:ze}(h:St w0 b l P wN X t gv kv lv nk c w)(lv':Int):St w0 b l P wN X t gv kv lv' nk c (w.setCell ⟨X,9,none⟩ (.int .i64 lv')):=by
 obtain⟨y,B,A,r,D,o,j,z,C⟩:=h.wr;obtain⟨x,F,G,E⟩:=h.push j (row:=none) ⟨rfl,rfl,rfl,zn _,λ_ _ _=>rfl⟩ (λk e=>by cases e) 9 (.int .i64 lv');have d:∀{e:TypeId}{s n:Nat}{v:zg}{zs:List zg},w.ownsRow wN.heap.size e s v n zs->e≠192->(w.setCell ⟨X,9,none⟩ (.int .i64 lv')).ownsRow wN.heap.size e s v n zs:=λ{e s n v zs} ho he=>by
  refine⟨ho.1,?_⟩;rcases ho.2 with h9|⟨g,i,m,q,p,a,f⟩
  .exact .inl h9
  .refine .inr ⟨g,i,m,q,p,(E g (yz a) (λe2=>?_) (by simp)).trans a,f⟩;subst e2;rw[j]at a;injection a with a
   injection a with _ a
   exact he a.symm
 exact⟨x,F,h.old,h.lo,h.bas,y,B,A,r,D,o,heap_setCell_same w X 9 _ _ _ j,d z (by decide),d C (by decide)⟩
theorem JG(w0:ze)(b l P:Nat)(wN:ze)(X:Nat)(t u:T)(gv kv:zg)(lv c:Nat)(lead word:ByteArray)(w:ze)(HK:WK w0 b l P wN X t gv kv lv)(h:St w0 b l P wN X t gv kv lv 0 c w)(hu:t.ks[0]?=some u)(hl:lead.size<=2000)(hw:word.size<=2000)(hs:t.s.size<=2000000)(hc:c+8*u.size+8<=5000):zM Tryz.prog 182 #[.pointer (some ⟨X,0,none⟩),.string lead,.string word] w λe w'=>e=.returned (.tuple #[])/\St w0 b l P wN X t gv kv lv 1 (c+8*u.size+3) w':=by have d:=za HK.own;have f:=za HK.kid;have i:=za hu;have m:=za h;have p:=T.size_pos u;clear h HK hu;go_enter Tryz.func182,Tryz.ntmps182;go_wp2_with fail;refine(d.out _ _ _ lead word m.out hl (by omega) (by omega)).mono ?_;rintro e x ⟨rfl,a⟩;obtain⟨_,o,_⟩:=a.text;have g:=za a;clear a;go_wp2_with fail;refine(d.out _ _ _ ⟨#[32]⟩ t.s g.out (by decide) hs (by omega)).mono ?_;rintro e z ⟨rfl,a⟩;have n:=za a;clear a o;go_wp2_with fail;refine(d.out _ _ _ ⟨#[32]⟩ ⟨#[61]⟩ n.out (by decide) (by decide) (by omega)).mono ?_;rintro e y ⟨rfl,a⟩;have q:=za a;clear a;go_wp2_with fail;refine(f.out _ _ _ u ⟨#[32]⟩ q.out i.out (by decide) (by omega)).mono ?_;rintro e v ⟨rfl,a⟩;have j:=za a;clear a;go_wp2_with fail;refine(d.out _ _ _ ⟨#[]⟩ ⟨#[59]⟩ j.out (by decide) (by decide) (by omega)).mono ?_;rintro e r ⟨rfl,a⟩;have k:=za a;clear a;go_wp2;go_end0;exact⟨rfl,k.out.mono (by omega)⟩
theorem Kd(w0:ze)(b l P:Nat)(wN:ze)(X:Nat)(t:T)(gv kv:zg)(lv nk c m:Nat)(w:ze)(HK:WK w0 b l P wN X t gv kv lv)(HK1:WK w0 b l P wN X t gv kv (lv+1))(h:St w0 b l P wN X t gv kv lv nk c w)(hn:nk<=t.ks.length)(hc:c+8*T.sizes (t.ks.drop nk)+1<=5000)(hlv:lv<=999)(hm:m<=1)(h300:t.ks.length<=1000)(hkv:∃p cc,kv=.slice p t.ks.length cc):zM Tryz.prog 183 #[.pointer (some ⟨X,0,none⟩),.int .i64 m] w λe w'=>e=.returned (.tuple #[])/\∃nk' c',c'<=c+8*T.sizes (t.ks.drop nk)+1/\St w0 b l P wN X t gv kv lv nk' c' w':=by
 obtain⟨S,N,rfl⟩:=hkv;obtain⟨_,_,_,E,G⟩:=h.text;have F:=za HK.own;have C:=za HK1.kid;have R:=za (h.level (lv+1));have x:eW (∀W,zM Tryz.prog 215 #[.int .i64 (lv:Int)] W λe w'=>(∃s:ByteArray,e=.returned (.string s)/\s.size<=2000)/\Below W.heap.size W w'):=za λW=>Kk lv W (by omega);have B:eW (∀W,zM Tryz.prog 215 #[.int .i64 ((lv:Int)+1)] W λe w'=>(∃s:ByteArray,e=.returned (.string s)/\s.size<=2000)/\Below W.heap.size W w'):=za λW=>Kk (lv+1) W (by omega);clear h HK HK1;go_enter Tryz.func183,Tryz.ntmps183;go_wp2;have z:eW ((lv:Int)+1=((lv+1:Nat):Int)):=za (by omega);have H:eW (((lv+1:Nat):Int) -1=(lv:Int)):=za (by omega);generalize w.setCell ⟨X,9,none⟩ (.int .i64 ((lv:Int)+1))=w1 at*;clear E G;go_loopw [11] (λ_ W=>∃(j d:Nat),j<=t.ks.length/\d+8*T.sizes (t.ks.drop j)<=c+8*T.sizes (t.ks.drop nk)/\St w0 b l P wN X t gv (.slice S t.ks.length N) ((lv+1:Nat):Int) j d W) (λ_ W=>t.ks.length-doneAt X W)
 case atStart=>exact⟨nk,c,hn,zn _,by rw[<-z.out];exact R.out⟩
 case round=>
  obtain⟨j,d,Z,Y,n⟩:=hrel;obtain⟨U,O,ng,og,q⟩:=n.kids_le;have x4:wr.cell? ⟨X,4,none⟩=_:=zV wr X 4 _ _ _ q;have x8:wr.cell? ⟨X,8,none⟩=_:=zV wr X 8 _ _ _ q;have E:wr.cell? ⟨X,9,none⟩=_:=zV wr X 9 _ _ _ q;have G:=zk wr X 9 _ _ q;have i:=za n.drew;have I:=za n.doneAt;have HS:=za n;clear n q;by_cases A:j<t.ks.length
  .obtain⟨u,y⟩:∃u,t.ks[j]?=some u:=⟨t.ks[j],zc A⟩
   have M:=T.sizes_drop y;have L:=T.size_pos u;have J:=za y;clear y;go_wp2;go_quiet (fail);go_wp2_with fail;refine(B.out _).mono ?_;rintro e V ⟨⟨v,rfl,k⟩,f⟩;have g:=za ((i.out nq).below f);clear f;go_wp2_with fail;refine(C.out _ j d u v g.out J.out k (by omega)).mono ?_;rintro e D ⟨rfl,a⟩;have o:=za a;clear a;go_wp2;go_roundw
   case rel=>exact⟨j+1,d+8*u.size-1,by omega,by omega,o.out⟩
   case measure=>rw[I.out,o.out.doneAt];omega
  .obtain rfl:j=t.ks.length:=by omega
   by_cases Q:(t.ks.length:Int)>(m:Int)
   .go_wp2;go_quiet (fail);go_wp2_with fail;refine(x.out _).mono ?_;rintro e V ⟨⟨v,rfl,k⟩,f⟩;have r:=(i.out nq).level (lv:Int);have g:=za (r.below f);clear f r;go_wp2_with fail;refine(F.out _ t.ks.length d v ⟨#[125]⟩ g.out k (by decide) (by omega)).mono ?_;rintro e D ⟨rfl,a⟩;go_wp2;go_end0;exact⟨rfl,_,_,by omega,a⟩
   .go_wp2;go_quiet (fail);go_wp2_with fail;refine(F.out _ t.ks.length d ⟨#[]⟩ ⟨#[125]⟩ ((i.out nq).level (lv:Int)) (by decide) (by decide) (by omega)).mono ?_;rintro e D ⟨rfl,a⟩;go_wp2;go_end0;exact⟨rfl,_,_,by omega,a⟩
theorem RP(w0:ze)(b l P:Nat)(wN:ze)(X:Nat)(t:T)(gv kv:zg)(lv c:Nat)(lead:ByteArray)(w:ze)(HK:WK w0 b l P wN X t gv kv lv)(HK1:WK w0 b l P wN X t gv kv (lv+1))(h:St w0 b l P wN X t gv kv lv 0 c w)(hl:lead.size<=2000)(hs:t.s.size<=2000000)(hc:c+8*t.size<=5000)(hlv:lv<=999)(h300:t.ks.length<=1000)(hkid:t.k≠14->(Ah t.k.toNat).length<=t.ks.length)(hkv:∃p cc,kv=.slice p t.ks.length cc)(hk:17<=t.k/\t.k<=26):zM Tryz.prog 156 #[.pointer (some ⟨X,0,none⟩),.string lead] w λe w'=>e=.returned (.tuple #[])/\∃nk' c',c'<=c+8*t.size-1/\St w0 b l P wN X t gv kv lv nk' c' w':=by
 have hk:t.k=17\/t.k=18\/t.k=19\/t.k=20\/t.k=21\/t.k=22\/t.k=23\/t.k=24\/t.k=25\/t.k=26:=by omega
 rcases hk with hk|hk|hk|hk|hk|hk|hk|hk|hk|hk
 .obtain⟨j,E,C,_⟩:=h.text;rw[hk]at j;have o:t.size=1+T.sizes t.ks:=by cases t;rw[T.size,T.ks]
  clear hkid;have B:T.sizes (t.ks.drop 0)=T.sizes t.ks:=by rw[zem]
  obtain⟨v,r,rfl⟩:=hkv;have g:=za HK.own;have f:=za HK.kid;have z:=za HK;have i:=za HK1;have m:=za h;clear h HK HK1;go_enter Tryz.func156,Tryz.ntmps156;go_wp2_with fail;refine(g.out _ _ _ lead t.s m.out hl hs (by omega)).mono ?_;rintro e x ⟨rfl,a⟩;have n:=za a;clear a;go_wp2;go_end0;exact⟨rfl,_,_,by omega,n.out⟩
 .obtain⟨j,E,C,_⟩:=h.text;rw[hk]at j;have o:t.size=1+T.sizes t.ks:=by cases t;rw[T.size,T.ks]
  clear hkid;have B:T.sizes (t.ks.drop 0)=T.sizes t.ks:=by rw[zem]
  obtain⟨v,r,rfl⟩:=hkv;have g:=za HK.own;have f:=za HK.kid;have z:=za HK;have i:=za HK1;have m:=za h;clear h HK HK1;go_enter Tryz.func156,Tryz.ntmps156;go_wp2_with fail;refine(g.out _ _ _ lead t.s m.out hl hs (by omega)).mono ?_;rintro e x ⟨rfl,a⟩;have n:=za a;clear a;go_wp2;go_end0;exact⟨rfl,_,_,by omega,n.out⟩
 .obtain⟨j,E,C,_⟩:=h.text;rw[hk]at j;have o:t.size=1+T.sizes t.ks:=by cases t;rw[T.size,T.ks]
  clear hkid;have B:T.sizes (t.ks.drop 0)=T.sizes t.ks:=by rw[zem]
  obtain⟨v,r,rfl⟩:=hkv;have g:=za HK.own;have f:=za HK.kid;have z:=za HK;have i:=za HK1;have m:=za h;clear h HK HK1;go_enter Tryz.func156,Tryz.ntmps156;go_wp2_with fail;refine(g.out _ _ _ lead t.s m.out hl hs (by omega)).mono ?_;rintro e x ⟨rfl,a⟩;have n:=za a;clear a;go_wp2;go_end0;exact⟨rfl,_,_,by omega,n.out⟩
 .obtain⟨j,E,C,_⟩:=h.text;rw[hk]at j;have o:t.size=1+T.sizes t.ks:=by cases t;rw[T.size,T.ks]
  clear hkid;have B:T.sizes (t.ks.drop 0)=T.sizes t.ks:=by rw[zem]
  obtain⟨v,r,rfl⟩:=hkv;have g:=za HK.own;have f:=za HK.kid;have z:=za HK;have i:=za HK1;have m:=za h;clear h HK HK1;go_enter Tryz.func156,Tryz.ntmps156;go_wp2_with fail;refine(g.out _ _ _ lead t.s m.out hl hs (by omega)).mono ?_;rintro e x ⟨rfl,a⟩;have n:=za a;clear a;go_wp2_with fail;refine(g.out _ _ _ ⟨#[]⟩ ⟨#[40]⟩ n.out (by decide) (by decide) (by omega)).mono ?_;rintro e I ⟨rfl,a⟩;have A:=za a;clear a;go_wp2_with fail;refine(FA w0 b l P wN X t gv _ lv _ _ _ z.out A.out (by omega) (by omega) ⟨_,_,rfl⟩).mono ?_;rintro e J ⟨rfl,nk',c',L,a⟩;have D:=za a;clear a;go_wp2;go_end0;exact⟨rfl,nk',c',by omega,D.out⟩
 .obtain⟨j,E,C,_⟩:=h.text;rw[hk]at j;have o:t.size=1+T.sizes t.ks:=by cases t;rw[T.size,T.ks]
  have H:1<=t.ks.length:=by have:=hkid (by rw[hk];decide);rw[hk]at this;exact this
  clear hkid;have B:T.sizes (t.ks.drop 0)=T.sizes t.ks:=by rw[zem]
  obtain⟨u0,d⟩:∃u,t.ks[0]?=some u:=⟨t.ks[0],zc (by omega)⟩
  have G:T.sizes (t.ks.drop 0)=u0.size+T.sizes (t.ks.drop 1):=T.sizes_drop d;have y:=T.size_pos u0;have q:=za d;clear d;obtain⟨v,r,rfl⟩:=hkv;have g:=za HK.own;have f:=za HK.kid;have z:=za HK;have i:=za HK1;have m:=za h;clear h HK HK1;go_enter Tryz.func156,Tryz.ntmps156;go_wp2_with fail;refine(f.out _ _ _ u0 lead m.out q.out hl (by omega)).mono ?_;rintro e x ⟨rfl,a⟩;replace a:St w0 b l P wN X t gv (.slice v t.ks.length r) lv 1 _ x:=a;have n:=za a;clear a;go_wp2_with fail;refine(g.out _ _ _ ⟨#[]⟩ ⟨#[46]⟩ n.out (by decide) (by decide) (by omega)).mono ?_;rintro e I ⟨rfl,a⟩;have V:=a.text.2.1;have A:=za a;clear a;go_wp2_with fail;refine(g.out _ _ _ ⟨#[]⟩ t.s A.out (by decide) hs (by omega)).mono ?_;rintro e J ⟨rfl,a⟩;have D:=za a;clear a;go_wp2_with fail;refine(g.out _ _ _ ⟨#[]⟩ ⟨#[40]⟩ D.out (by decide) (by decide) (by omega)).mono ?_;rintro e R ⟨rfl,a⟩;have M:=za a;clear a;go_wp2_with fail;refine(FA w0 b l P wN X t gv _ lv _ _ _ z.out M.out (by omega) (by omega) ⟨_,_,rfl⟩).mono ?_;rintro e W ⟨rfl,nk',c',L,a⟩;have U:=za a;clear a;go_wp2;go_end0;exact⟨rfl,nk',c',by omega,U.out⟩
 .obtain⟨j,E,C,_⟩:=h.text;rw[hk]at j;have o:t.size=1+T.sizes t.ks:=by cases t;rw[T.size,T.ks]
  clear hkid;have B:T.sizes (t.ks.drop 0)=T.sizes t.ks:=by rw[zem]
  obtain⟨v,r,rfl⟩:=hkv;have g:=za HK.own;have f:=za HK.kid;have z:=za HK;have i:=za HK1;have m:=za h;clear h HK HK1;go_enter Tryz.func156,Tryz.ntmps156;go_wp2_with fail;refine(g.out _ _ _ lead ⟨#[110,101,119]⟩ m.out hl (by decide) (by omega)).mono ?_;rintro e x ⟨rfl,a⟩;have O:=a.text.2.1;have n:=za a;clear a;go_wp2_with fail;refine(g.out _ _ _ ⟨#[32]⟩ t.s n.out (by decide) hs (by omega)).mono ?_;rintro e I ⟨rfl,a⟩;have A:=za a;clear a;go_wp2_with fail;refine(g.out _ _ _ ⟨#[]⟩ ⟨#[40]⟩ A.out (by decide) (by decide) (by omega)).mono ?_;rintro e J ⟨rfl,a⟩;have D:=za a;clear a;go_wp2_with fail;refine(g.out _ _ _ ⟨#[]⟩ ⟨#[41]⟩ D.out (by decide) (by decide) (by omega)).mono ?_;rintro e R ⟨rfl,a⟩;have M:=za a;clear a;go_wp2;go_end0;exact⟨rfl,_,_,by omega,M.out⟩
 .obtain⟨j,E,C,_⟩:=h.text;rw[hk]at j;have o:t.size=1+T.sizes t.ks:=by cases t;rw[T.size,T.ks]
  clear hkid;have B:T.sizes (t.ks.drop 0)=T.sizes t.ks:=by rw[zem]
  obtain⟨v,r,rfl⟩:=hkv;have g:=za HK.own;have f:=za HK.kid;have z:=za HK;have i:=za HK1;have m:=za h;clear h HK HK1;go_enter Tryz.func156,Tryz.ntmps156;go_wp2_with fail;refine(g.out _ _ _ lead t.s m.out hl hs (by omega)).mono ?_;rintro e x ⟨rfl,a⟩;have n:=za a;clear a;go_wp2;go_end0;exact⟨rfl,_,_,by omega,n.out⟩
 .obtain⟨j,E,C,_⟩:=h.text;rw[hk]at j;have o:t.size=1+T.sizes t.ks:=by cases t;rw[T.size,T.ks]
  have H:2<=t.ks.length:=by have:=hkid (by rw[hk];decide);rw[hk]at this;exact this
  clear hkid;have B:T.sizes (t.ks.drop 0)=T.sizes t.ks:=by rw[zem]
  obtain⟨u0,d⟩:∃u,t.ks[0]?=some u:=⟨t.ks[0],zc (by omega)⟩
  have G:T.sizes (t.ks.drop 0)=u0.size+T.sizes (t.ks.drop 1):=T.sizes_drop d;have y:=T.size_pos u0;have q:=za d;clear d;obtain⟨u1,F⟩:∃u,t.ks[1]?=some u:=⟨t.ks[1],zc (by omega)⟩
  have S:T.sizes (t.ks.drop 1)=u1.size+T.sizes (t.ks.drop 2):=T.sizes_drop F;have Q:=T.size_pos u1;have N:=za F;clear F;obtain⟨v,r,rfl⟩:=hkv;have g:=za HK.own;have f:=za HK.kid;have z:=za HK;have i:=za HK1;have m:=za h;clear h HK HK1;go_enter Tryz.func156,Tryz.ntmps156;go_wp2_with fail;refine(f.out _ _ _ u0 lead m.out q.out hl (by omega)).mono ?_;rintro e x ⟨rfl,a⟩;replace a:St w0 b l P wN X t gv (.slice v t.ks.length r) lv 1 _ x:=a;have O:=a.text.2.1;have n:=za a;clear a;go_wp2_with fail;refine(g.out _ _ _ ⟨#[32]⟩ t.s n.out (by decide) hs (by omega)).mono ?_;rintro e I ⟨rfl,a⟩;have A:=za a;clear a;go_wp2_with fail;refine(f.out _ _ _ u1 ⟨#[32]⟩ A.out N.out (by decide) (by omega)).mono ?_;rintro e J ⟨rfl,a⟩;replace a:St w0 b l P wN X t gv (.slice v t.ks.length r) lv 2 _ J:=a;have D:=za a;clear a;go_wp2;go_end0;exact⟨rfl,_,_,by omega,D.out⟩
 .obtain⟨j,E,C,_⟩:=h.text;rw[hk]at j;have o:t.size=1+T.sizes t.ks:=by cases t;rw[T.size,T.ks]
  have H:1<=t.ks.length:=by have:=hkid (by rw[hk];decide);rw[hk]at this;exact this
  clear hkid;have B:T.sizes (t.ks.drop 0)=T.sizes t.ks:=by rw[zem]
  obtain⟨u0,d⟩:∃u,t.ks[0]?=some u:=⟨t.ks[0],zc (by omega)⟩
  have G:T.sizes (t.ks.drop 0)=u0.size+T.sizes (t.ks.drop 1):=T.sizes_drop d;have y:=T.size_pos u0;have q:=za d;clear d;obtain⟨v,r,rfl⟩:=hkv;have g:=za HK.own;have f:=za HK.kid;have z:=za HK;have i:=za HK1;have m:=za h;clear h HK HK1;go_enter Tryz.func156,Tryz.ntmps156;go_wp2_with fail;refine(g.out _ _ _ lead t.s m.out hl hs (by omega)).mono ?_;rintro e x ⟨rfl,a⟩;have n:=za a;clear a;go_wp2_with fail;refine(f.out _ _ _ u0 ⟨#[]⟩ n.out q.out (by decide) (by omega)).mono ?_;rintro e I ⟨rfl,a⟩;replace a:St w0 b l P wN X t gv (.slice v t.ks.length r) lv 1 _ I:=a;have A:=za a;clear a;go_wp2;go_end0;exact⟨rfl,_,_,by omega,A.out⟩
 .obtain⟨j,E,C,_⟩:=h.text;rw[hk]at j;have o:t.size=1+T.sizes t.ks:=by cases t;rw[T.size,T.ks]
  have H:1<=t.ks.length:=by have:=hkid (by rw[hk];decide);rw[hk]at this;exact this
  clear hkid;have B:T.sizes (t.ks.drop 0)=T.sizes t.ks:=by rw[zem]
  obtain⟨u0,d⟩:∃u,t.ks[0]?=some u:=⟨t.ks[0],zc (by omega)⟩
  have G:T.sizes (t.ks.drop 0)=u0.size+T.sizes (t.ks.drop 1):=T.sizes_drop d;have y:=T.size_pos u0;have q:=za d;clear d;obtain⟨v,r,rfl⟩:=hkv;have g:=za HK.own;have f:=za HK.kid;have z:=za HK;have i:=za HK1;have m:=za h;clear h HK HK1;go_enter Tryz.func156,Tryz.ntmps156;go_wp2_with fail;refine(g.out _ _ _ lead ⟨#[40]⟩ m.out hl (by decide) (by omega)).mono ?_;rintro e x ⟨rfl,a⟩;have n:=za a;clear a;go_wp2_with fail;refine(f.out _ _ _ u0 ⟨#[]⟩ n.out q.out (by decide) (by omega)).mono ?_;rintro e I ⟨rfl,a⟩;replace a:St w0 b l P wN X t gv (.slice v t.ks.length r) lv 1 _ I:=a;have A:=za a;clear a;go_wp2_with fail;refine(g.out _ _ _ ⟨#[]⟩ ⟨#[41]⟩ A.out (by decide) (by decide) (by omega)).mono ?_;rintro e J ⟨rfl,a⟩;have D:=za a;clear a;go_wp2;go_end0;exact⟨rfl,_,_,by omega,D.out⟩
theorem Rv(w0:ze)(b l P:Nat)(wN:ze)(X:Nat)(t:T)(gv kv:zg)(lv c:Nat)(lead:ByteArray)(w:ze)(HK:WK w0 b l P wN X t gv kv lv)(HK1:WK w0 b l P wN X t gv kv (lv+1))(h:St w0 b l P wN X t gv kv lv 0 c w)(hl:lead.size<=2000)(hs:t.s.size<=2000000)(hc:c+8*t.size<=5000)(hlv:lv<=999)(h300:t.ks.length<=1000)(hkid:t.k≠14->(Ah t.k.toNat).length<=t.ks.length)(hkv:∃p cc,kv=.slice p t.ks.length cc)(hk:10<=t.k/\t.k<=16/\t.k≠14):zM Tryz.prog 157 #[.pointer (some ⟨X,0,none⟩),.string lead] w λe w'=>e=.returned (.tuple #[])/\∃nk' c',c'<=c+8*t.size-1/\St w0 b l P wN X t gv kv lv nk' c' w':=by
 have hk:t.k=10\/t.k=11\/t.k=12\/t.k=13\/t.k=15\/t.k=16:=by omega
 rcases hk with hk|hk|hk|hk|hk|hk
 .obtain⟨q,N,L,_⟩:=h.text;rw[hk]at q;have z:t.size=1+T.sizes t.ks:=by cases t;rw[T.size,T.ks]
  have G:1<=t.ks.length:=by have:=hkid (by rw[hk];decide);rw[hk]at this;exact this
  clear hkid;have J:T.sizes (t.ks.drop 0)=T.sizes t.ks:=by rw[zem]
  obtain⟨u0,f⟩:∃u,t.ks[0]?=some u:=⟨t.ks[0],zc (by omega)⟩
  have C:T.sizes (t.ks.drop 0)=u0.size+T.sizes (t.ks.drop 1):=T.sizes_drop f;have o:=T.size_pos u0;have i:=za f;clear f;obtain⟨B,A,rfl⟩:=hkv;have m:=za HK.own;have g:=za HK.kid;have I:=za HK;have n:=za HK1;have r:=za h;clear h HK HK1;go_enter Tryz.func157,Tryz.ntmps157;go_wp2_with fail;refine(JG w0 b l P wN X t u0 gv _ lv _ lead ⟨#[108,101,116]⟩ _ I.out r.out i.out hl (by decide) hs (by omega)).mono ?_;rintro e H ⟨rfl,a⟩;have x:=za a;clear a;go_wp2;go_end0;exact⟨rfl,_,_,by omega,x.out⟩
 .obtain⟨q,N,L,_⟩:=h.text;rw[hk]at q;have z:t.size=1+T.sizes t.ks:=by cases t;rw[T.size,T.ks]
  have G:1<=t.ks.length:=by have:=hkid (by rw[hk];decide);rw[hk]at this;exact this
  clear hkid;have J:T.sizes (t.ks.drop 0)=T.sizes t.ks:=by rw[zem]
  obtain⟨u0,f⟩:∃u,t.ks[0]?=some u:=⟨t.ks[0],zc (by omega)⟩
  have C:T.sizes (t.ks.drop 0)=u0.size+T.sizes (t.ks.drop 1):=T.sizes_drop f;have o:=T.size_pos u0;have i:=za f;clear f;obtain⟨B,A,rfl⟩:=hkv;have m:=za HK.own;have g:=za HK.kid;have I:=za HK;have n:=za HK1;have r:=za h;clear h HK HK1;go_enter Tryz.func157,Tryz.ntmps157;go_wp2_with fail;refine(m.out _ _ _ lead t.s r.out hl hs (by omega)).mono ?_;rintro e H ⟨rfl,a⟩;have x:=za a;clear a;go_wp2_with fail;refine(m.out _ _ _ ⟨#[32]⟩ ⟨#[61]⟩ x.out (by decide) (by decide) (by omega)).mono ?_;rintro e Z ⟨rfl,a⟩;have M:=za a;clear a;go_wp2_with fail;refine(g.out _ _ _ u0 ⟨#[32]⟩ M.out i.out (by decide) (by omega)).mono ?_;rintro e Q ⟨rfl,a⟩;replace a:St w0 b l P wN X t gv (.slice B t.ks.length A) lv 1 _ Q:=a;have Y:=za a;clear a;go_wp2_with fail;refine(m.out _ _ _ ⟨#[]⟩ ⟨#[59]⟩ Y.out (by decide) (by decide) (by omega)).mono ?_;rintro e w4 ⟨rfl,a⟩;have H4:=za a;clear a;go_wp2;go_end0;exact⟨rfl,_,_,by omega,H4.out⟩
 .obtain⟨q,N,L,_⟩:=h.text;rw[hk]at q;have z:t.size=1+T.sizes t.ks:=by cases t;rw[T.size,T.ks]
  have G:1<=t.ks.length:=by have:=hkid (by rw[hk];decide);rw[hk]at this;exact this
  clear hkid;have J:T.sizes (t.ks.drop 0)=T.sizes t.ks:=by rw[zem]
  obtain⟨u0,f⟩:∃u,t.ks[0]?=some u:=⟨t.ks[0],zc (by omega)⟩
  have C:T.sizes (t.ks.drop 0)=u0.size+T.sizes (t.ks.drop 1):=T.sizes_drop f;have o:=T.size_pos u0;have i:=za f;clear f;obtain⟨B,A,rfl⟩:=hkv;have m:=za HK.own;have g:=za HK.kid;have I:=za HK;have n:=za HK1;have r:=za h;clear h HK HK1;go_enter Tryz.func157,Tryz.ntmps157;go_wp2_with fail;refine(m.out _ _ _ lead ⟨#[114,101,116,117,114,110]⟩ r.out hl (by decide) (by omega)).mono ?_;rintro e H ⟨rfl,a⟩;have x:=za a;clear a;go_wp2_with fail;refine(g.out _ _ _ u0 ⟨#[32]⟩ x.out i.out (by decide) (by omega)).mono ?_;rintro e Z ⟨rfl,a⟩;replace a:St w0 b l P wN X t gv (.slice B t.ks.length A) lv 1 _ Z:=a;have M:=za a;clear a;go_wp2_with fail;refine(m.out _ _ _ ⟨#[]⟩ ⟨#[59]⟩ M.out (by decide) (by decide) (by omega)).mono ?_;rintro e Q ⟨rfl,a⟩;have Y:=za a;clear a;go_wp2;go_end0;exact⟨rfl,_,_,by omega,Y.out⟩
 .obtain⟨q,N,L,_⟩:=h.text;rw[hk]at q;have z:t.size=1+T.sizes t.ks:=by cases t;rw[T.size,T.ks]
  clear hkid;have J:T.sizes (t.ks.drop 0)=T.sizes t.ks:=by rw[zem]
  obtain⟨B,A,rfl⟩:=hkv;have m:=za HK.own;have g:=za HK.kid;have I:=za HK;have n:=za HK1;have r:=za h;clear h HK HK1;go_enter Tryz.func157,Tryz.ntmps157;go_wp2_with fail;refine(m.out _ _ _ lead ⟨#[105,102]⟩ r.out hl (by decide) (by omega)).mono ?_;rintro e H ⟨rfl,a⟩;have S:=a.text.2.2.1;have x:=za a;clear a;go_wp2;go_loopw [64] (λv W=>∃(j d:Nat),v=.int .i64 (j:Int)/\j<=t.ks.length/\d+8*T.sizes (t.ks.drop j)<=c+1+8*T.sizes t.ks/\St w0 b l P wN X t gv (.slice B t.ks.length A) lv j d W) (λv _=>t.ks.length-(intOf v).toNat)
  case atStart=>exact⟨0,c+1,rfl,by omega,by omega,x.out⟩
  case round=>
   obtain⟨j,d,rfl,hj,aa,a⟩:=hrel;have O:=za a;clear a;by_cases F:j<t.ks.length
   .obtain⟨u,D⟩:∃u,t.ks[j]?=some u:=⟨t.ks[j],zc F⟩
    have V:=T.sizes_drop D;have U:=T.size_pos u;have R:=za D;clear D;go_wp2_with fail;refine(g.out _ _ _ u ⟨#[32]⟩ O.out R.out (by decide) (by omega)).mono ?_;rintro e Q ⟨rfl,y⟩;have E:=za y;clear y;go_wp2;go_roundw
    case rel=>exact⟨j+1,d+8*u.size-1,by go_num,by omega,by omega,E.out⟩
    case measure=>simp[intOf];omega
   .obtain rfl:j=t.ks.length:=by omega
    go_wp2;go_end0;exact⟨rfl,_,_,by omega,O.out⟩
 .obtain⟨q,N,L,_⟩:=h.text;rw[hk]at q;have z:t.size=1+T.sizes t.ks:=by cases t;rw[T.size,T.ks]
  clear hkid;have J:T.sizes (t.ks.drop 0)=T.sizes t.ks:=by rw[zem]
  obtain⟨B,A,rfl⟩:=hkv;have m:=za HK.own;have g:=za HK.kid;have I:=za HK;have n:=za HK1;have r:=za h;clear h HK HK1;go_enter Tryz.func157,Tryz.ntmps157;go_wp2_with fail;refine(m.out _ _ _ lead ⟨#[119,104,105,108,101]⟩ r.out hl (by decide) (by omega)).mono ?_;rintro e H ⟨rfl,a⟩;have S:=a.text.2.2.1;have x:=za a;clear a;go_wp2;go_loopw [64] (λv W=>∃(j d:Nat),v=.int .i64 (j:Int)/\j<=t.ks.length/\d+8*T.sizes (t.ks.drop j)<=c+1+8*T.sizes t.ks/\St w0 b l P wN X t gv (.slice B t.ks.length A) lv j d W) (λv _=>t.ks.length-(intOf v).toNat)
  case atStart=>exact⟨0,c+1,rfl,by omega,by omega,x.out⟩
  case round=>
   obtain⟨j,d,rfl,hj,aa,a⟩:=hrel;have O:=za a;clear a;by_cases F:j<t.ks.length
   .obtain⟨u,D⟩:∃u,t.ks[j]?=some u:=⟨t.ks[j],zc F⟩
    have V:=T.sizes_drop D;have U:=T.size_pos u;have R:=za D;clear D;go_wp2_with fail;refine(g.out _ _ _ u ⟨#[32]⟩ O.out R.out (by decide) (by omega)).mono ?_;rintro e Q ⟨rfl,y⟩;have E:=za y;clear y;go_wp2;go_roundw
    case rel=>exact⟨j+1,d+8*u.size-1,by go_num,by omega,by omega,E.out⟩
    case measure=>simp[intOf];omega
   .obtain rfl:j=t.ks.length:=by omega
    go_wp2;go_end0;exact⟨rfl,_,_,by omega,O.out⟩
 .obtain⟨q,N,L,_⟩:=h.text;rw[hk]at q;have z:t.size=1+T.sizes t.ks:=by cases t;rw[T.size,T.ks]
  have G:1<=t.ks.length:=by have:=hkid (by rw[hk];decide);rw[hk]at this;exact this
  clear hkid;have J:T.sizes (t.ks.drop 0)=T.sizes t.ks:=by rw[zem]
  obtain⟨u0,f⟩:∃u,t.ks[0]?=some u:=⟨t.ks[0],zc (by omega)⟩
  have C:T.sizes (t.ks.drop 0)=u0.size+T.sizes (t.ks.drop 1):=T.sizes_drop f;have o:=T.size_pos u0;have i:=za f;clear f;obtain⟨B,A,rfl⟩:=hkv;have m:=za HK.own;have g:=za HK.kid;have I:=za HK;have n:=za HK1;have r:=za h;clear h HK HK1;go_enter Tryz.func157,Tryz.ntmps157;go_wp2_with fail;refine(g.out _ _ _ u0 lead r.out i.out hl (by omega)).mono ?_;rintro e H ⟨rfl,a⟩;replace a:St w0 b l P wN X t gv (.slice B t.ks.length A) lv 1 _ H:=a;have x:=za a;clear a;go_wp2_with fail;refine(m.out _ _ _ ⟨#[]⟩ ⟨#[59]⟩ x.out (by decide) (by decide) (by omega)).mono ?_;rintro e Z ⟨rfl,a⟩;have M:=za a;clear a;go_wp2;go_end0;exact⟨rfl,_,_,by omega,M.out⟩
theorem Pl(w0:ze)(b l P:Nat)(wN:ze)(X:Nat)(t:T)(gv kv:zg)(lv c:Nat)(lead:ByteArray)(w:ze)(HK:WK w0 b l P wN X t gv kv lv)(HK1:WK w0 b l P wN X t gv kv (lv+1))(h:St w0 b l P wN X t gv kv lv 0 c w)(hl:lead.size<=2000)(hs:t.s.size<=2000000)(hc:c+8*t.size<=5000)(hlv:lv<=999)(h300:t.ks.length<=1000)(hkid:t.k≠14->(Ah t.k.toNat).length<=t.ks.length)(hkv:∃p cc,kv=.slice p t.ks.length cc)(hk:(1<=t.k/\t.k<=9)\/t.k=14):zM Tryz.prog 158 #[.pointer (some ⟨X,0,none⟩),.string lead] w λe w'=>e=.returned (.tuple #[])/\∃nk' c',c'<=c+8*t.size-1/\St w0 b l P wN X t gv kv lv nk' c' w':=by
 have hk:t.k=1\/t.k=2\/t.k=3\/t.k=4\/t.k=5\/t.k=6\/t.k=7\/t.k=8\/t.k=9\/t.k=14:=by omega
 rcases hk with hk|hk|hk|hk|hk|hk|hk|hk|hk|hk
 .obtain⟨n,G,F,_⟩:=h.text;rw[hk]at n;have q:t.size=1+T.sizes t.ks:=by cases t;rw[T.size,T.ks]
  clear hkid;have E:T.sizes (t.ks.drop 0)=T.sizes t.ks:=by rw[zem]
  obtain⟨z,y,rfl⟩:=hkv;have m:=za HK.own;have g:=za HK.kid;have B:=za HK;have i:=za HK1;have o:=za h;clear h HK HK1;go_enter Tryz.func158,Tryz.ntmps158;go_wp2;go_loopw [18,1] (λv u W=>∃(j d:Nat)(S:ByteArray),v=.int .i64 (j:Int)/\u=.string S/\S.size<=2000/\j<=t.ks.length/\d+8*T.sizes (t.ks.drop j)<=c+8*T.sizes t.ks/\St w0 b l P wN X t gv (.slice z t.ks.length y) lv j d W) (λv _ _=>t.ks.length-(intOf v).toNat)
  case atStart=>exact⟨0,c,lead,rfl,rfl,hl,by omega,by omega,o.out⟩
  case round=>
   obtain⟨j,d,S,rfl,rfl,Q,hj,ay,a⟩:=hrel;have ar:=a.text.2.2.1;have Y:=za a;clear a;by_cases ae:j<t.ks.length
   .obtain⟨u,hu⟩:∃u,t.ks[j]?=some u:=⟨t.ks[j],zc ae⟩
    have ad:=T.sizes_drop hu;have av:=T.size_pos u;have HU:=za hu;clear hu;by_cases aj:j=0
    .subst aj;have ap:T.sizes (t.ks.drop 0)=u.size+T.sizes (t.ks.drop 1):=ad;go_wp2_with fail;refine(g.out _ _ _ u S Y.out HU.out Q (by omega)).mono ?_;rintro e O ⟨rfl,x⟩;have N:=za x;clear x;go_wp2;go_roundw
     case rel=>exact⟨1,d+8*u.size-1,S,by go_num,rfl,Q,by omega,by omega,N.out⟩
     case measure=>simp[intOf];omega
    .have aq:(j:Int)>0:=by omega
     go_wp2_with fail;refine(g.out _ _ _ u ⟨#[10,10]⟩ Y.out HU.out (by decide) (by omega)).mono ?_;rintro e O ⟨rfl,x⟩;have N:=za x;clear x;go_wp2;go_roundw
     case rel=>exact⟨j+1,d+8*u.size-1,⟨#[10,10]⟩,by go_num,rfl,by decide,by omega,by omega,N.out⟩
     case measure=>simp[intOf];omega
   .obtain rfl:j=t.ks.length:=by omega
    by_cases aw:(t.ks.length:Int)>0
    .go_wp2_with fail;refine(m.out _ _ _ ⟨#[10]⟩ ⟨#[]⟩ Y.out (by decide) (by decide) (by omega)).mono ?_;rintro e O ⟨rfl,x⟩;go_wp2;go_end0;exact⟨rfl,_,_,by omega,x⟩
    .go_wp2_with fail;refine(m.out _ _ _ S ⟨#[]⟩ Y.out Q (by decide) (by omega)).mono ?_;rintro e O ⟨rfl,x⟩;go_wp2;go_end0;exact⟨rfl,_,_,by omega,x⟩
 .obtain⟨n,G,F,_⟩:=h.text;rw[hk]at n;have q:t.size=1+T.sizes t.ks:=by cases t;rw[T.size,T.ks]
  have R:3<=t.ks.length:=by have:=hkid (by rw[hk];decide);rw[hk]at this;exact this
  clear hkid;have E:T.sizes (t.ks.drop 0)=T.sizes t.ks:=by rw[zem]
  obtain⟨u0,f⟩:∃u,t.ks[0]?=some u:=⟨t.ks[0],zc (by omega)⟩
  have H:T.sizes (t.ks.drop 0)=u0.size+T.sizes (t.ks.drop 1):=T.sizes_drop f;have C:=T.size_pos u0;have r:=za f;clear f;obtain⟨u1,M⟩:∃u,t.ks[1]?=some u:=⟨t.ks[1],zc (by omega)⟩
  have au:T.sizes (t.ks.drop 1)=u1.size+T.sizes (t.ks.drop 2):=T.sizes_drop M;have al:=T.size_pos u1;have aa:=za M;clear M;obtain⟨u2,L⟩:∃u,t.ks[2]?=some u:=⟨t.ks[2],zc (by omega)⟩
  have ax:T.sizes (t.ks.drop 2)=u2.size+T.sizes (t.ks.drop 3):=T.sizes_drop L;have ao:=T.size_pos u2;have ah:=za L;clear L;obtain⟨z,y,rfl⟩:=hkv;have m:=za HK.own;have g:=za HK.kid;have B:=za HK;have i:=za HK1;have o:=za h;clear h HK HK1;go_enter Tryz.func158,Tryz.ntmps158;go_wp2_with fail;refine(m.out _ _ _ lead ⟨#[102,110]⟩ o.out hl (by decide) (by omega)).mono ?_;rintro e I ⟨rfl,a⟩;have V:=a.text.2.1;have A:=za a;clear a;go_wp2_with fail;refine(m.out _ _ _ ⟨#[32]⟩ t.s A.out (by decide) hs (by omega)).mono ?_;rintro e J ⟨rfl,a⟩;have D:=za a;clear a;go_wp2_with fail;refine(g.out _ _ _ u0 ⟨#[]⟩ D.out r.out (by decide) (by omega)).mono ?_;rintro e O ⟨rfl,a⟩;replace a:St w0 b l P wN X t gv (.slice z t.ks.length y) lv 1 _ O:=a;have H3:=za a;clear a;go_wp2_with fail;refine(g.out _ _ _ u1 ⟨#[32]⟩ H3.out aa.out (by decide) (by omega)).mono ?_;rintro e w4 ⟨rfl,a⟩;replace a:St w0 b l P wN X t gv (.slice z t.ks.length y) lv 2 _ w4:=a;have Z:=za a;clear a;go_wp2_with fail;refine(g.out _ _ _ u2 ⟨#[32]⟩ Z.out ah.out (by decide) (by omega)).mono ?_;rintro e w5 ⟨rfl,a⟩;replace a:St w0 b l P wN X t gv (.slice z t.ks.length y) lv 3 _ w5:=a;have H5:=za a;clear a;go_wp2;go_end0;exact⟨rfl,_,_,by omega,H5.out⟩
 .obtain⟨n,G,F,_⟩:=h.text;rw[hk]at n;have q:t.size=1+T.sizes t.ks:=by cases t;rw[T.size,T.ks]
  clear hkid;have E:T.sizes (t.ks.drop 0)=T.sizes t.ks:=by rw[zem]
  obtain⟨z,y,rfl⟩:=hkv;have m:=za HK.own;have g:=za HK.kid;have B:=za HK;have i:=za HK1;have o:=za h;clear h HK HK1;go_enter Tryz.func158,Tryz.ntmps158;go_wp2_with fail;refine(m.out _ _ _ lead ⟨#[40]⟩ o.out hl (by decide) (by omega)).mono ?_;rintro e I ⟨rfl,a⟩;have A:=za a;clear a;go_wp2_with fail;refine(FA w0 b l P wN X t gv _ lv _ _ _ B.out A.out (by omega) (by omega) ⟨_,_,rfl⟩).mono ?_;rintro e J ⟨rfl,nk',c',U,a⟩;have D:=za a;clear a;go_wp2;go_end0;exact⟨rfl,nk',c',by omega,D.out⟩
 .obtain⟨n,G,F,_⟩:=h.text;rw[hk]at n;have q:t.size=1+T.sizes t.ks:=by cases t;rw[T.size,T.ks]
  have R:1<=t.ks.length:=by have:=hkid (by rw[hk];decide);rw[hk]at this;exact this
  clear hkid;have E:T.sizes (t.ks.drop 0)=T.sizes t.ks:=by rw[zem]
  obtain⟨u0,f⟩:∃u,t.ks[0]?=some u:=⟨t.ks[0],zc (by omega)⟩
  have H:T.sizes (t.ks.drop 0)=u0.size+T.sizes (t.ks.drop 1):=T.sizes_drop f;have C:=T.size_pos u0;have r:=za f;clear f;obtain⟨z,y,rfl⟩:=hkv;have m:=za HK.own;have g:=za HK.kid;have B:=za HK;have i:=za HK1;have o:=za h;clear h HK HK1;go_enter Tryz.func158,Tryz.ntmps158;go_wp2_with fail;refine(m.out _ _ _ lead t.s o.out hl hs (by omega)).mono ?_;rintro e I ⟨rfl,a⟩;have A:=za a;clear a;go_wp2_with fail;refine(g.out _ _ _ u0 ⟨#[32]⟩ A.out r.out (by decide) (by omega)).mono ?_;rintro e J ⟨rfl,a⟩;replace a:St w0 b l P wN X t gv (.slice z t.ks.length y) lv 1 _ J:=a;have D:=za a;clear a;go_wp2;go_end0;exact⟨rfl,_,_,by omega,D.out⟩
 .obtain⟨n,G,F,_⟩:=h.text;rw[hk]at n;have q:t.size=1+T.sizes t.ks:=by cases t;rw[T.size,T.ks]
  clear hkid;have E:T.sizes (t.ks.drop 0)=T.sizes t.ks:=by rw[zem]
  obtain⟨z,y,rfl⟩:=hkv;have m:=za HK.own;have g:=za HK.kid;have B:=za HK;have i:=za HK1;have o:=za h;clear h HK HK1;go_enter Tryz.func158,Tryz.ntmps158;go_wp2_with fail;refine(m.out _ _ _ lead t.s o.out hl hs (by omega)).mono ?_;rintro e I ⟨rfl,a⟩;have A:=za a;clear a;go_wp2;go_end0;exact⟨rfl,_,_,by omega,A.out⟩
 .obtain⟨n,G,F,_⟩:=h.text;rw[hk]at n;have q:t.size=1+T.sizes t.ks:=by cases t;rw[T.size,T.ks]
  clear hkid;have E:T.sizes (t.ks.drop 0)=T.sizes t.ks:=by rw[zem]
  obtain⟨z,y,rfl⟩:=hkv;have m:=za HK.own;have g:=za HK.kid;have B:=za HK;have i:=za HK1;have o:=za h;clear h HK HK1;go_enter Tryz.func158,Tryz.ntmps158;go_wp2_with fail;refine(m.out _ _ _ lead ⟨#[123]⟩ o.out hl (by decide) (by omega)).mono ?_;rintro e I ⟨rfl,a⟩;have A:=za a;clear a;go_wp2_with fail;refine(Kd w0 b l P wN X t gv _ lv _ _ 0 _ B.out i.out A.out (by omega) (by omega) hlv (by omega) h300 ⟨_,_,rfl⟩).mono ?_;rintro e J ⟨rfl,nk',c',U,a⟩;have D:=za a;clear a;go_wp2;go_end0;exact⟨rfl,nk',c',by omega,D.out⟩
 .obtain⟨n,G,F,_⟩:=h.text;rw[hk]at n;have q:t.size=1+T.sizes t.ks:=by cases t;rw[T.size,T.ks]
  have R:1<=t.ks.length:=by have:=hkid (by rw[hk];decide);rw[hk]at this;exact this
  clear hkid;have E:T.sizes (t.ks.drop 0)=T.sizes t.ks:=by rw[zem]
  obtain⟨u0,f⟩:∃u,t.ks[0]?=some u:=⟨t.ks[0],zc (by omega)⟩
  have H:T.sizes (t.ks.drop 0)=u0.size+T.sizes (t.ks.drop 1):=T.sizes_drop f;have C:=T.size_pos u0;have r:=za f;clear f;obtain⟨z,y,rfl⟩:=hkv;have m:=za HK.own;have g:=za HK.kid;have B:=za HK;have i:=za HK1;have o:=za h;clear h HK HK1;go_enter Tryz.func158,Tryz.ntmps158;go_wp2_with fail;refine(m.out _ _ _ lead ⟨#[99,108,97,115,115]⟩ o.out hl (by decide) (by omega)).mono ?_;rintro e I ⟨rfl,a⟩;have V:=a.text.2.1;have A:=za a;clear a;go_wp2_with fail;refine(m.out _ _ _ ⟨#[32]⟩ t.s A.out (by decide) hs (by omega)).mono ?_;rintro e J ⟨rfl,a⟩;have D:=za a;clear a;go_wp2_with fail;refine(g.out _ _ _ u0 ⟨#[32]⟩ D.out r.out (by decide) (by omega)).mono ?_;rintro e O ⟨rfl,a⟩;replace a:St w0 b l P wN X t gv (.slice z t.ks.length y) lv 1 _ O:=a;have H3:=za a;clear a;go_wp2_with fail;refine(m.out _ _ _ ⟨#[32]⟩ ⟨#[123]⟩ H3.out (by decide) (by decide) (by omega)).mono ?_;rintro e w4 ⟨rfl,a⟩;have Z:=za a;clear a;go_wp2_with fail;refine(Kd w0 b l P wN X t gv _ lv _ _ 1 _ B.out i.out Z.out (by omega) (by omega) hlv (by omega) h300 ⟨_,_,rfl⟩).mono ?_;rintro e w5 ⟨rfl,nk',c',U,a⟩;have H5:=za a;clear a;go_wp2;go_end0;exact⟨rfl,nk',c',by omega,H5.out⟩
 .rcases zN (t.s.toList.isEmpty)with hb9|hb9
  .obtain⟨n,G,F,_⟩:=h.text;rw[hk]at n;have q:t.size=1+T.sizes t.ks:=by cases t;rw[T.size,T.ks]
   clear hkid;have E:T.sizes (t.ks.drop 0)=T.sizes t.ks:=by rw[zem]
   obtain⟨z,y,rfl⟩:=hkv;have m:=za HK.own;have g:=za HK.kid;have B:=za HK;have i:=za HK1;have o:=za h;clear h HK HK1;go_enter Tryz.func158,Tryz.ntmps158;go_wp2;go_end0;exact⟨rfl,_,_,by omega,o.out⟩
  .obtain⟨n,G,F,_⟩:=h.text;rw[hk]at n;have q:t.size=1+T.sizes t.ks:=by cases t;rw[T.size,T.ks]
   clear hkid;have E:T.sizes (t.ks.drop 0)=T.sizes t.ks:=by rw[zem]
   obtain⟨z,y,rfl⟩:=hkv;have m:=za HK.own;have g:=za HK.kid;have B:=za HK;have i:=za HK1;have o:=za h;clear h HK HK1;go_enter Tryz.func158,Tryz.ntmps158;go_wp2_with fail;refine(m.out _ _ _ lead ⟨#[58]⟩ o.out hl (by decide) (by omega)).mono ?_;rintro e I ⟨rfl,a⟩;have V:=a.text.2.1;have A:=za a;clear a;go_wp2_with fail;refine(m.out _ _ _ ⟨#[32]⟩ t.s A.out (by decide) hs (by omega)).mono ?_;rintro e J ⟨rfl,a⟩;have D:=za a;clear a;go_wp2;go_end0;exact⟨rfl,_,_,by omega,D.out⟩
 .obtain⟨n,G,F,_⟩:=h.text;rw[hk]at n;have q:t.size=1+T.sizes t.ks:=by cases t;rw[T.size,T.ks]
  have R:1<=t.ks.length:=by have:=hkid (by rw[hk];decide);rw[hk]at this;exact this
  clear hkid;have E:T.sizes (t.ks.drop 0)=T.sizes t.ks:=by rw[zem]
  obtain⟨u0,f⟩:∃u,t.ks[0]?=some u:=⟨t.ks[0],zc (by omega)⟩
  have H:T.sizes (t.ks.drop 0)=u0.size+T.sizes (t.ks.drop 1):=T.sizes_drop f;have C:=T.size_pos u0;have r:=za f;clear f;obtain⟨z,y,rfl⟩:=hkv;have m:=za HK.own;have g:=za HK.kid;have B:=za HK;have i:=za HK1;have o:=za h;clear h HK HK1;go_enter Tryz.func158,Tryz.ntmps158;go_wp2_with fail;refine(JG w0 b l P wN X t u0 gv _ lv _ lead ⟨#[99,111,110,115,116]⟩ _ B.out o.out r.out hl (by decide) hs (by omega)).mono ?_;rintro e I ⟨rfl,a⟩;have A:=za a;clear a;go_wp2;go_end0;exact⟨rfl,_,_,by omega,A.out⟩
 .by_cases ab:t.ks.length=0
  .obtain⟨n,G,F,_⟩:=h.text;rw[hk]at n;have q:t.size=1+T.sizes t.ks:=by cases t;rw[T.size,T.ks]
   clear hkid;have E:T.sizes (t.ks.drop 0)=T.sizes t.ks:=by rw[zem]
   obtain⟨z,y,rfl⟩:=hkv;have m:=za HK.own;have g:=za HK.kid;have B:=za HK;have i:=za HK1;have o:=za h;clear h HK HK1;have ai:¬((t.ks.length:Int)>0):=by omega
   clear ab;go_enter Tryz.func158,Tryz.ntmps158;go_wp2;go_end0;exact⟨rfl,_,_,by omega,o.out⟩
  .obtain⟨n,G,F,_⟩:=h.text;rw[hk]at n;have q:t.size=1+T.sizes t.ks:=by cases t;rw[T.size,T.ks]
   clear hkid;have E:T.sizes (t.ks.drop 0)=T.sizes t.ks:=by rw[zem]
   obtain⟨u0,f⟩:∃u,t.ks[0]?=some u:=⟨t.ks[0],zc (by omega)⟩
   have H:=T.sizes_drop f;have C:=T.size_pos u0;have r:=za f;clear f;obtain⟨z,y,rfl⟩:=hkv;have m:=za HK.own;have g:=za HK.kid;have B:=za HK;have i:=za HK1;have o:=za h;clear h HK HK1;have ai:(t.ks.length:Int)>0:=by omega
   go_enter Tryz.func158,Tryz.ntmps158;go_wp2_with fail;refine(m.out _ _ _ lead ⟨#[101,108,115,101]⟩ o.out hl (by decide) (by omega)).mono ?_;rintro e I ⟨rfl,a⟩;have A:=za a;clear a;go_wp2_with fail;refine(g.out _ _ _ u0 ⟨#[32]⟩ A.out r.out (by decide) (by omega)).mono ?_;rintro e J ⟨rfl,a⟩;replace a:St w0 b l P wN X t gv (.slice z t.ks.length y) lv 1 _ J:=a;have D:=za a;clear a;go_wp2;go_end0;exact⟨rfl,_,_,by omega,D.out⟩
theorem UA{B L R S:Ver}{id:Int}{y:Dl}(hW:Win B L R S)(hS:S id=some y):(Df L id=Df R id\/Df R id=Df B id\/Df L id=Df B id)/\Az (Df B id) (Df L id) (Df R id)=y.g:=by
 have e:Df S id=y.g:=by unfold Df;rw[hS];rfl
 rw[<-e];rcases hW id with⟨c,d⟩|⟨c,d⟩|⟨c,d⟩
 .have a:Df L id=Df R id:=by unfold Df;rw[c]
  have b:Df S id=Df R id:=by unfold Df;rw[d]
  exact⟨.inl a,by unfold Az;rw[if_pos (.inl a),a,b]⟩
 .have a:Df L id=Df B id:=by unfold Df;rw[c]
  have b:Df S id=Df R id:=by unfold Df;rw[d]
  refine⟨.inr (.inr a),?_⟩;unfold Az;rw[b];split
  .rename_i h;rcases h with h|h
   .exact h
   .rw[a,h]
  .rfl
 .have a:Df R id=Df B id:=by unfold Df;rw[c]
  have b:Df S id=Df L id:=by unfold Df;rw[d]
  exact⟨.inr (.inl a),by unfold Az;rw[if_pos (.inr a),b]⟩
def By(V:Ver):Prop:=∀i y,V i=some y->y.g.length<=1000000
theorem K9{V:Ver}(h:By V)(id:Int):(Df V id).length<=1000000:=by
 unfold Df;cases hV:V id with
 |none=>simp
 |some y=>exact h id y hV
theorem OJ(M b l r s0 s1 nb nl nr cnt:Nat)(B L R S:Ver)(pk kv tv pv:zg)(id own:Int)(y:Dl)(w:ze)(hM:w.heap[M]?=some (.cells (BV b l r s0 s1 cnt pk kv tv pv) 69 (0,0)))(hB:yV w b nb B)(hL:yV w l nl L)(hR:yV w r nr R)(hW:Win B L R S)(hS:S id=some y)(fB:By B)(fL:By L)(fR:By R)(hid:yw id):zM Tryz.prog 76 #[.pointer (some ⟨M,0,none⟩),.int .i64 id,.int .i64 own] w λe w'=>∃u,e=.returned u/\Cd w' w.heap.size u (if(y.g.length:Int)=own then y.g else[])/\Below w.heap.size w w':=by
 obtain⟨i,m⟩:∃i,i=(w.alloc (.cells #[.int .i64 id] 3)).alloc (.cells #[.slice none 0 0] 151):=⟨_,rfl⟩
 have v:Below w.heap.size w i:=by rw[m];exact(ya _).trans ((ya _).mono (by simp))
 have bq:i.heap.size=w.heap.size+2:=by rw[m];simp
 have ag:i.heap[w.heap.size]?=some (.cells #[.int .i64 id] 3 (0,0)):=by rw[m];exact((ya (w:=w.alloc _) _).block w.heap.size (by simp)).trans (zx _ _)
 have F:i.heap[w.heap.size+1]?=some (.cells #[.slice none 0 0] 151 (0,0)):=by have h:=zx (w.alloc (.cells #[.int .i64 id] 3)) (.cells #[.slice none 0 0] 151);rw[ye]at h;rw[m];exact h
 have ae:i.cell? ⟨w.heap.size,0,none⟩=some (.int .i64 id):=zV i _ 0 _ _ _ ag;have bb:=yz hM;have bc:=za ((v.block M bb).trans hM);obtain⟨P,hP⟩:∃P,P=w.heap.size+1:=⟨_,rfl⟩
 rw[<-hP]at F;have HG:eW (∀(c n N:Nat)(V:Ver)(u:zg)(E:List zg)(W:ze),yV w c n V->Below P i W->W.heap[P]?=some (.cells #[u] 151 (0,0))->W.ownsRow (P+1) 22 1 u N E->N<=3->zM Tryz.prog 114 #[.map (some c),.pointer (some ⟨w.heap.size,0,none⟩),.pointer (some ⟨P,0,none⟩)] W λe w'=>∃J u',e=.returned J/\yI w J (Df V id)/\w'.heap[P]?=some (.cells #[u'] 151 (0,0))/\w'.ownsRow (P+1) 22 1 u' (N+if(V id).isSome then 1 else 0) (E++if(V id).isSome then[J]else[])/\Below P W w'):=za λc n N V u E W hV f hWP hu hN=>Om c n _ P N (P+1) V id u E w W hV (v.trans (f.mono (by omega))) (by omega) ((f.cell (p:=⟨w.heap.size,0,none⟩) (by show w.heap.size<P;omega)).trans ae) (by omega) hid hWP hu (by omega) (by have:=f.size;omega) hN;obtain⟨h3,aq⟩:=UA hW hS;have Z:eW (∀W(vb vl vr:zg),yI W vb (Df B id)->yI W vl (Df L id)->yI W vr (Df R id)->zM Tryz.prog 115 #[vb,vl,vr,.int .i64 own] W λe w'=>∃u,e=.returned u/\Cd w' W.heap.size u (if(y.g.length:Int)=own then y.g else[])/\Below W.heap.size W w'):=za λW vb vl vr g1 g2 g3=>by have:=Mf vb vl vr _ _ _ own W g1 g2 g3 (K9 fB id) (K9 fL id) (K9 fR id) h3;unfold ND at this;rwa [aq]at this
 obtain⟨aa,o⟩:∃aa,aa=(if(y.g.length:Int)=own then y.g else[]):=⟨_,rfl⟩
 rw[<-o]at Z⊢;have D:=za o;clear o;have a3:=za F;have a2:=za v;obtain⟨u0,u1,u2,u3,u4,u5,u6,u7,u8,u9,u10⟩:=yY bc.out;have lP:M<P:=by omega
 have z:eW (∀W,Below P i W->W.cell? ⟨M,0,none⟩=some (.map (some b))/\W.cell? ⟨M,1,none⟩=some (.map (some l))/\W.cell? ⟨M,2,none⟩=some (.map (some r))):=za λW hW=>⟨(hW.cell (p:=⟨M,0,none⟩) lP).trans u0,(hW.cell (p:=⟨M,1,none⟩) lP).trans u1,(hW.cell (p:=⟨M,2,none⟩) lP).trans u2⟩
 have s:Below P i i.drew:=(zt _ _).drew;have a6:=z.out _ s;have ba:=za hB;have a5:=za hL;have a7:=za hR;have ao:eW (i.drew.ownsRow (P+1) 22 1 (.slice none 0 0) 0 []):=za (ed _ _ _ _);clear ag F ae hM hB hL hR u0 u1 u2 u3 u4 u5 u6 u7 u8 u9 u10 h3 aq v;go_enter Tryz.func76,Tryz.ntmps76;go_wp2;rw[<-m,<-hP];have HP:=za hP;clear m hP;go_region_held3 (λw'=>w'.cell? ⟨M,0,none⟩=some (.map (some b))/\w'.cell? ⟨M,1,none⟩=some (.map (some l))/\w'.cell? ⟨M,2,none⟩=some (.map (some r))) (assumption) (first
   |(have q:=ah;go_at_call 114;refine(HG.out r nr _ R u3 _ w3 a7.out x ai ab (by split<;>split<;>omega)).mono ?_;rintro e A ⟨g4,u4,rfl,X,Y,ak,ap⟩;have O:Below P i A:=x.trans ap;have a9:=z.out _ O)
   |(have q:=am;go_at_call 114;refine(HG.out l nl _ L u2 _ w2 a5.out t af ac (by split<;>omega)).mono ?_;rintro e w3 ⟨g3,u3,rfl,an,ai,ab,aj⟩;have x:Below P i w3:=t.trans aj;have ah:=z.out _ x)
   |(go_at_call 114;refine(HG.out b nb 0 B (.slice none 0 0) [] i.drew ba.out s a3.out ao.out (by omega)).mono ?_;rintro e w2 ⟨g2,u2,rfl,U,af,ac,ad⟩;have t:Below P i w2:=s.trans ad;have am:=z.out _ t))
 dsimp only[ef];have f:Below w.heap.size w A:=a2.out.trans (O.mono (by have:=HP.out;omega));have a1:=za (U.below f);have T:=za (an.below f);have al:=za (X.below f);have j:=za f;have Q:=za ak;have x4:A.cell? ⟨P,0,none⟩=some u4:=zV A P 0 _ _ _ Y;clear U an X af ai Y ac ab ak ad aj ap t x O a6 am ah a9 s;obtain⟨n,E,d,I⟩:∃(n:Nat)(E:List zg),A.ownsRow (P+1) 22 1 u4 n E/\((n=1/\∃J,E=[J]/\yI A J y.g)\/n≠1):=by
  refine⟨_,_,Q.out,?_⟩;have gS:Df S id=y.g:=by unfold Df;rw[hS];rfl
  rcases hW id with⟨C,k⟩|⟨C,k⟩|⟨C,k⟩
  .rw[C,<-k,hS];right;cases(B id).isSome<;>simp
  .have a:Df S id=Df R id:=by unfold Df;rw[k]
   rw[C,<-k,hS];cases hb:(B id).isSome
   .left;exact⟨by simp,g4,by simp,by rw[<-gS,a];exact al.out⟩
   .right;simp
  .have a:Df S id=Df L id:=by unfold Df;rw[k]
   rw[C,<-k,hS];cases hb:(B id).isSome
   .left;exact⟨by simp,g3,by simp,by rw[<-gS,a];exact T.out⟩
   .right;simp
 obtain⟨pu,cu,rfl⟩:=yq d;rcases I with⟨rfl,J,rfl,H⟩|hn
 .obtain⟨pg,cg,rfl⟩:=H.slice;obtain⟨a0,ca,ea,_,_⟩:=d.form (by omega);cases ea;have ce:A.cell? ⟨a0,0,none⟩=some (.slice pg y.g.length cg):=ep d 0 (by omega);have aw:=za (Di (.slice pg y.g.length cg) y.g A H (by
   rcases hW id with⟨C,k⟩|⟨C,k⟩|⟨C,k⟩
   .exact fR id y (by rw[<-k,hS])
   .exact fR id y (by rw[<-k,hS])
   .exact fL id y (by rw[<-k,hS])))
  clear d Q H;by_cases ho:(y.g.length:Int)=own
  .have d1:((y.g.length:Int) !=own)=false:=by simpa using ho
   go_wp2_with fail;refine aw.out.mono ?_;rintro e w5 ⟨u5,rfl,a8,G⟩;go_wp2;go_ret;exact⟨u5,rfl,by rw[D.out,if_pos ho];exact Cy a8 j.out.size,j.out.trans (G.mono j.out.size)⟩
  .have d1:((y.g.length:Int) !=own)=true:=by simpa using ho
   go_wp2;go_ret;exact⟨.slice none 0 0,rfl,by rw[D.out,if_neg ho];exact ed _ _ _ _,j.out⟩
 .have d1:((n:Int) !=1)=true:=by
   have:(n:Int)≠1:=by omega
   simpa using this
  have HL:=za (Z.out A g2 g3 g4 a1.out T.out al.out);clear d Q hn;go_wp2_with fail;refine HL.out.mono ?_;rintro e w5 ⟨u5,rfl,a4,G⟩;go_wp2;go_ret;exact⟨u5,rfl,Cy a4 j.out.size,j.out.trans (G.mono j.out.size)⟩
theorem Tf(w:ze)(n:Nat)(hn:n<=1000000):(Instr.makeSlice 22 (.int .i64 (n:Int)) (.int .i64 (n:Int))).run Tryz.prog w=.ok (.slice (some ⟨w.heap.size,0,none⟩) n n) (w.alloc (.cells (madeCells #[.string .empty] n) 9)):=by obtain⟨f,d,c,a,b⟩:=info_parts Ma;have h:=run_makeSlice (P:=Tryz.prog) w 22 9 f (.string .empty) Tryz.underlying22 d c .i64 .i64 (n:Int) (n:Int) (by omega) (by omega) (by rw[a];omega) (by rw[b];omega) (by omega);rw[a]at h;simpa[Value.cells]using h
def AW(w:ze)(base b n:Nat):Prop:=∃xs:List zg,w.ownsRow base 9 1 (.slice (some ⟨b,0,none⟩) n n) n xs
theorem AW.made(w:ze)(n:Nat)(hn:n<=1000000){base:Nat}(hb:base<=w.heap.size):AW (w.alloc (.cells (madeCells #[.string .empty] n) 9)) base w.heap.size n:=by have h:=World.ownsRow_lit (base:=base) (e:=9) (size:=1) w (madeCells #[.string .empty] n) n hb (by simp[maxLen];omega) (by simp[size_madeCells]);rw[toList_madeCells_one]at h;exact⟨_,h⟩
theorem AW.at{w:ze}{base b n:Nat}(h:AW w base b n){j:Nat}(hj:j<n):∃v,w.cell? ⟨b,j,none⟩=some v:=by
 obtain⟨a,h⟩:=h;have c:a.length=n:=by have:=h.1;omega
 exact⟨a[j],(ep h j (by omega)).trans (zc (by omega))⟩
theorem AW.frozen{w:ze}{base b n:Nat}(h:AW w base b n)(j:Nat):w.frozen? ⟨b,j,none⟩=false:=by obtain⟨a,h⟩:=h;exact iN h j
theorem AW.set{w:ze}{base b n:Nat}(h:AW w base b n)(j:Nat)(s:ByteArray):AW (w.setCell ⟨b,j,none⟩ (.string s)) base b n/\w.grownBy (w.setCell ⟨b,j,none⟩ (.string s)) (some b):=by obtain⟨a,h⟩:=h;have:=ii h j (.string s);exact⟨⟨_,this.1⟩,this.2⟩
theorem AW.below{w w':ze}{base b n:Nat}(h:AW w base b n)(hb:Below w.heap.size w w'):AW w' base b n:=by obtain⟨a,h⟩:=h;exact⟨a,yy h hb⟩
theorem OS(HPr:G3)(M b l r s0 s1 nb nl nr cnt bm nm:Nat)(B L R S:Ver)(N:Int->Option T)(pk kv tv pv:zg)(id kind:Int)(y:Dl)(now:List Int)(vn:zg)(w:ze)(hM:w.heap[M]?=some (.cells (BV b l r s0 s1 cnt pk kv tv pv) 69 (0,0)))(hB:yV w b nb B)(hL:yV w l nl L)(hR:yV w r nr R)(hW:Win B L R S)(hS:S id=some y)(fB:A7 B)(fL:A7 L)(fR:A7 R)(hSh:Bh w)(hc:cnt<=1000)(hid:yw id)(hvn:yo w vn now)(hnl:now.length<=300)(hnow:∀k,k∈now↔k∈y.kids)(hin:∀k∈now,0<=k/\k<cnt)(hN:FF w bm nm N)(hT:∀k∈now,∃t,N k=some t/\t.size<=300/\t.bulk<=1048576):zM Tryz.prog 75 #[.pointer (some ⟨M,0,none⟩),.int .i64 id,vn,.map (some bm),.int .i64 kind] w λe w'=>∃u,e=.returned u/\yj w' w.heap.size u y.kids/\Below w.heap.size w w':=by
 obtain⟨pn,cn,rfl⟩:=hvn.slice;obtain⟨a,C⟩:∃a,a=(w.alloc (.cells #[.int .i64 id] 3)).alloc (.cells #[.slice pn now.length cn] 55):=⟨_,rfl⟩
 have U:Below w.heap.size w a:=by rw[C];exact(ya _).trans ((ya _).mono (by simp))
 have dv:a.heap.size=w.heap.size+2:=by rw[C];simp
 have I:a.heap[w.heap.size]?=some (.cells #[.int .i64 id] 3 (0,0)):=by rw[C];exact((ya (w:=w.alloc _) _).block w.heap.size (by simp)).trans (zx _ _)
 have bc:a.heap[w.heap.size+1]?=some (.cells #[.slice pn now.length cn] 55 (0,0)):=by have h:=zx (w.alloc (.cells #[.int .i64 id] 3)) (.cells #[.slice pn now.length cn] 55);rw[ye]at h;rw[C];exact h
 have aw:a.cell? ⟨w.heap.size,0,none⟩=some (.int .i64 id):=zV a _ 0 _ _ _ I;have a4:a.cell? ⟨w.heap.size+1,0,none⟩=some (.slice pn now.length cn):=zV a _ 0 _ _ _ bc;have db:=yz hM;have dd:=za ((U.block M db).trans hM);have ce:=λ(V:Ver)(hf:A7 V)=>Ff hf id now;have ax:eW (∀(c n:Nat)(V:Ver)(W:ze),yV w c n V->A7 V->Below a.heap.size a W->zM Tryz.prog 106 #[.map (some c),.pointer (some ⟨w.heap.size,0,none⟩),.pointer (some ⟨w.heap.size+1,0,none⟩)] W λe w'=>∃u,e=.returned u/\yj w' W.heap.size u (B8 V id now)/\Below W.heap.size W w'):=za λc n V W hV hf hW=>Ow c n _ _ V id (.slice pn now.length cn) now W ((hV.below U).below hW) ((hW.cell (p:=⟨w.heap.size,0,none⟩) (by show w.heap.size<_;omega)).trans aw) hid ((hW.cell (p:=⟨w.heap.size+1,0,none⟩) (by show w.heap.size+1<_;omega)).trans a4) ((hvn.below U).below hW) (by omega) (λy hy=>by have:=(hf id y hy).1;omega);obtain⟨ar,a5⟩:=SJ (now:=now) hW hS (λk hk=>(hnow k).2 hk);obtain⟨bl,bd,bf⟩:=Ff fB id now;obtain⟨ll,ld,lf⟩:=Ff fL id now;obtain⟨rl,rd,rf⟩:=Ff fR id now;have c9:=za hB;have cu:=za hL;have cw:=za hR;have ca:eW (∀W(vb vl vr:zg),yo W vb (B8 B id now)->yo W vl (B8 L id now)->yo W vr (B8 R id now)->zM Tryz.prog 112 #[vb,vl,vr] W λe w'=>∃u,e=.returned (.tuple #[u,.bool true])/\yj w' W.heap.size u y.kids/\Below W.heap.size W w'):=za λW vb vl vr h1 z h3=>by have:=Fy vb vl vr _ _ _ W h1 z h3 bl ll rl bf lf rf ld rd ar;rwa [a5]at this
 have cb:eW (∀W(vb vl vr:zg)(pk:Option Addr)(nk ck:Nat),yo W vb (B8 B id now)->yo W vl (B8 L id now)->yo W vr (B8 R id now)->zM Tryz.prog 111 #[vb,vl,vr,.slice pk nk ck] W λe w'=>∃u,e=.returned (.tuple #[u,.bool true])/\yj w' W.heap.size u y.kids/\Below W.heap.size W w'):=za λW vb vl vr pk nk ck h1 z h3=>by have:=LI vb vl vr pk nk ck _ _ _ W h1 z h3 bl ll rl bf lf rf ld rd ar;rwa [a5]at this
 have ai:y.kids.length<=300/\y.kids.Nodup:=by
  rcases hW id with⟨h1,z⟩|⟨h1,z⟩|⟨h1,z⟩
  .have:=fR id y (by rw[<-z,hS]);exact⟨this.1,this.2.1⟩
  .have:=fR id y (by rw[<-z,hS]);exact⟨this.1,this.2.1⟩
  .have:=fL id y (by rw[<-z,hS]);exact⟨this.1,this.2.1⟩
 have F:=za U;have dr:=za aw;have az:=za a4;clear ar a5 bl bd bf ll ld lf rl rd rf ce I bc hB hL hR hM;obtain⟨u0,u1,u2,u3,u4,u5,u6,u7,u8,u9,u10⟩:=yY dd.out;have cc:=za u5;clear u3 u4 u5 u6 u7 u8 u9 u10 aw a4 U;obtain⟨A,hA⟩:∃A,A=a.heap.size:=⟨_,rfl⟩
 have lA:M<A:=by omega
 have al:eW (∀W,Below A a W->W.cell? ⟨M,0,none⟩=some (.map (some b))/\W.cell? ⟨M,1,none⟩=some (.map (some l))/\W.cell? ⟨M,2,none⟩=some (.map (some r))):=za λW hW=>⟨(hW.cell (p:=⟨M,0,none⟩) lA).trans u0,(hW.cell (p:=⟨M,1,none⟩) lA).trans u1,(hW.cell (p:=⟨M,2,none⟩) lA).trans u2⟩
 go_enter Tryz.func75,Tryz.ntmps75;go_wp2;rw[<-C];clear C;have E:Below A a a.drew:=(zt _ _).drew;have cv:=al.out _ E;clear u0 u1 u2;go_region_held3 (λw'=>w'.cell? ⟨M,0,none⟩=some (.map (some b))/\w'.cell? ⟨M,1,none⟩=some (.map (some l))/\w'.cell? ⟨M,2,none⟩=some (.map (some r))) (assumption) (first
   |(have q:=bh;go_at_call 106;refine(ax.out r nr R w3 cw.out fR (by rw[<-hA];exact Z)).mono ?_;rintro e D ⟨u4,rfl,br,an⟩;have a1:Below A a D:=Z.trans (an.mono (by rw[hA];exact Z.size));have c8:=al.out _ a1)
   |(have q:=bv;go_at_call 106;refine(ax.out l nl L w2 cu.out fL (by rw[<-hA];exact J)).mono ?_;rintro e w3 ⟨u3,rfl,bz,ay⟩;have Z:Below A a w3:=J.trans (ay.mono (by rw[hA];exact J.size));have bh:=al.out _ Z)
   |(go_at_call 106;refine(ax.out b nb B a.drew c9.out fB (by rw[<-hA];exact E)).mono ?_;rintro e w2 ⟨u2,rfl,bs,be⟩;have J:Below A a w2:=E.trans (be.mono (by rw[hA];exact E.size));have bv:=al.out _ J))
 dsimp only[ef];have bn:yo D u2 (B8 B id now):=(bs.ints.below ay).below an;have bo:yo D u3 (B8 L id now):=bz.ints.below an;have bw:yo D u4 (B8 R id now):=br.ints;have ba:=za bn;have b3:=za bo;have b2:=za bw;have bj:A<=D.heap.size:=by have:=a1.size;omega
 obtain⟨O,hO⟩:∃O,O=D.heap.size:=⟨_,rfl⟩
 obtain⟨s,aa⟩:∃s,s=D.alloc (.cells #[.slice none 0 0] 55):=⟨_,rfl⟩
 have av:Below D.heap.size D s:=by rw[aa];exact ya _
 have bp:s.heap[O]?=some (.cells #[.slice none 0 0] 55 (0,0)):=by rw[aa,hO];exact zx _ _
 have a9:=za bp;have v:=za av;have ao:eW (Below A a s):=za (a1.trans (av.mono bj));have aj:s.heap.size=O+1:=by rw[aa,hO];simp
 have cf:A<=O:=by omega
 have ap:eW (∀(W:ze)(vo:zg),W.heap[O]?=some (.cells #[.slice none 0 0] 55 (0,0))->Below A a W->yj W (O+1) vo y.kids->zM Tryz.prog 108 #[vo,.pointer (some ⟨O,0,none⟩)] W λe w'=>e=.returned (.tuple #[])/\∃u',w'.heap[O]?=some (.cells #[u'] 55 (0,0))/\yj w' W.heap.size u' y.kids/\Below A a w'/\W.heap.size<=w'.heap.size):=za λW vo hWO hWA hro=>by have h:=PB O vo (.slice none 0 0) y.kids [] W hro.ints hWO (ed _ _ _ _) (λX hX=>(A8 hro hX (λk hk=>by have:=yf hro k hk;omega)).ints) ai.1 (by simp);refine h.mono ?_;rintro e w' ⟨h1,u',z,h3,h4⟩;refine⟨h1,u',z,?_,yd hWA h4 (λk e=>by cases e;exact cf) (by have:=hWA.size;omega),h4.size⟩;have e:y.kids.foldl Ad []=y.kids:=Hb ai.2;rwa [e]at h3
 have Y:eW (∀(W:ze)(base:Nat)(u':zg),W.heap[O]?=some (.cells #[u'] 55 (0,0))->yj W base u' y.kids->Below A a W->zM Tryz.prog 108 #[.slice pn now.length cn,.pointer (some ⟨O,0,none⟩)] W λe w'=>e=.returned (.tuple #[])/\w'=W):=za λW base u' h1 z h3=>by refine RC O base _ u' now y.kids W ((hvn.below F.out).below (by rw[<-hA];exact h3)) h1 z (λx hx=>(hnow x).1 hx) hnl ai.1
 have G:eW (∀W:ze,Below A a W->Below w.heap.size w W):=za λW h=>F.out.trans (h.mono (by have:=F.out.size;omega));clear bs bz br be ay an J Z cv bv bh c8 E bn bo bw bp av ai;go_wp2_with fail;rw[<-aa];refine(RS kind s).mono ?_;rintro e w6 ⟨rfl,o⟩;rw[o];clear o w6;rw[<-hO];have ct:eW (D.heap.size=O):=za hO.symm;clear aa hO;rcases zN (VK kind)with hfr|hfr
 .rw[hfr];have c5:=(ao.out.cell (p:=⟨M,5,none⟩) lA).trans cc.out;have n5:=(ao.out.cell (p:=⟨w.heap.size+1,0,none⟩) (by show w.heap.size+1<A;omega)).trans az.out;have hmk:=Tf s cnt (by omega);rw[aj]at hmk;obtain⟨w6,o⟩:∃w6,w6=s.alloc (.cells (madeCells #[.string .empty] cnt) 9):=⟨_,rfl⟩
  have bk:AW w6 (O+1) (O+1) cnt:=by have:=AW.made s cnt (by omega) (base:=O+1) (by omega);rw[aj]at this;rwa [o]
  have d:Below (O+1) s w6:=by rw[o,<-aj];exact ya _
  rw[<-o]at hmk;have n6:=(d.cell (p:=⟨w.heap.size+1,0,none⟩) (by show w.heap.size+1<O+1;omega)).trans n5;have c2:=za bk;have dc:=za d;clear o bk d;go_wp2;clear c5 n5 n6 hmk;go_loopw [54] (λjv X=>∃j:Nat,j<=now.length/\jv=.int .i64 j/\AW X (O+1) (O+1) cnt/\Below (O+1) s X) (λjv _=>now.length-(intOf jv).toNat)
  case atStart=>exact⟨0,by omega,rfl,c2.out,dc.out⟩
  case round=>
   obtain⟨j,hj,rfl,b1,ad⟩:=hrel;have a0:Below A a wr:=ao.out.trans (ad.mono (by omega));have hw:=G.out _ a0;have de:=za b1;have a3:=za ad;have c1:=za a0;have dh:=ad.size;clear b1 ad a0;by_cases cs:j<now.length
   .obtain⟨x,hx⟩:∃x,now[j]?=some x:=⟨now[j],zc cs⟩
    obtain⟨bx,ox,rfl,ds,cx⟩:=(hvn.below hw).at hx;obtain⟨I,cz⟩:=hin x (zq hx);obtain⟨c,rfl⟩:=Int.eq_ofNat_of_zero_le I;obtain⟨t,b4,b6,cm⟩:=hT _ (zq hx);have cj:yw (c:Int):=Bg (by omega) (by omega);obtain⟨gv,ci,dn,P⟩:=(hN.below hw).look b4 cj;have c0:=za (S6 HPr t gv ci wr P (hSh.below hw) b6 cm);have da:c<cnt:=by omega
    have du:(c:Int)<(cnt:Int):=by omega
    clear hx b4 P hw I cz;go_wp2_with fail;refine c0.out.mono ?_;rintro e w7 ⟨sk,rfl,af⟩;have ae:=de.out.below af;obtain⟨v7,x7⟩:=ae.at da;have f7:=ae.frozen c;obtain⟨bq,bt⟩:=ae.set c sk;have c4:=za bq;have cp:eW (Below (O+1) s (w7.setCell ⟨O+1,c,none⟩ (.string sk))):=za (yd (a3.out.trans (af.mono (by omega))) bt (λk e=>by cases e;exact zn _) (by have:=af.size;omega));clear ae bq bt af;go_wp2;go_roundw
    case rel=>exact⟨j+1,by omega,by go_num,c4.out,cp.out⟩
    case measure=>simp[intOf];omega
   .obtain rfl:j=now.length:=by omega
    have ab:Below D.heap.size D wr:=v.out.trans (a3.out.mono (by have:=ct.out;omega));have ah:=(a3.out.block O (by omega)).trans a9.out;have bu:=za (cb.out wr u2 u3 u4 (some ⟨O+1,0,none⟩) cnt cnt (ba.out.below ab) (b3.out.below ab) (b2.out.below ab));clear hw;go_wp2_with fail;refine bu.out.mono ?_;rintro e bg ⟨u6,rfl,m,d⟩;obtain⟨p6,c6,rfl⟩:=yq m;have H:Below A a bg:=c1.out.trans (d.mono (by omega));have f:=(d.block O (by omega)).trans ah;have HE:=za (ap.out bg _ f H (Au m (by omega)));clear m d ah f;go_wp2_with fail;refine HE.out.mono ?_;rintro e w7 ⟨rfl,u7,f,i,g,b8⟩;have c7:=g.cell (p:=⟨w.heap.size+1,0,none⟩) (by show w.heap.size+1<A;omega);replace c7:=c7.trans az.out;have au:=za (Y.out w7 _ u7 f i g);have x7:w7.cell? ⟨O,0,none⟩=some u7:=zV w7 O 0 _ _ _ f;obtain⟨p7,cy,rfl⟩:=yq i;go_wp2_with fail;refine au.out.mono ?_;rintro e w8 ⟨rfl,Q⟩;rw[Q];clear Q w8;go_wp2;go_ret;exact⟨_,rfl,Au i (by have:=F.out.size;have:=H.size;omega),G.out _ g⟩
 .rw[hfr];go_wp2_with fail;refine(ca.out s u2 u3 u4 (ba.out.below v.out) (b3.out.below v.out) (b2.out.below v.out)).mono ?_;rintro e w6 ⟨u6,rfl,m,d⟩;obtain⟨p6,c6,rfl⟩:=yq m;have H:Below A a w6:=ao.out.trans (d.mono (by omega));have ah:=(d.block O (by omega)).trans a9.out;have HE:=za (ap.out w6 _ ah H (by rw[<-aj];exact m));clear m d;go_wp2_with fail;refine HE.out.mono ?_;rintro e w7 ⟨rfl,u7,f,i,g,b8⟩;have c7:=g.cell (p:=⟨w.heap.size+1,0,none⟩) (by show w.heap.size+1<A;omega);replace c7:=c7.trans az.out;have au:=za (Y.out w7 _ u7 f i g);have x7:w7.cell? ⟨O,0,none⟩=some u7:=zV w7 O 0 _ _ _ f;obtain⟨p7,cy,rfl⟩:=yq i;go_wp2_with fail;refine au.out.mono ?_;rintro e w8 ⟨rfl,Q⟩;rw[Q];clear Q w8;go_wp2;go_ret;exact⟨_,rfl,Au i (by have:=F.out.size;have:=H.size;omega),G.out _ g⟩
end Go.Proofs
