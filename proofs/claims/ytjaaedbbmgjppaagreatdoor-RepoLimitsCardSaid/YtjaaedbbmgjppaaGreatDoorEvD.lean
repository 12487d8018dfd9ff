/-
  What the evaluator's values stand for, and how its state stands to a world of the model. Frames, operands, types; loads and stores; new blocks.
-/
import Derived.Test.YtjaaedbbmgjppaaGreatDoorEvA
import Derived.Laws.Cells
import Derived.Laws.IdiomCopy
import Derived.Calls
set_option linter.all false

namespace Go.Ev

/-- What may stand for a value of which nothing is known. -/
inductive Atom where
  | str (s : ByteArray)
  | int (k : IntKind) (n : Int)

def Atom.val : Atom → Value
  | .str s => .string s
  | .int k n => .int k n

/-- Which block, with which shift, stands for a block of the evaluator's; what a capacity has beyond its least value. -/
structure Ren where
  b : Nat → Option (Nat × Nat)
  k : Nat → Option Nat
  v : Nat → Option Atom

def Ren.cap (ρ : Ren) : Cap → Option Nat
  | .ex n => some n
  | .sy id base => (ρ.k id).map (base + ·)

def strReal (s : List Nat) : ByteArray := ⟨(s.map UInt8.ofNat).toArray⟩

mutual
def real (ρ : Ren) : CV → Option Value
  | .bool b => some (.bool b)
  | .int k n => some (.int k n)
  | .str s => some (.string (strReal s))
  | .nilp => some (.pointer none)
  | .ptr b o => (ρ.b b).map fun x => .pointer (some ⟨x.1, o + x.2, none⟩)
  | .nils => some (.slice none 0 0)
  | .slice b o len c => (ρ.b b).bind fun x => (ρ.cap c).map fun c => .slice (some ⟨x.1, o + x.2, none⟩) len c
  | .nilm => some (.map none)
  | .map r => (ρ.b r).map fun x => .map (some x.1)
  | .func f fi ca => (reals ρ fi).bind fun x => (reals ρ ca).map fun y => .func (.func f) x.toArray y.toArray
  | .nilf => some .nilFunc
  | .iface t v => (real ρ v).map (.iface t)
  | .nili => some .nilIface
  | .agg l => (reals ρ l).map fun x => .agg x.toArray
  | .tup l => (reals ρ l).map fun x => .tuple x.toArray
  | .opq i => (ρ.v i).map Atom.val
def reals (ρ : Ren) : List CV → Option (List Value)
  | [] => some []
  | v :: vs => (real ρ v).bind fun x => (reals ρ vs).map fun y => x :: y
end

/-- More is named. -/
structure Ren.Le (ρ ρ' : Ren) : Prop where
  b : ∀ i x, ρ.b i = some x → ρ'.b i = some x
  k : ∀ i x, ρ.k i = some x → ρ'.k i = some x
  v : ∀ i x, ρ.v i = some x → ρ'.v i = some x

theorem Ren.Le.refl (ρ : Ren) : ρ.Le ρ := ⟨fun _ _ h => h, fun _ _ h => h, fun _ _ h => h⟩
theorem Ren.Le.trans {a b c : Ren} (h : a.Le b) (h' : b.Le c) : a.Le c := ⟨fun i x e => h'.b i x (h.b i x e), fun i x e => h'.k i x (h.k i x e), fun i x e => h'.v i x (h.v i x e)⟩

theorem Ren.Le.cap {ρ ρ' : Ren} (h : ρ.Le ρ') {c : Cap} {n : Nat} (e : ρ.cap c = some n) : ρ'.cap c = some n := by
  cases c with
  | ex m => exact e
  | sy i base =>
    simp only [Ren.cap, Option.map_eq_some_iff] at e ⊢
    obtain ⟨x, hx, rfl⟩ := e
    exact ⟨x, h.k _ _ hx, rfl⟩

theorem real_mono {ρ ρ' : Ren} (h : ρ.Le ρ') (v : CV) : ∀ V, real ρ v = some V → real ρ' v = some V := by
  refine CV.rec (motive_1 := fun v => ∀ V, real ρ v = some V → real ρ' v = some V) (motive_2 := fun l => ∀ L, reals ρ l = some L → reals ρ' l = some L)
    ?_ ?_ ?_ ?_ ?_ ?_ ?_ ?_ ?_ ?_ ?_ ?_ ?_ ?_ ?_ ?_ ?_ ?_ v
  · intro b V e; simpa [real] using e
  · intro k n V e; simpa [real] using e
  · intro s V e; simpa [real] using e
  · intro V e; simpa [real] using e
  · intro b o V e
    simp only [real, Option.map_eq_some_iff] at e ⊢
    obtain ⟨x, hx, rfl⟩ := e
    exact ⟨x, h.b _ _ hx, rfl⟩
  · intro V e; simpa [real] using e
  · intro b o len c V e
    simp only [real, Option.bind_eq_some_iff, Option.map_eq_some_iff] at e ⊢
    obtain ⟨x, hx, y, hy, rfl⟩ := e
    exact ⟨x, h.b _ _ hx, y, h.cap hy, rfl⟩
  · intro V e; simpa [real] using e
  · intro b V e
    simp only [real, Option.map_eq_some_iff] at e ⊢
    obtain ⟨x, hx, rfl⟩ := e
    exact ⟨x, h.b _ _ hx, rfl⟩
  · intro f fi ca ih1 ih2 V e
    simp only [real, Option.bind_eq_some_iff, Option.map_eq_some_iff] at e ⊢
    obtain ⟨x, hx, y, hy, rfl⟩ := e
    exact ⟨x, ih1 _ hx, y, ih2 _ hy, rfl⟩
  · intro V e; simpa [real] using e
  · intro t v ih V e
    simp only [real, Option.map_eq_some_iff] at e ⊢
    obtain ⟨x, hx, rfl⟩ := e
    exact ⟨x, ih _ hx, rfl⟩
  · intro V e; simpa [real] using e
  · intro l ih V e
    simp only [real, Option.map_eq_some_iff] at e ⊢
    obtain ⟨x, hx, rfl⟩ := e
    exact ⟨x, ih _ hx, rfl⟩
  · intro l ih V e
    simp only [real, Option.map_eq_some_iff] at e ⊢
    obtain ⟨x, hx, rfl⟩ := e
    exact ⟨x, ih _ hx, rfl⟩
  · intro i V e
    simp only [real, Option.map_eq_some_iff] at e ⊢
    obtain ⟨x, hx, rfl⟩ := e
    exact ⟨x, h.v _ _ hx, rfl⟩
  · intro L e; simpa [reals] using e
  · intro v l ih1 ih2 L e
    simp only [reals, Option.bind_eq_some_iff, Option.map_eq_some_iff] at e ⊢
    obtain ⟨x, hx, y, hy, rfl⟩ := e
    exact ⟨x, ih1 _ hx, y, ih2 _ hy, rfl⟩

theorem reals_mono {ρ ρ' : Ren} (h : ρ.Le ρ') : ∀ (l : List CV) (L : List Value), reals ρ l = some L → reals ρ' l = some L
  | [], L, e => by simpa [reals] using e
  | v :: l, L, e => by
    simp only [reals, Option.bind_eq_some_iff, Option.map_eq_some_iff] at e ⊢
    obtain ⟨x, hx, y, hy, rfl⟩ := e
    exact ⟨x, real_mono h v _ hx, y, reals_mono h l _ hy, rfl⟩

/-- The cells of a list of values, one by one. -/
theorem reals_get {ρ : Ren} : ∀ {l : List CV} {L : List Value}, reals ρ l = some L → ∀ (i : Nat) (v : CV), l[i]? = some v → ∃ V : Value, real ρ v = some V ∧ L[i]? = some V
  | [], L, e, i, v, h => by simp at h
  | u :: l, L, e, i, v, h => by
    simp only [reals, Option.bind_eq_some_iff, Option.map_eq_some_iff] at e
    obtain ⟨x, hx, y, hy, rfl⟩ := e
    cases i with
    | zero => simp at h; subst h; exact ⟨x, hx, rfl⟩
    | succ i => simpa using reals_get hy i v (by simpa using h)

theorem reals_length {ρ : Ren} : ∀ {l : List CV} {L : List Value}, reals ρ l = some L → L.length = l.length
  | [], L, e => by simp [reals] at e; subst e; rfl
  | u :: l, L, e => by
    simp only [reals, Option.bind_eq_some_iff, Option.map_eq_some_iff] at e
    obtain ⟨x, hx, y, hy, rfl⟩ := e
    simp [reals_length hy]

theorem reals_append {ρ : Ren} : ∀ {l m : List CV} {L M : List Value}, reals ρ l = some L → reals ρ m = some M → reals ρ (l ++ m) = some (L ++ M)
  | [], m, L, M, e, f => by simp [reals] at e; subst e; simpa using f
  | u :: l, m, L, M, e, f => by
    simp only [reals, Option.bind_eq_some_iff, Option.map_eq_some_iff] at e
    obtain ⟨x, hx, y, hy, rfl⟩ := e
    simp only [List.cons_append, reals, Option.bind_eq_some_iff, Option.map_eq_some_iff]
    exact ⟨x, hx, y ++ M, reals_append hy f, rfl⟩

theorem reals_cons {ρ : Ren} {v : CV} {V : Value} {l : List CV} {L : List Value} (h : real ρ v = some V) (e : reals ρ l = some L) :
    reals ρ (v :: l) = some (V :: L) := by simp [reals, h, e]

/-- What an object stands for, shifted by D. -/
def ObjRel (ρ : Ren) (D : Nat) : CObj → Obj → Prop
  | .row cells sh hi wr id sz, .cells c _ fz =>
    (∀ i, i < hi → ∃ v V, cells.get (i + sh) = some v ∧ real ρ v = some V ∧ c[i + D]? = some V ∧ (wr = true → ¬ (fz.1 ≤ i + D ∧ i + D < fz.2))) ∧
    ((sz = 0 ∧ D = 0) ∨ (sz ≠ 0 ∧ ∃ x, ρ.k id = some x ∧ ∀ j, j < x * sz → (∃ V, c[hi + D + j]? = some V) ∧ (wr = true → ¬ (fz.1 ≤ hi + D + j ∧ hi + D + j < fz.2))))
  | .map es clock, .map es' clock' => D = 0 ∧ clock' = clock ∧ ∃ l : List (Value × Value × Nat),
      es'.toList = l.map (fun e => ⟨e.1, e.2.1, e.2.2⟩) ∧ l.length = es.length ∧
      ∀ (i : Nat) (e : CV × CV × Nat), es[i]? = some e → ∃ e' : Value × Value × Nat, l[i]? = some e' ∧ real ρ e.1 = some e'.1 ∧ real ρ e.2.1 = some e'.2.1 ∧ e.2.2 = e'.2.2
  | .siter s pos, .stringIter s' pos' => D = 0 ∧ s' = strReal s ∧ pos' = pos
  | _, _ => False

theorem ObjRel.mono {ρ ρ' : Ren} (h : ρ.Le ρ') {D : Nat} {o : CObj} {O : Obj} (e : ObjRel ρ D o O) : ObjRel ρ' D o O := by
  cases o with
  | row cells sh hi wr id sz =>
    cases O with
    | cells c t fz =>
      obtain ⟨e, e'⟩ := e
      refine ⟨fun i hi' => ?_, ?_⟩
      · obtain ⟨v, V, h1, h2, h3, h4⟩ := e i hi'
        exact ⟨v, V, h1, real_mono h _ _ h2, h3, h4⟩
      · rcases e' with e' | ⟨hz, x, hx, e'⟩
        · exact .inl e'
        · exact .inr ⟨hz, x, h.k _ _ hx, e'⟩
    | _ => exact e.elim
  | map es clock =>
    cases O with
    | map es' clock' =>
      obtain ⟨hD, h1, l, h2, h3, h4⟩ := e
      refine ⟨hD, h1, l, h2, h3, fun i e he => ?_⟩
      obtain ⟨e', a, b, c, d⟩ := h4 i e he
      exact ⟨e', a, real_mono h _ _ b, real_mono h _ _ c, d⟩
    | _ => exact e.elim
  | siter s pos =>
    cases O with
    | stringIter s' pos' => exact e
    | _ => exact e.elim

def St.has (S : St) (b : Nat) : Prop := ∃ o, S.heap.get b = some o

/-- A state of the evaluator stands for a world. -/
structure Rel (ρ : Ren) (S : St) (w : World) : Prop where
  obj : ∀ b o, S.heap.get b = some o → ∃ B D O, ρ.b b = some (B, D) ∧ w.heap[B]? = some O ∧ ObjRel ρ D o O
  inj : ∀ b b' (B D D' : Nat), S.has b → S.has b' → ρ.b b = some (B, D) → ρ.b b' = some (B, D') → b = b'
  fresh : ∀ b, S.next ≤ b → ρ.b b = none
  freshk : ∀ i, S.nk ≤ i → ρ.k i = none

/-- From one state and world to later ones; the blocks below N keep their names. -/
structure StpB (N : Nat) (ρ : Ren) (S : St) (w : World) (ρ' : Ren) (S' : St) (w' : World) : Prop where
  ext : ρ.Le ρ'
  rel : Rel ρ' S' w'
  next : S.next ≤ S'.next
  nk : S.nk ≤ S'.nk
  keep : ∀ x, x < w.heap.size → (∀ b D, S.has b → ρ.b b ≠ some (x, D)) → w'.heap[x]? = w.heap[x]?
  size : w.heap.size ≤ w'.heap.size
  dom : ∀ b B D, S'.has b → ρ'.b b = some (B, D) → B < w.heap.size → ∃ b0 D0, S.has b0 ∧ ρ.b b0 = some (B, D0)
  os : w'.os = w.os
  tape : w'.tape = w.tape
  output : w'.output = w.output
  old : ∀ b, b < N → ρ'.b b = ρ.b b

abbrev Stp (ρ : Ren) (S : St) (w : World) (ρ' : Ren) (S' : St) (w' : World) : Prop := StpB S.next ρ S w ρ' S' w'

theorem Stp.refl {ρ : Ren} {S : St} {w : World} (h : Rel ρ S w) : Stp ρ S w ρ S w :=
  ⟨.refl ρ, h, Nat.le_refl _, Nat.le_refl _, fun _ _ _ => rfl, Nat.le_refl _, fun b _ D hb e _ => ⟨b, D, hb, e⟩, rfl, rfl, rfl, fun _ _ => rfl⟩

theorem StpB.comp {N N' : Nat} {ρ ρ1 ρ2 : Ren} {S S1 S2 : St} {w w1 w2 : World} (h : StpB N ρ S w ρ1 S1 w1) (h' : StpB N' ρ1 S1 w1 ρ2 S2 w2) (hN : N ≤ N') : StpB N ρ S w ρ2 S2 w2 where
  ext := h.ext.trans h'.ext
  rel := h'.rel
  next := Nat.le_trans h.next h'.next
  nk := Nat.le_trans h.nk h'.nk
  keep := fun x hx hn => by
    rw [h'.keep x (Nat.lt_of_lt_of_le hx h.size) (fun b D hb e => by
      obtain ⟨b0, D0, h0, e0⟩ := h.dom b x D hb e hx
      exact hn b0 D0 h0 e0)]
    exact h.keep x hx hn
  size := Nat.le_trans h.size h'.size
  dom := fun b B D hb e hB => by
    obtain ⟨b1, D1, hb1, e1⟩ := h'.dom b B D hb e (Nat.lt_of_lt_of_le hB h.size)
    exact h.dom b1 B D1 hb1 e1 hB
  os := h'.os.trans h.os
  tape := h'.tape.trans h.tape
  output := h'.output.trans h.output
  old := fun b hb => (h'.old b (Nat.lt_of_lt_of_le hb hN)).trans (h.old b hb)

theorem Stp.trans {ρ ρ1 ρ2 : Ren} {S S1 S2 : St} {w w1 w2 : World} (h : Stp ρ S w ρ1 S1 w1) (h' : Stp ρ1 S1 w1 ρ2 S2 w2) : Stp ρ S w ρ2 S2 w2 := StpB.comp h h' h.next

end Go.Ev

namespace Go.Ev

/-! ### Temporaries -/

theorem getT_setT_eq (t : Nat) (v : CV) (tm : Tm) (h : t < 256) : getT t (setT t v tm) = some v := by
  unfold getT setT
  rw [N16.sel_upd_eq _ _ _ (by omega), N16.sel_upd_eq _ _ _ (by omega)]

theorem getT_setT_ne (t u : Nat) (v : CV) (tm : Tm) (h : t < 256) (h' : u < 256) (hn : t ≠ u) : getT u (setT t v tm) = getT u tm := by
  unfold getT setT
  by_cases e : u / 16 = t / 16
  · rw [e, N16.sel_upd_eq _ _ _ (by omega), N16.sel_upd_ne _ _ _ _ (by omega) (by omega) (by omega)]
  · rw [N16.sel_upd_ne _ _ _ _ (by omega) (by omega) e]

theorem getT_empty (t : Nat) (h : t < 256) : getT t .empty = none := by
  unfold getT Tm.empty
  rw [N16.sel_all _ _ (by omega), N16.sel_all _ _ (by omega)]

theorem blt_of {n m : Nat} (h : Nat.blt n m = true) : n < m := by simpa [Nat.blt_eq] using h
theorem ble_of {n m : Nat} (h : Nat.ble n m = true) : n ≤ m := Nat.le_of_ble_eq_true h
theorem beq_of {n m : Nat} (h : Nat.beq n m = true) : n = m := Nat.eq_of_beq_eq_true h

theorem tmpO_eval (t : Nat) (tm : Tm) : (tmpO t).eval tm = if t < 256 then getT t tm else none := by
  unfold tmpO
  by_cases h : t < 256
  · rw [if_pos h]
    have hb : Nat.blt t 256 = true := by simpa [Nat.blt_eq] using h
    rw [hb, cond_true, N16.selB_eq _ (by omega), N16.selB_eq _ (by omega)]
    rfl
  · rw [if_neg h]
    have hb : Nat.blt t 256 = false := by
      cases e : Nat.blt t 256 with
      | false => rfl
      | true => exact absurd (blt_of e) h
    rw [hb, cond_false]
    rfl

/-- The temporaries that the evaluator knows are those of the frame. -/
structure FrRel (ρ : Ren) (nt : Nat) (tm : Tm) (a : Act) : Prop where
  size : nt ≤ a.tmps.size
  val : ∀ t v, t < 256 → getT t tm = some v → ∃ V, real ρ v = some V ∧ a.tmps[t]? = some V

theorem FrRel.mono {ρ ρ' : Ren} {nt : Nat} {tm : Tm} {a : Act} (h : FrRel ρ nt tm a) (hl : ρ.Le ρ') : FrRel ρ' nt tm a :=
  ⟨h.size, fun t v ht e => by obtain ⟨V, h1, h2⟩ := h.val t v ht e; exact ⟨V, real_mono hl _ _ h1, h2⟩⟩

theorem dstOf_some {nt : Nat} {dst : Option Tmp} {x : Dst} (h : dstOf nt dst = some x) :
    (dst = none ∧ ∀ v tm, putD x v tm = tm) ∨ ∃ d : Nat, dst = some d ∧ d < nt ∧ d < 256 ∧ ∀ v tm, putD x v tm = setT d v tm := by
  cases dst with
  | none => simp [dstOf] at h; subst h; exact .inl ⟨rfl, fun _ _ => rfl⟩
  | some d =>
    simp only [dstOf] at h
    cases e : (Nat.blt d nt && Nat.blt d 256) with
    | false => rw [e] at h; simp at h
    | true =>
      rw [e, cond_true] at h
      simp only [Bool.and_eq_true] at e
      have h1 := blt_of e.1
      have h2 := blt_of e.2
      rw [N16.selB_eq _ (by omega), N16.updB_eq _ (by omega), N16.updB_eq _ (by omega)] at h
      simp only [Option.some.injEq] at h
      subst h
      exact .inr ⟨d, rfl, h1, h2, fun _ _ => rfl⟩

theorem FrRel.put {ρ : Ren} {nt : Nat} {tm : Tm} {a : Act} (h : FrRel ρ nt tm a) {dst : Option Tmp} {x : Dst} (hd : dstOf nt dst = some x)
    {v : CV} {V : Value} (hv : real ρ v = some V) : FrRel ρ nt (putD x v tm) (a.put dst V) := by
  rcases dstOf_some hd with ⟨rfl, hp⟩ | ⟨d, rfl, h1, h2, hp⟩
  · rw [hp]; exact h
  · rw [hp]
    refine ⟨by simpa [Act.put] using h.size, fun t u ht e => ?_⟩
    by_cases htd : d = t
    · subst htd
      rw [getT_setT_eq _ _ _ h2] at e
      cases e
      refine ⟨V, hv, ?_⟩
      simp only [Act.put]
      rw [Array.getElem?_setIfInBounds_self_of_lt (by have := h.size; omega)]
    · have htd' : ¬ (d : Nat) = t := htd
      rw [getT_setT_ne _ _ _ _ h2 ht htd'] at e
      obtain ⟨U, hU, hU'⟩ := h.val t u ht e
      refine ⟨U, hU, ?_⟩
      simp only [Act.put]
      rw [Array.getElem?_setIfInBounds_ne htd]
      exact hU'

theorem put_defers (a : Act) (dst : Option Tmp) (V : Value) : (a.put dst V).defers = a.defers := by cases dst <;> rfl

/-! ### Constants -/

theorem strReal_toNat (s : ByteArray) : strReal (s.data.toList.map UInt8.toNat) = s := by
  unfold strReal
  rw [List.map_map]
  have : (UInt8.ofNat ∘ UInt8.toNat) = id := by funext x; simp
  rw [this, List.map_id]

theorem real_mapM {ρ : Ren} {f : Value → Option CV} (hf : ∀ v c, f v = some c → real ρ c = some v) : ∀ (l : List Value) (L : List CV), l.mapM f = some L → reals ρ L = some l
  | [], L, h => by simp at h; subst h; rfl
  | v :: l, L, h => by
    rw [List.mapM_cons] at h
    simp only [Option.pure_def, Option.bind_eq_bind, Option.bind_eq_some_iff, Option.some.injEq] at h
    obtain ⟨c, hc, C, hC, rfl⟩ := h
    exact reals_cons (hf _ _ hc) (real_mapM hf l C hC)

theorem ofV_real {ρ : Ren} : ∀ (n : Nat) (v : Value) (c : CV), ofV n v = some c → real ρ c = some v
  | 0, v, c, h => by simp [ofV] at h
  | n + 1, v, c, h => by
    unfold ofV at h
    split at h
    · cases h; rfl
    · cases h; rfl
    · cases h; simp [real, strReal_toNat]
    · cases h; rfl
    · cases h; rfl
    · cases h; rfl
    · cases h; rfl
    · cases h; rfl
    · rename_i f fi ca
      split at h
      · rename_i he
        cases h
        simp only [Bool.and_eq_true, Array.isEmpty_iff] at he
        obtain ⟨h1, h2⟩ := he
        subst h1; subst h2
        simp [real, reals]
      · cases h
    · rename_i cs
      simp only [Option.map_eq_some_iff] at h
      obtain ⟨L, hL, rfl⟩ := h
      have := real_mapM (ρ := ρ) (fun v c => ofV_real n v c) _ _ hL
      simp [real, this]
    · rename_i cs
      simp only [Option.map_eq_some_iff] at h
      obtain ⟨L, hL, rfl⟩ := h
      have := real_mapM (ρ := ρ) (fun v c => ofV_real n v c) _ _ hL
      simp [real, this]
    · cases h

/-! ### Operands -/

/-- The program's variables lie where they lie. -/
def Glob (P : Program) (ρ : Ren) : Prop := ∀ g, g < P.globals.size → ρ.b g = some (g, 0)

theorem Glob.mono {P : Program} {ρ ρ' : Ren} (h : Glob P ρ) (hl : ρ.Le ρ') : Glob P ρ' := fun g hg => hl.b _ _ (h g hg)

theorem opd_real {P : Program} {ρ : Ren} {nt : Nat} {tm : Tm} {a : Act} (h : FrRel ρ nt tm a) (hg : Glob P ρ) (x : Operand) (v : CV)
    (e : (opd P x).eval tm = some v) : real ρ v = some (a.eval x) := by
  cases x with
  | tmp t =>
    simp only [opd, tmpO_eval] at e
    split at e
    · rename_i ht
      obtain ⟨V, h1, h2⟩ := h.val t v ht e
      simp [Act.eval, h1, h2]
    · cases e
  | const c =>
    simp only [opd] at e
    split at e
    · rename_i c' hc
      have : v = c' := by simpa [Opd.eval] using e.symm
      subst this
      simpa [Act.eval] using ofV_real _ _ _ hc
    · simp [Opd.eval] at e
  | global g =>
    simp only [opd] at e
    cases hb : Nat.blt g P.globals.size with
    | false => rw [hb] at e; simp [Opd.eval] at e
    | true =>
      rw [hb] at e
      have : v = .ptr g 0 := by simpa [Opd.eval] using e.symm
      subst this
      simp [real, hg g (blt_of hb), Act.eval]
  | func f =>
    have : v = .func f [] [] := by simpa [opd, Opd.eval] using e.symm
    subst this
    simp [real, reals, Act.eval]

theorem evalL_cons (x : Opd) (l : List Opd) (tm : Tm) : evalL (x :: l) tm = (x.eval tm).bind fun v => (evalL l tm).bind fun vs => some (v :: vs) := by
  have h : evalL (x :: l) tm = Option.rec (motive := fun _ => Option (List CV)) none (fun v => Option.rec (motive := fun _ => Option (List CV)) none (fun vs => some (v :: vs)) (evalL l tm)) (x.eval tm) := rfl
  rw [h]
  cases x.eval tm with
  | none => rfl
  | some v => cases evalL l tm <;> rfl

theorem opds_real {P : Program} {ρ : Ren} {nt : Nat} {tm : Tm} {a : Act} (h : FrRel ρ nt tm a) (hg : Glob P ρ) : ∀ (xs : List Operand) (vs : List CV),
    evalL (opds P xs) tm = some vs → reals ρ vs = some (xs.map a.eval)
  | [], vs, e => by
    have : vs = [] := by simpa [opds, evalL] using e.symm
    subst this; rfl
  | x :: xs, vs, e => by
    rw [opds, evalL_cons] at e
    simp only [Option.bind_eq_some_iff, Option.some.injEq] at e
    obtain ⟨v, hv, us, hus, rfl⟩ := e
    exact reals_cons (opd_real h hg x v hv) (opds_real h hg xs us hus)

/-! ### Types -/

theorem tyOf_some {P : Program} {t : TypeId} {i : TyE} (h : tyOf P t = some i) :
    ∃ info, P.info? t = some info ∧ P.underlying t = some i.desc ∧ info.size = i.size ∧ info.bytes = i.bytes ∧ info.zero = i.zero := by
  unfold tyOf at h
  split at h
  · cases h
  · rename_i info hi
    split at h
    · cases h
    · rename_i d hd
      cases h
      exact ⟨info, hi, hd, rfl, rfl, rfl⟩

section
variable {P : Program} {t : TypeId} {i : TyE} (h : tyOf P t = some i) (w : World)
include h
theorem run_typeInfo' : ∃ info, (typeInfo t).run P w = .ok info w ∧ info.size = i.size ∧ info.bytes = i.bytes ∧ info.zero = i.zero := by
  obtain ⟨info, h1, h2, h3⟩ := tyOf_some h
  exact ⟨info, by simp [typeInfo, h1], h3⟩
theorem run_underlying' : (underlying t).run P w = .ok i.desc w := by
  obtain ⟨info, h1, h2, h3⟩ := tyOf_some h
  simp [underlying, h2]
theorem run_sizeOf' : (sizeOf t).run P w = .ok i.size w := by
  obtain ⟨info, h1, h2, h3⟩ := run_typeInfo' h w
  simp [sizeOf, h1, h2]
theorem run_isAgg' : (isAgg t).run P w = .ok (isAggD i.desc) w := by
  simp only [isAgg, Sem.run_bind, run_underlying' h w, Result.andThen_ok]
  cases i.desc <;> rfl
end

theorem zeroOf_real {P : Program} {t : TypeId} {z : CV} (h : zeroOf P t = some z) {ρ : Ren} (w : World) :
    ∃ Z, (zeroValue t).run P w = .ok Z w ∧ real ρ z = some Z := by
  unfold zeroOf at h
  split at h
  · cases h
  · rename_i i hi
    split at h
    · cases h
    · rename_i v hv
      obtain ⟨info, h1, h2, h3, h4⟩ := run_typeInfo' hi w
      rw [hv] at h4
      exact ⟨v, by simp [zeroValue, h1, h4], ofV_real _ _ _ h⟩

end Go.Ev
