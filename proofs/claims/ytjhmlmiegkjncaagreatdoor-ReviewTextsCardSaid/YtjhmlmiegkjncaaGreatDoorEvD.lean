/-
  What the evaluator's values stand for, and how its state stands to a world of the model. Frames, operands, types; loads and stores; new blocks. Each operation that looks at no memory. Operations that look at no memory, continued: slices, indexes, composites.
-/
import Derived.Test.YtjhmlmiegkjncaaGreatDoorEvA
import Derived.Laws.Cells
import Derived.Laws.IdiomCopy
import Derived.Calls
set_option linter.all false

namespace Go.Ev

/-- What may stand for a value of which nothing is known. -/
inductive Atom where
  | str (s : ByteArray)
  | int (k : IntKind) (n : Int)
  | raw (s : ByteArray)          -- a string that is compared with no other

def Atom.val : Atom → Value
  | .str s => .string s
  | .int k n => .int k n
  | .raw s => .string s

/-- Which block, with which shift, stands for a block of the evaluator's; what a capacity has beyond its least value. -/
structure Ren where
  b : Nat → Option (Nat × Nat)
  k : Nat → Option Nat
  v : Nat → Option Atom

def Ren.cap (ρ : Ren) : Cap → Option Nat
  | .ex n => some n
  | .sy id base => (ρ.k id).map (base + ·)

def strReal (s : List Nat) : ByteArray := ⟨(s.map UInt8.ofNat).toArray⟩

/-- Unknown strings of two classes are two. -/
def UInj (ρ : Ren) : Prop := ∀ (i j : Nat) (s : ByteArray), ρ.v i = some (.str s) → ρ.v j = some (.str s) → i = j

open Classical in
noncomputable def Ren.ustr (ρ : Ren) (c lo hi : Nat) : Option ByteArray :=
  match ρ.v c with
  | some (.str s) => if UInj ρ ∧ lo ≤ s.size ∧ s.size ≤ hi then some s else none
  | _ => none

theorem Ren.ustr_some {ρ : Ren} {c lo hi : Nat} {s : ByteArray} (h : ρ.ustr c lo hi = some s) : ρ.v c = some (.str s) ∧ UInj ρ ∧ lo ≤ s.size ∧ s.size ≤ hi := by
  unfold Ren.ustr at h
  split at h
  · rename_i s' hs
    split at h
    · rename_i hc
      cases h
      exact ⟨hs, hc⟩
    · cases h
  · cases h

mutual
noncomputable def real (ρ : Ren) : CV → Option Value
  | .bool b => some (.bool b)
  | .int k n => some (.int k n)
  | .str s => some (.string (strReal s))
  | .nilp => some (.pointer none)
  | .ptr b o => (ρ.b b).map fun x => .pointer (some ⟨x.1, o + x.2, none⟩)
  | .nils => some (.slice none 0 0)
  | .slice b o len c => (ρ.b b).bind fun x => (ρ.cap c).map fun c => .slice (some ⟨x.1, o + x.2, none⟩) len c
  | .nilm => some (.map none)
  | .map r => (ρ.b r).map fun x => .map (some x.1)
  | .func f fi ca => (reals ρ fi).bind fun x => (reals ρ ca).map fun y => .func (.func f) x.toArray y.toArray
  | .nilf => some .nilFunc
  | .iface t v => (real ρ v).map (.iface t)
  | .nili => some .nilIface
  | .agg l => (reals ρ l).map fun x => .agg x.toArray
  | .tup l => (reals ρ l).map fun x => .tuple x.toArray
  | .opq i => (ρ.v i).map Atom.val
  | .ustr c lo hi => (ρ.ustr c lo hi).map .string
  | .ulen c lo hi => (ρ.ustr c lo hi).map fun s => .int .i64 s.size
  | .tail b o sh id => (ρ.b b).bind fun x => (ρ.k id).map fun n => .slice (some ⟨x.1, o + x.2 + (if n = 0 then 0 else sh), none⟩) 0 n
noncomputable def reals (ρ : Ren) : List CV → Option (List Value)
  | [] => some []
  | v :: vs => (real ρ v).bind fun x => (reals ρ vs).map fun y => x :: y
end

/-- More is named. -/
structure Ren.Le (ρ ρ' : Ren) : Prop where
  b : ∀ i x, ρ.b i = some x → ρ'.b i = some x
  k : ∀ i x, ρ.k i = some x → ρ'.k i = some x
  v : ρ'.v = ρ.v

theorem Ren.Le.refl (ρ : Ren) : ρ.Le ρ := ⟨fun _ _ h => h, fun _ _ h => h, rfl⟩
theorem Ren.Le.trans {a b c : Ren} (h : a.Le b) (h' : b.Le c) : a.Le c := ⟨fun i x e => h'.b i x (h.b i x e), fun i x e => h'.k i x (h.k i x e), h'.v.trans h.v⟩

theorem Ren.Le.cap {ρ ρ' : Ren} (h : ρ.Le ρ') {c : Cap} {n : Nat} (e : ρ.cap c = some n) : ρ'.cap c = some n := by
  cases c with
  | ex m => exact e
  | sy i base =>
    simp only [Ren.cap, Option.map_eq_some_iff] at e ⊢
    obtain ⟨x, hx, rfl⟩ := e
    exact ⟨x, h.k _ _ hx, rfl⟩

theorem Ren.Le.ustr {ρ ρ' : Ren} (h : ρ.Le ρ') : ρ'.ustr = ρ.ustr := by
  funext c lo hi
  unfold Ren.ustr UInj
  rw [h.v]

theorem real_mono {ρ ρ' : Ren} (h : ρ.Le ρ') (v : CV) : ∀ V, real ρ v = some V → real ρ' v = some V := by
  refine CV.rec (motive_1 := fun v => ∀ V, real ρ v = some V → real ρ' v = some V) (motive_2 := fun l => ∀ L, reals ρ l = some L → reals ρ' l = some L)
    ?_ ?_ ?_ ?_ ?_ ?_ ?_ ?_ ?_ ?_ ?_ ?_ ?_ ?_ ?_ ?_ ?_ ?_ ?_ ?_ ?_ v
  · intro b V e; simpa [real] using e
  · intro k n V e; simpa [real] using e
  · intro s V e; simpa [real] using e
  · intro V e; simpa [real] using e
  · intro b o V e
    simp only [real, Option.map_eq_some_iff] at e ⊢
    obtain ⟨x, hx, rfl⟩ := e
    exact ⟨x, h.b _ _ hx, rfl⟩
  · intro V e; simpa [real] using e
  · intro b o len c V e
    simp only [real, Option.bind_eq_some_iff, Option.map_eq_some_iff] at e ⊢
    obtain ⟨x, hx, y, hy, rfl⟩ := e
    exact ⟨x, h.b _ _ hx, y, h.cap hy, rfl⟩
  · intro V e; simpa [real] using e
  · intro b V e
    simp only [real, Option.map_eq_some_iff] at e ⊢
    obtain ⟨x, hx, rfl⟩ := e
    exact ⟨x, h.b _ _ hx, rfl⟩
  · intro f fi ca ih1 ih2 V e
    simp only [real, Option.bind_eq_some_iff, Option.map_eq_some_iff] at e ⊢
    obtain ⟨x, hx, y, hy, rfl⟩ := e
    exact ⟨x, ih1 _ hx, y, ih2 _ hy, rfl⟩
  · intro V e; simpa [real] using e
  · intro t v ih V e
    simp only [real, Option.map_eq_some_iff] at e ⊢
    obtain ⟨x, hx, rfl⟩ := e
    exact ⟨x, ih _ hx, rfl⟩
  · intro V e; simpa [real] using e
  · intro l ih V e
    simp only [real, Option.map_eq_some_iff] at e ⊢
    obtain ⟨x, hx, rfl⟩ := e
    exact ⟨x, ih _ hx, rfl⟩
  · intro l ih V e
    simp only [real, Option.map_eq_some_iff] at e ⊢
    obtain ⟨x, hx, rfl⟩ := e
    exact ⟨x, ih _ hx, rfl⟩
  · intro i V e
    simp only [real, Option.map_eq_some_iff] at e ⊢
    obtain ⟨x, hx, rfl⟩ := e
    exact ⟨x, by rw [h.v]; exact hx, rfl⟩
  · intro b o sh id V e
    simp only [real, Option.bind_eq_some_iff, Option.map_eq_some_iff] at e ⊢
    obtain ⟨x, hx, y, hy, rfl⟩ := e
    exact ⟨x, h.b _ _ hx, y, h.k _ _ hy, rfl⟩
  · intro c lo hi V e
    simp only [real] at e ⊢
    rw [h.ustr]
    exact e
  · intro c lo hi V e
    simp only [real] at e ⊢
    rw [h.ustr]
    exact e
  · intro L e; simpa [reals] using e
  · intro v l ih1 ih2 L e
    simp only [reals, Option.bind_eq_some_iff, Option.map_eq_some_iff] at e ⊢
    obtain ⟨x, hx, y, hy, rfl⟩ := e
    exact ⟨x, ih1 _ hx, y, ih2 _ hy, rfl⟩

theorem reals_mono {ρ ρ' : Ren} (h : ρ.Le ρ') : ∀ (l : List CV) (L : List Value), reals ρ l = some L → reals ρ' l = some L
  | [], L, e => by simpa [reals] using e
  | v :: l, L, e => by
    simp only [reals, Option.bind_eq_some_iff, Option.map_eq_some_iff] at e ⊢
    obtain ⟨x, hx, y, hy, rfl⟩ := e
    exact ⟨x, real_mono h v _ hx, y, reals_mono h l _ hy, rfl⟩

/-- The cells of a list of values, one by one. -/
theorem reals_get {ρ : Ren} : ∀ {l : List CV} {L : List Value}, reals ρ l = some L → ∀ (i : Nat) (v : CV), l[i]? = some v → ∃ V : Value, real ρ v = some V ∧ L[i]? = some V
  | [], L, e, i, v, h => by simp at h
  | u :: l, L, e, i, v, h => by
    simp only [reals, Option.bind_eq_some_iff, Option.map_eq_some_iff] at e
    obtain ⟨x, hx, y, hy, rfl⟩ := e
    cases i with
    | zero => simp at h; subst h; exact ⟨x, hx, rfl⟩
    | succ i => simpa using reals_get hy i v (by simpa using h)

theorem reals_length {ρ : Ren} : ∀ {l : List CV} {L : List Value}, reals ρ l = some L → L.length = l.length
  | [], L, e => by simp [reals] at e; subst e; rfl
  | u :: l, L, e => by
    simp only [reals, Option.bind_eq_some_iff, Option.map_eq_some_iff] at e
    obtain ⟨x, hx, y, hy, rfl⟩ := e
    simp [reals_length hy]

theorem reals_append {ρ : Ren} : ∀ {l m : List CV} {L M : List Value}, reals ρ l = some L → reals ρ m = some M → reals ρ (l ++ m) = some (L ++ M)
  | [], m, L, M, e, f => by simp [reals] at e; subst e; simpa using f
  | u :: l, m, L, M, e, f => by
    simp only [reals, Option.bind_eq_some_iff, Option.map_eq_some_iff] at e
    obtain ⟨x, hx, y, hy, rfl⟩ := e
    simp only [List.cons_append, reals, Option.bind_eq_some_iff, Option.map_eq_some_iff]
    exact ⟨x, hx, y ++ M, reals_append hy f, rfl⟩

theorem reals_cons {ρ : Ren} {v : CV} {V : Value} {l : List CV} {L : List Value} (h : real ρ v = some V) (e : reals ρ l = some L) :
    reals ρ (v :: l) = some (V :: L) := by simp [reals, h, e]

/-- The keys differ, each from each. -/
def keysApart : List (CV × CV × Nat) → Bool
  | [] => true
  | e :: l => (l.all fun e' => match keyEq e.1 e'.1 with | some b => !b | none => false) && keysApart l

/-- What an object stands for, shifted by D. -/
def ObjRel (ρ : Ren) (D : Nat) : CObj → Obj → Prop
  | .row cells sh hi wr id sz ty, .cells c u fz =>
    (∀ i, i < hi → ∃ v V, cells.get (i + sh) = some v ∧ real ρ v = some V ∧ c[i + D]? = some V ∧ (wr = true → ¬ (fz.1 ≤ i + D ∧ i + D < fz.2))) ∧
    ((sz = 0 ∧ D = 0) ∨ (sz ≠ 0 ∧ ∃ x, ρ.k id = some x ∧ ∀ j, j < x * sz → (∃ V, c[hi + D + j]? = some V) ∧ (wr = true → ¬ (fz.1 ≤ hi + D + j ∧ hi + D + j < fz.2)))) ∧
    (ty ≠ 0 → u + 1 = ty)
  | .map es clock, .map es' clock' => D = 0 ∧ clock' = clock ∧ ∃ l : List (Value × Value × Nat),
      es'.toList = l.map (fun e => ⟨e.1, e.2.1, e.2.2⟩) ∧ l.length = es.length ∧
      ∀ (i : Nat) (e : CV × CV × Nat), es[i]? = some e → ∃ e' : Value × Value × Nat, l[i]? = some e' ∧ real ρ e.1 = some e'.1 ∧ real ρ e.2.1 = some e'.2.1 ∧ e.2.2 = e'.2.2
  | .siter s pos, .stringIter s' pos' => D = 0 ∧ s' = strReal s ∧ pos' = pos
  | .miter m since seen last, .mapIter m' since' seen' last' => D = 0 ∧ (match m with | none => m' = none | some r => ∃ R, ρ.b r = some (R, 0) ∧ m' = some R) ∧ since' = since ∧ seen' = seen.toArray ∧ last' = last
  | .mapU es, .map es' _ => D = 0 ∧ keysApart es = true ∧ ∃ l : List (Value × Value), (es'.toList.map fun e => (e.key, e.val)).Perm l ∧ l.length = es.length ∧
      ∀ (i : Nat) (e : CV × CV × Nat), es[i]? = some e → ∃ e' : Value × Value, l[i]? = some e' ∧ real ρ e.1 = some e'.1 ∧ real ρ e.2.1 = some e'.2
  | .mapQ hs, .map es' _ => D = 0 ∧ ∀ q, q ∈ hs → ∃ s, real ρ q.1 = some (.string s) ∧ (match q.2 with
    | none => Instr.findNow .string (.string s) es'.toList 0 = some none
    | some v => ∃ V i, real ρ v = some V ∧ Instr.findNow .string (.string s) es'.toList 0 = some (some (i, V)))
  | _, _ => False

theorem ObjRel.mono {ρ ρ' : Ren} (h : ρ.Le ρ') {D : Nat} {o : CObj} {O : Obj} (e : ObjRel ρ D o O) : ObjRel ρ' D o O := by
  cases o with
  | row cells sh hi wr id sz ty =>
    cases O with
    | cells c t fz =>
      obtain ⟨e, e', e2⟩ := e
      refine ⟨fun i hi' => ?_, ?_, e2⟩
      · obtain ⟨v, V, h1, h2, h3, h4⟩ := e i hi'
        exact ⟨v, V, h1, real_mono h _ _ h2, h3, h4⟩
      · rcases e' with e' | ⟨hz, x, hx, e'⟩
        · exact .inl e'
        · exact .inr ⟨hz, x, h.k _ _ hx, e'⟩
    | _ => exact e.elim
  | map es clock =>
    cases O with
    | map es' clock' =>
      obtain ⟨hD, h1, l, h2, h3, h4⟩ := e
      refine ⟨hD, h1, l, h2, h3, fun i e he => ?_⟩
      obtain ⟨e', a, b, c, d⟩ := h4 i e he
      exact ⟨e', a, real_mono h _ _ b, real_mono h _ _ c, d⟩
    | _ => exact e.elim
  | siter s pos =>
    cases O with
    | stringIter s' pos' => exact e
    | _ => exact e.elim
  | miter m since seen last =>
    cases O with
    | mapIter m' since' seen' last' =>
      obtain ⟨hD, h1, h2⟩ := e
      refine ⟨hD, ?_, h2⟩
      cases m with
      | none => exact h1
      | some r =>
        obtain ⟨R, h3, h4⟩ := h1
        exact ⟨R, h.b _ _ h3, h4⟩
    | _ => exact e.elim
  | mapU es =>
    cases O with
    | map es' clock' =>
      obtain ⟨hD, h1, l, h2, h3, h4⟩ := e
      refine ⟨hD, h1, l, h2, h3, fun i e he => ?_⟩
      obtain ⟨e', a, b, c⟩ := h4 i e he
      exact ⟨e', a, real_mono h _ _ b, real_mono h _ _ c⟩
    | _ => exact e.elim
  | mapQ hs =>
    cases O with
    | map es' clock' =>
      obtain ⟨hD, h1⟩ := e
      refine ⟨hD, fun q hq => ?_⟩
      obtain ⟨s, h2, h3⟩ := h1 q hq
      refine ⟨s, real_mono h _ _ h2, ?_⟩
      cases hv : q.2 with
      | none => rw [hv] at h3; exact h3
      | some v =>
        rw [hv] at h3
        obtain ⟨V, i, h4, h5⟩ := h3
        exact ⟨V, i, real_mono h _ _ h4, h5⟩
    | _ => exact e.elim

def St.has (S : St) (b : Nat) : Prop := ∃ o, S.heap.get b = some o
/-- A block that may be written. -/
def St.hasW (S : St) (b : Nat) : Prop := ∃ o, S.heap.get b = some o ∧ o.wr = true
theorem St.hasW.has {S : St} {b : Nat} (h : S.hasW b) : S.has b := h.elim fun o ho => ⟨o, ho.1⟩

/-- A state of the evaluator stands for a world. -/
structure Rel (ρ : Ren) (S : St) (w : World) : Prop where
  obj : ∀ b o, S.heap.get b = some o → ∃ B D O, ρ.b b = some (B, D) ∧ w.heap[B]? = some O ∧ ObjRel ρ D o O
  inj : ∀ b b' (B D D' : Nat), S.has b → S.has b' → S.hasW b ∨ S.hasW b' → ρ.b b = some (B, D) → ρ.b b' = some (B, D') → b = b'
  fresh : ∀ b, S.next ≤ b → ρ.b b = none
  freshk : ∀ i, S.nk ≤ i → ρ.k i = none

/-- From one state and world to later ones; the blocks below N keep their names. -/
structure StpB (N : Nat) (ρ : Ren) (S : St) (w : World) (ρ' : Ren) (S' : St) (w' : World) : Prop where
  ext : ρ.Le ρ'
  rel : Rel ρ' S' w'
  next : S.next ≤ S'.next
  nk : S.nk ≤ S'.nk
  keep : ∀ x, x < w.heap.size → (∀ b D, S.hasW b → ρ.b b ≠ some (x, D)) → w'.heap[x]? = w.heap[x]?
  size : w.heap.size ≤ w'.heap.size
  dom : ∀ b B D, S'.has b → ρ'.b b = some (B, D) → B < w.heap.size → ∃ b0 D0, S.has b0 ∧ ρ.b b0 = some (B, D0)
  os : w'.os = w.os
  tape : w'.tape = w.tape
  output : w'.output = w.output
  old : ∀ b, b < N → ρ'.b b = ρ.b b
  domW : ∀ b B D, S'.hasW b → ρ'.b b = some (B, D) → B < w.heap.size → ∃ b0 D0, S.hasW b0 ∧ ρ.b b0 = some (B, D0)

abbrev Stp (ρ : Ren) (S : St) (w : World) (ρ' : Ren) (S' : St) (w' : World) : Prop := StpB S.next ρ S w ρ' S' w'

theorem Stp.refl {ρ : Ren} {S : St} {w : World} (h : Rel ρ S w) : Stp ρ S w ρ S w :=
  ⟨.refl ρ, h, Nat.le_refl _, Nat.le_refl _, fun _ _ _ => rfl, Nat.le_refl _, fun b _ D hb e _ => ⟨b, D, hb, e⟩, rfl, rfl, rfl, fun _ _ => rfl, fun b _ D hb e _ => ⟨b, D, hb, e⟩⟩

theorem StpB.comp {N N' : Nat} {ρ ρ1 ρ2 : Ren} {S S1 S2 : St} {w w1 w2 : World} (h : StpB N ρ S w ρ1 S1 w1) (h' : StpB N' ρ1 S1 w1 ρ2 S2 w2) (hN : N ≤ N') : StpB N ρ S w ρ2 S2 w2 where
  ext := h.ext.trans h'.ext
  rel := h'.rel
  next := Nat.le_trans h.next h'.next
  nk := Nat.le_trans h.nk h'.nk
  keep := fun x hx hn => by
    rw [h'.keep x (Nat.lt_of_lt_of_le hx h.size) (fun b D hb e => by
      obtain ⟨b0, D0, h0, e0⟩ := h.domW b x D hb e hx
      exact hn b0 D0 h0 e0)]
    exact h.keep x hx hn
  size := Nat.le_trans h.size h'.size
  dom := fun b B D hb e hB => by
    obtain ⟨b1, D1, hb1, e1⟩ := h'.dom b B D hb e (Nat.lt_of_lt_of_le hB h.size)
    exact h.dom b1 B D1 hb1 e1 hB
  os := h'.os.trans h.os
  tape := h'.tape.trans h.tape
  output := h'.output.trans h.output
  old := fun b hb => (h'.old b (Nat.lt_of_lt_of_le hb hN)).trans (h.old b hb)
  domW := fun b B D hb e hB => by
    obtain ⟨b1, D1, hb1, e1⟩ := h'.domW b B D hb e (Nat.lt_of_lt_of_le hB h.size)
    exact h.domW b1 B D1 hb1 e1 hB

theorem Stp.trans {ρ ρ1 ρ2 : Ren} {S S1 S2 : St} {w w1 w2 : World} (h : Stp ρ S w ρ1 S1 w1) (h' : Stp ρ1 S1 w1 ρ2 S2 w2) : Stp ρ S w ρ2 S2 w2 := StpB.comp h h' h.next

end Go.Ev

namespace Go.Ev

/-! ### Temporaries -/

theorem getT_setT_eq (t : Nat) (v : CV) (tm : Tm) (h : t < 256) : getT t (setT t v tm) = some v := by
  unfold getT setT
  rw [N16.sel_upd_eq _ _ _ (by omega), N16.sel_upd_eq _ _ _ (by omega)]

theorem getT_setT_ne (t u : Nat) (v : CV) (tm : Tm) (h : t < 256) (h' : u < 256) (hn : t ≠ u) : getT u (setT t v tm) = getT u tm := by
  unfold getT setT
  by_cases e : u / 16 = t / 16
  · rw [e, N16.sel_upd_eq _ _ _ (by omega), N16.sel_upd_ne _ _ _ _ (by omega) (by omega) (by omega)]
  · rw [N16.sel_upd_ne _ _ _ _ (by omega) (by omega) e]

theorem getT_empty (t : Nat) (h : t < 256) : getT t .empty = none := by
  unfold getT Tm.empty
  rw [N16.sel_all _ _ (by omega), N16.sel_all _ _ (by omega)]

theorem blt_of {n m : Nat} (h : Nat.blt n m = true) : n < m := by simpa [Nat.blt_eq] using h
theorem ble_of {n m : Nat} (h : Nat.ble n m = true) : n ≤ m := Nat.le_of_ble_eq_true h
theorem beq_of {n m : Nat} (h : Nat.beq n m = true) : n = m := Nat.eq_of_beq_eq_true h

theorem tmpO_eval (t : Nat) (tm : Tm) : (tmpO t).eval tm = if t < 256 then getT t tm else none := by
  unfold tmpO
  by_cases h : t < 256
  · rw [if_pos h]
    have hb : Nat.blt t 256 = true := by simpa [Nat.blt_eq] using h
    rw [hb, cond_true, N16.selB_eq _ (by omega), N16.selB_eq _ (by omega)]
    rfl
  · rw [if_neg h]
    have hb : Nat.blt t 256 = false := by
      cases e : Nat.blt t 256 with
      | false => rfl
      | true => exact absurd (blt_of e) h
    rw [hb, cond_false]
    rfl

/-- The temporaries that the evaluator knows are those of the frame. -/
structure FrRel (ρ : Ren) (nt : Nat) (tm : Tm) (a : Act) : Prop where
  size : nt ≤ a.tmps.size
  val : ∀ t v, t < 256 → getT t tm = some v → ∃ V, real ρ v = some V ∧ a.tmps[t]? = some V

theorem FrRel.mono {ρ ρ' : Ren} {nt : Nat} {tm : Tm} {a : Act} (h : FrRel ρ nt tm a) (hl : ρ.Le ρ') : FrRel ρ' nt tm a :=
  ⟨h.size, fun t v ht e => by obtain ⟨V, h1, h2⟩ := h.val t v ht e; exact ⟨V, real_mono hl _ _ h1, h2⟩⟩

theorem dstOf_some {nt : Nat} {dst : Option Tmp} {x : Dst} (h : dstOf nt dst = some x) :
    (dst = none ∧ ∀ v tm, putD x v tm = tm) ∨ ∃ d : Nat, dst = some d ∧ d < nt ∧ d < 256 ∧ ∀ v tm, putD x v tm = setT d v tm := by
  cases dst with
  | none => simp [dstOf] at h; subst h; exact .inl ⟨rfl, fun _ _ => rfl⟩
  | some d =>
    simp only [dstOf] at h
    cases e : (Nat.blt d nt && Nat.blt d 256) with
    | false => rw [e] at h; simp at h
    | true =>
      rw [e, cond_true] at h
      simp only [Bool.and_eq_true] at e
      have h1 := blt_of e.1
      have h2 := blt_of e.2
      rw [N16.selB_eq _ (by omega), N16.updB_eq _ (by omega), N16.updB_eq _ (by omega)] at h
      simp only [Option.some.injEq] at h
      subst h
      exact .inr ⟨d, rfl, h1, h2, fun _ _ => rfl⟩

theorem FrRel.put {ρ : Ren} {nt : Nat} {tm : Tm} {a : Act} (h : FrRel ρ nt tm a) {dst : Option Tmp} {x : Dst} (hd : dstOf nt dst = some x)
    {v : CV} {V : Value} (hv : real ρ v = some V) : FrRel ρ nt (putD x v tm) (a.put dst V) := by
  rcases dstOf_some hd with ⟨rfl, hp⟩ | ⟨d, rfl, h1, h2, hp⟩
  · rw [hp]; exact h
  · rw [hp]
    refine ⟨by simpa [Act.put] using h.size, fun t u ht e => ?_⟩
    by_cases htd : d = t
    · subst htd
      rw [getT_setT_eq _ _ _ h2] at e
      cases e
      refine ⟨V, hv, ?_⟩
      simp only [Act.put]
      rw [Array.getElem?_setIfInBounds_self_of_lt (by have := h.size; omega)]
    · have htd' : ¬ (d : Nat) = t := htd
      rw [getT_setT_ne _ _ _ _ h2 ht htd'] at e
      obtain ⟨U, hU, hU'⟩ := h.val t u ht e
      refine ⟨U, hU, ?_⟩
      simp only [Act.put]
      rw [Array.getElem?_setIfInBounds_ne htd]
      exact hU'

theorem put_defers (a : Act) (dst : Option Tmp) (V : Value) : (a.put dst V).defers = a.defers := by cases dst <;> rfl

/-! ### Constants -/

theorem strReal_toNat (s : ByteArray) : strReal (s.data.toList.map UInt8.toNat) = s := by
  unfold strReal
  rw [List.map_map]
  have : (UInt8.ofNat ∘ UInt8.toNat) = id := by funext x; simp
  rw [this, List.map_id]

theorem real_mapM {ρ : Ren} {f : Value → Option CV} (hf : ∀ v c, f v = some c → real ρ c = some v) : ∀ (l : List Value) (L : List CV), l.mapM f = some L → reals ρ L = some l
  | [], L, h => by simp at h; subst h; rfl
  | v :: l, L, h => by
    rw [List.mapM_cons] at h
    simp only [Option.pure_def, Option.bind_eq_bind, Option.bind_eq_some_iff, Option.some.injEq] at h
    obtain ⟨c, hc, C, hC, rfl⟩ := h
    exact reals_cons (hf _ _ hc) (real_mapM hf l C hC)

theorem ofV_real {ρ : Ren} : ∀ (n : Nat) (v : Value) (c : CV), ofV n v = some c → real ρ c = some v
  | 0, v, c, h => by simp [ofV] at h
  | n + 1, v, c, h => by
    unfold ofV at h
    split at h
    · cases h; rfl
    · cases h; rfl
    · cases h; simp [real, strReal_toNat]
    · cases h; rfl
    · cases h; rfl
    · cases h; rfl
    · cases h; rfl
    · cases h; rfl
    · rename_i f fi ca
      split at h
      · rename_i he
        cases h
        simp only [Bool.and_eq_true, Array.isEmpty_iff] at he
        obtain ⟨h1, h2⟩ := he
        subst h1; subst h2
        simp [real, reals]
      · cases h
    · rename_i cs
      simp only [Option.map_eq_some_iff] at h
      obtain ⟨L, hL, rfl⟩ := h
      have := real_mapM (ρ := ρ) (fun v c => ofV_real n v c) _ _ hL
      simp [real, this]
    · rename_i cs
      simp only [Option.map_eq_some_iff] at h
      obtain ⟨L, hL, rfl⟩ := h
      have := real_mapM (ρ := ρ) (fun v c => ofV_real n v c) _ _ hL
      simp [real, this]
    · cases h

/-! ### Operands -/

/-- The program's variables lie where they lie. -/
def Glob (P : Program) (ρ : Ren) : Prop := ∀ g, g < P.globals.size → ρ.b g = some (g, 0)

theorem Glob.mono {P : Program} {ρ ρ' : Ren} (h : Glob P ρ) (hl : ρ.Le ρ') : Glob P ρ' := fun g hg => hl.b _ _ (h g hg)

theorem opd_real {P : Program} {ρ : Ren} {nt : Nat} {tm : Tm} {a : Act} (h : FrRel ρ nt tm a) (hg : Glob P ρ) (x : Operand) (v : CV)
    (e : (opd P x).eval tm = some v) : real ρ v = some (a.eval x) := by
  cases x with
  | tmp t =>
    simp only [opd, tmpO_eval] at e
    split at e
    · rename_i ht
      obtain ⟨V, h1, h2⟩ := h.val t v ht e
      simp [Act.eval, h1, h2]
    · cases e
  | const c =>
    simp only [opd] at e
    split at e
    · rename_i c' hc
      have : v = c' := by simpa [Opd.eval] using e.symm
      subst this
      simpa [Act.eval] using ofV_real _ _ _ hc
    · simp [Opd.eval] at e
  | global g =>
    simp only [opd] at e
    cases hb : Nat.blt g P.globals.size with
    | false => rw [hb] at e; simp [Opd.eval] at e
    | true =>
      rw [hb] at e
      have : v = .ptr g 0 := by simpa [Opd.eval] using e.symm
      subst this
      simp [real, hg g (blt_of hb), Act.eval]
  | func f =>
    have : v = .func f [] [] := by simpa [opd, Opd.eval] using e.symm
    subst this
    simp [real, reals, Act.eval]

theorem evalL_cons (x : Opd) (l : List Opd) (tm : Tm) : evalL (x :: l) tm = (x.eval tm).bind fun v => (evalL l tm).bind fun vs => some (v :: vs) := by
  have h : evalL (x :: l) tm = Option.rec (motive := fun _ => Option (List CV)) none (fun v => Option.rec (motive := fun _ => Option (List CV)) none (fun vs => some (v :: vs)) (evalL l tm)) (x.eval tm) := rfl
  rw [h]
  cases x.eval tm with
  | none => rfl
  | some v => cases evalL l tm <;> rfl

theorem opds_real {P : Program} {ρ : Ren} {nt : Nat} {tm : Tm} {a : Act} (h : FrRel ρ nt tm a) (hg : Glob P ρ) : ∀ (xs : List Operand) (vs : List CV),
    evalL (opds P xs) tm = some vs → reals ρ vs = some (xs.map a.eval)
  | [], vs, e => by
    have : vs = [] := by simpa [opds, evalL] using e.symm
    subst this; rfl
  | x :: xs, vs, e => by
    rw [opds, evalL_cons] at e
    simp only [Option.bind_eq_some_iff, Option.some.injEq] at e
    obtain ⟨v, hv, us, hus, rfl⟩ := e
    exact reals_cons (opd_real h hg x v hv) (opds_real h hg xs us hus)

/-! ### Types -/

theorem tyOf_some {P : Program} {t : TypeId} {i : TyE} (h : tyOf P t = some i) :
    ∃ info, P.info? t = some info ∧ P.underlying t = some i.desc ∧ info.size = i.size ∧ info.bytes = i.bytes ∧ info.zero = i.zero := by
  unfold tyOf at h
  split at h
  · cases h
  · rename_i info hi
    split at h
    · cases h
    · rename_i d hd
      cases h
      exact ⟨info, hi, hd, rfl, rfl, rfl⟩

section
variable {P : Program} {t : TypeId} {i : TyE} (h : tyOf P t = some i) (w : World)
include h
theorem run_typeInfo' : ∃ info, (typeInfo t).run P w = .ok info w ∧ info.size = i.size ∧ info.bytes = i.bytes ∧ info.zero = i.zero := by
  obtain ⟨info, h1, h2, h3⟩ := tyOf_some h
  exact ⟨info, by simp [typeInfo, h1], h3⟩
theorem run_underlying' : (underlying t).run P w = .ok i.desc w := by
  obtain ⟨info, h1, h2, h3⟩ := tyOf_some h
  simp [underlying, h2]
theorem run_sizeOf' : (sizeOf t).run P w = .ok i.size w := by
  obtain ⟨info, h1, h2, h3⟩ := run_typeInfo' h w
  simp [sizeOf, h1, h2]
theorem run_isAgg' : (isAgg t).run P w = .ok (isAggD i.desc) w := by
  simp only [isAgg, Sem.run_bind, run_underlying' h w, Result.andThen_ok]
  cases i.desc <;> rfl
end

theorem zeroOf_real {P : Program} {t : TypeId} {z : CV} (h : zeroOf P t = some z) {ρ : Ren} (w : World) :
    ∃ Z, (zeroValue t).run P w = .ok Z w ∧ real ρ z = some Z := by
  unfold zeroOf at h
  split at h
  · cases h
  · rename_i i hi
    split at h
    · cases h
    · rename_i v hv
      obtain ⟨info, h1, h2, h3, h4⟩ := run_typeInfo' hi w
      rw [hv] at h4
      exact ⟨v, by simp [zeroValue, h1, h4], ofV_real _ _ _ h⟩

end Go.Ev

namespace Go.Ev

/-- An operation that looks at no memory yields what the evaluator says. -/
def PureOK (P : Program) (o : Oper) (f : Tm → Option CV) : Prop :=
  ∀ (ρ : Ren) (nt : Nat) (tm : Tm) (a : Act) (v : CV), FrRel ρ nt tm a → Glob P ρ → f tm = some v →
    ∃ V, real ρ v = some V ∧ ∀ w, (execOp a.eval o).run P w = .ok (.value V) w

theorem eval1_some {x : Opd} {f : CV → Option CV} {tm : Tm} {v : CV} (h : eval1 x f tm = some v) : ∃ u, x.eval tm = some u ∧ f u = some v := by
  unfold eval1 at h
  cases e : x.eval tm with
  | none => rw [e] at h; cases h
  | some u => rw [e] at h; exact ⟨u, rfl, h⟩

theorem eval2_some {x y : Opd} {f : CV → CV → Option CV} {tm : Tm} {v : CV} (h : eval2 x y f tm = some v) :
    ∃ u t, x.eval tm = some u ∧ y.eval tm = some t ∧ f u t = some v := by
  unfold eval2 at h
  cases e : x.eval tm with
  | none => rw [e] at h; cases h
  | some u =>
    rw [e] at h
    cases e' : y.eval tm with
    | none => rw [e'] at h; cases h
    | some t => rw [e'] at h; exact ⟨u, t, rfl, rfl, h⟩

section
variable {P : Program} {o : Oper}

theorem pure_move {x : Operand} (ho : o.op = .move x) : PureOK P o (opd P x).eval := by
  intro ρ nt tm a v hf hg h
  exact ⟨_, opd_real hf hg x v h, fun w => by simp [execOp, ho]⟩

theorem pure_assign {x : Operand} (ho : o.op = .assign x) : PureOK P o (opd P x).eval := by
  intro ρ nt tm a v hf hg h
  exact ⟨_, opd_real hf hg x v h, fun w => by simp [execOp, ho]⟩

theorem pure_pick {c x y : Operand} (ho : o.op = .pick c x y) : PureOK P o (pickC (opd P c) (opd P x) (opd P y)) := by
  intro ρ nt tm a v hf hg h
  unfold pickC at h
  split at h
  · rename_i t ht
    have hc := opd_real hf hg c _ ht
    simp only [real, Option.some.injEq] at hc
    cases t with
    | true =>
      rw [cond_true] at h
      exact ⟨_, opd_real hf hg x v h, fun w => by simp [execOp, ho, asBool, ← hc]⟩
    | false =>
      rw [cond_false] at h
      exact ⟨_, opd_real hf hg y v h, fun w => by simp [execOp, ho, asBool, ← hc]⟩
  · cases h

theorem pure_nilCheck {x : Operand} (ho : o.op = .nilCheck x) : PureOK P o (eval1 (opd P x) nilCheckC) := by
  intro ρ nt tm a v hf hg h
  obtain ⟨u, hu, h⟩ := eval1_some h
  have hx := opd_real hf hg x u hu
  cases u <;> simp only [nilCheckC, Option.some.injEq, reduceCtorEq] at h <;> subst h
  · simp only [real, Option.map_eq_some_iff] at hx
    obtain ⟨y, hy, e⟩ := hx
    refine ⟨_, by simp only [real, hy, Option.map_some]; rfl, fun w => ?_⟩
    simp [execOp, ho, ← e]
  · simp only [real, Option.bind_eq_some_iff, Option.map_eq_some_iff] at hx
    obtain ⟨y, hy, z, hz, e⟩ := hx
    refine ⟨_, by simp only [real, hy, hz, Option.bind_some, Option.map_some]; rfl, fun w => ?_⟩
    simp [execOp, ho, ← e]

theorem pure_not {t : TypeId} {x : Operand} (ho : o.op = .unOp .not t x) : PureOK P o (eval1 (opd P x) notC) := by
  intro ρ nt tm a v hf hg h
  obtain ⟨u, hu, h⟩ := eval1_some h
  have hx := opd_real hf hg x u hu
  cases u <;> simp only [notC, Option.some.injEq, reduceCtorEq] at h <;> subst h
  simp only [real, Option.some.injEq] at hx
  exact ⟨_, rfl, fun w => by simp [execOp, ho, ← hx, Op.unary]⟩

theorem wrap_signed (b : Nat) (n : Int) (h1 : -(2 ^ b : Int) ≤ n) (h2 : n < 2 ^ b) :
    (if (true && decide (n % (2 ^ (b + 1) : Int) ≥ (2 ^ b : Int))) = true then n % (2 ^ (b + 1) : Int) - (2 ^ (b + 1) : Int) else n % (2 ^ (b + 1) : Int)) = n := by
  have hp : (2 : Int) ^ (b + 1) = 2 * 2 ^ b := by rw [Int.pow_succ]; omega
  rw [hp]
  generalize (2 : Int) ^ b = q at *
  by_cases h0 : 0 ≤ n
  · rw [Int.emod_eq_of_lt h0 (by omega)]
    simp
    omega
  · have : n % (2 * q) = n + 2 * q := by
      rw [← Int.add_emod_right, Int.emod_eq_of_lt (by omega) (by omega)]
    rw [this]
    simp
    omega

theorem wrap_unsigned (b : Nat) (n : Int) (h1 : 0 ≤ n) (h2 : n < 2 ^ b) :
    (if (false && decide (n % (2 ^ b : Int) ≥ (2 ^ (b - 1) : Int))) = true then n % (2 ^ b : Int) - (2 ^ b : Int) else n % (2 ^ b : Int)) = n := by
  simp only [Bool.false_and, Bool.false_eq_true, if_false]
  exact Int.emod_eq_of_lt h1 h2

theorem fits_pow (k : IntKind) : ((fits k : Nat) : Int) = 2 ^ (if k.signed then k.bits - 1 else k.bits) := by cases k <;> rfl

theorem wrap_fits (k : IntKind) (n : Int) (h1 : (if k.signed then -((fits k : Nat) : Int) else 0) ≤ n) (h2 : n < (fits k : Nat)) : k.wrap n = n := by
  unfold IntKind.wrap
  have hf := fits_pow k
  cases k <;> simp only [IntKind.signed, if_true, Bool.false_eq_true, if_false, IntKind.bits] at hf h1 h2 ⊢ <;> rw [hf] at h2 <;> (try rw [hf] at h1)
  · exact wrap_signed 7 n h1 h2
  · exact wrap_signed 15 n h1 h2
  · exact wrap_signed 31 n h1 h2
  · exact wrap_signed 63 n h1 h2
  · exact wrap_unsigned 8 n h1 h2
  · exact wrap_unsigned 16 n h1 h2
  · exact wrap_unsigned 32 n h1 h2
  · exact wrap_unsigned 64 n h1 h2

theorem wr_eq (k : IntKind) (n : Int) : wr k n = k.wrap n := by
  unfold wr
  cases n with
  | ofNat m =>
    simp only
    cases h : Nat.blt m (fits k) with
    | false => rfl
    | true =>
      have h := blt_of h
      rw [cond_true, wrap_fits]
      · split <;> simp <;> omega
      · simpa using h
  | negSucc m =>
    simp only
    cases h : (k.signed && Nat.blt m (fits k)) with
    | false => rfl
    | true =>
      simp only [Bool.and_eq_true] at h
      obtain ⟨h1, h2⟩ := h
      have h2 := blt_of h2
      rw [cond_true, wrap_fits]
      · rw [h1]; simp; omega
      · omega

theorem pure_neg {t : TypeId} {x : Operand} (ho : o.op = .unOp .neg t x) : PureOK P o (eval1 (opd P x) negC) := by
  intro ρ nt tm a v hf hg h
  obtain ⟨u, hu, h⟩ := eval1_some h
  have hx := opd_real hf hg x u hu
  cases u <;> simp only [negC, Option.some.injEq, reduceCtorEq] at h <;> subst h
  simp only [real, Option.some.injEq] at hx
  exact ⟨_, rfl, fun w => by rw [wr_eq]; simp [execOp, ho, ← hx, Op.unary, Op.intArith]; rw [show Int.sub 0 _ = - _ from Int.zero_sub _]⟩

theorem pure_mkIface {t : TypeId} {x : Operand} {i : TyE} (ht : tyOf P t = some i) (hi : ∀ ms, i.desc ≠ .interface ms) (ho : o.op = .makeInterface t x) :
    PureOK P o (eval1 (opd P x) (mkIface t)) := by
  intro ρ nt tm a v hf hg h
  obtain ⟨u, hu, h⟩ := eval1_some h
  have hx := opd_real hf hg x u hu
  simp only [mkIface, Option.some.injEq] at h
  subst h
  refine ⟨.iface t (a.eval x), by simp [real, hx], fun w => ?_⟩
  have := run_underlying' ht w
  simp only [execOp, ho, Instr.makeInterface, Sem.run_bind, this, Result.andThen_ok]
  cases hd : i.desc <;> simp_all

theorem pure_mkFunc {f : FuncId} {fi ca : Array Operand} (ho : o.op = .makeFunc (.func f) fi ca) : PureOK P o (mkFunc f (opds P fi.toList) (opds P ca.toList)) := by
  intro ρ nt tm a v hf hg h
  unfold mkFunc at h
  split at h
  · rename_i x y hx hy
    cases h
    have h1 := opds_real hf hg _ _ hx
    have h2 := opds_real hf hg _ _ hy
    refine ⟨.func (.func f) (fi.map a.eval) (ca.map a.eval), ?_, fun w => by simp [execOp, ho, Instr.makeFunc]⟩
    simp only [real, h1, h2, Option.bind_some, Option.map_some, Option.some.injEq, Value.func.injEq, true_and]
    constructor <;> (apply Array.ext'; simp)
  · cases h

theorem pure_extract {t : Operand} {i : Nat} (ho : o.op = .extract t i) : PureOK P o (eval1 (opd P t) (extractC i)) := by
  intro ρ nt tm a v hf hg h
  obtain ⟨u, hu, h⟩ := eval1_some h
  have hx := opd_real hf hg t u hu
  cases u <;> simp only [extractC, reduceCtorEq] at h
  simp only [real, Option.map_eq_some_iff] at hx
  obtain ⟨L, hL, e⟩ := hx
  obtain ⟨V, hV, hV'⟩ := reals_get hL i v h
  exact ⟨V, hV, fun w => by simp [execOp, ho, Instr.extract, ← e, hV']⟩

theorem pure_convInt {s t : TypeId} {x : Operand} {i j : TyE} {k k' : IntKind} (hs : tyOf P s = some i) (ht : tyOf P t = some j) (hi : i.desc = .int k') (hj : j.desc = .int k)
    (ho : o.op = .convert s t x) : PureOK P o (eval1 (opd P x) (convInt k)) := by
  intro ρ nt tm a v hf hg h
  obtain ⟨u, hu, h⟩ := eval1_some h
  have hx := opd_real hf hg x u hu
  cases u <;> simp only [convInt, Option.some.injEq, reduceCtorEq] at h <;> subst h
  simp only [real, Option.some.injEq] at hx
  refine ⟨_, rfl, fun w => ?_⟩
  have h1 := run_underlying' hs w
  have h2 := run_underlying' ht w
  rw [hi] at h1
  rw [hj] at h2
  simp [execOp, ho, convert, h1, h2, ← hx, Conv.intToInt, wr_eq]

theorem pure_convStr {s t : TypeId} {x : Operand} {i j : TyE} (hs : tyOf P s = some i) (ht : tyOf P t = some j) (hi : i.desc = .string) (hj : j.desc = .string)
    (ho : o.op = .convert s t x) : PureOK P o (eval1 (opd P x) convStr) := by
  intro ρ nt tm a v hf hg h
  obtain ⟨u, hu, h⟩ := eval1_some h
  have hx := opd_real hf hg x u hu
  cases u <;> simp only [convStr, Option.some.injEq, reduceCtorEq] at h <;> subst h
  simp only [real, Option.some.injEq] at hx
  refine ⟨_, rfl, fun w => ?_⟩
  have h1 := run_underlying' hs w
  have h2 := run_underlying' ht w
  rw [hi] at h1
  rw [hj] at h2
  simp [execOp, ho, convert, h1, h2, ← hx]

/-! Parts of aggregates. -/

theorem reals_drop {ρ : Ren} : ∀ {l : List CV} {L : List Value} (n : Nat), reals ρ l = some L → reals ρ (l.drop n) = some (L.drop n)
  | l, L, 0, e => by simpa using e
  | [], L, n + 1, e => by simp [reals] at e; subst e; rfl
  | v :: l, L, n + 1, e => by
    simp only [reals, Option.bind_eq_some_iff, Option.map_eq_some_iff] at e
    obtain ⟨x, hx, y, hy, rfl⟩ := e
    simpa using reals_drop n hy

theorem reals_take {ρ : Ren} : ∀ {l : List CV} {L : List Value} (n : Nat), reals ρ l = some L → reals ρ (l.take n) = some (L.take n)
  | l, L, 0, e => by simp [reals]
  | [], L, n + 1, e => by simp [reals] at e; subst e; rfl
  | v :: l, L, n + 1, e => by
    simp only [reals, Option.bind_eq_some_iff, Option.map_eq_some_iff] at e
    obtain ⟨x, hx, y, hy, rfl⟩ := e
    simpa using reals_cons hx (reals_take n hy)

theorem run_part {ρ : Ren} {t : TypeId} {i : TyE} (ht : tyOf P t = some i) {cs : List CV} {L : List Value} (hL : reals ρ cs = some L) {off : Nat} {v : CV}
    (h : partC i.size (isAggD i.desc) cs off = some v) : ∃ V, real ρ v = some V ∧ ∀ w, (part t L.toArray off).run P w = .ok V w := by
  unfold partC at h
  cases hb : isAggD i.desc with
  | true =>
    rw [hb, cond_true] at h
    cases h
    refine ⟨.agg ((L.drop off).take i.size).toArray, by simp [real, reals_take _ (reals_drop _ hL)], fun w => ?_⟩
    simp only [part, Sem.run_bind, run_isAgg' ht w, hb, Result.andThen_ok, if_true, run_sizeOf' ht w, Sem.run_pure]
    congr 2
    apply Array.ext'
    simp [List.take_drop]
  | false =>
    rw [hb, cond_false] at h
    obtain ⟨V, hV, hV'⟩ := reals_get hL off v h
    refine ⟨V, hV, fun w => ?_⟩
    simp [part, run_isAgg' ht w, hb, hV']

theorem pure_field {t : TypeId} {x : Operand} {f : Nat} {i : TyE} {fields : Array Field} {fd : Field} {fi : TyE} (ht : tyOf P t = some i) (hi : i.desc = .struct fields)
    (hfd : fields[f]? = some fd) (hfi : tyOf P fd.type = some fi) (ho : o.op = .field t x f) : PureOK P o (eval1 (opd P x) (fieldC fi.size (isAggD fi.desc) fd.offset)) := by
  intro ρ nt tm a v hf hg h
  obtain ⟨u, hu, h⟩ := eval1_some h
  have hx := opd_real hf hg x u hu
  cases u <;> simp only [fieldC, reduceCtorEq] at h
  simp only [real, Option.map_eq_some_iff] at hx
  obtain ⟨L, hL, e⟩ := hx
  obtain ⟨V, hV, hV'⟩ := run_part hfi hL h
  refine ⟨V, hV, fun w => ?_⟩
  have h1 := run_underlying' ht w
  rw [hi] at h1
  simp [execOp, ho, Instr.field, h1, hfd, ← e, asAgg, hV']

theorem pure_fieldAddr {t : TypeId} {x : Operand} {f : Nat} {i : TyE} {fields : Array Field} {fd : Field} {fi : TyE} (ht : tyOf P t = some i) (hi : i.desc = .struct fields)
    (hfd : fields[f]? = some fd) (hfi : tyOf P fd.type = some fi) (hz : fi.size ≠ 0) (ho : o.op = .fieldAddr t x f) : PureOK P o (eval1 (opd P x) (fieldAddrC fd.offset)) := by
  intro ρ nt tm a v hf hg h
  obtain ⟨u, hu, h⟩ := eval1_some h
  have hx := opd_real hf hg x u hu
  cases u <;> simp only [fieldAddrC, Option.some.injEq, reduceCtorEq] at h
  subst h
  simp only [real, Option.map_eq_some_iff] at hx
  obtain ⟨y, hy, e⟩ := hx
  rename_i b off
  refine ⟨.pointer (some ⟨y.1, off + fd.offset + y.2, none⟩), by simp [real, hy], fun w => ?_⟩
  have h1 := run_underlying' ht w
  rw [hi] at h1
  have h2 := run_sizeOf' hfi w
  simp [execOp, ho, Instr.fieldAt, h1, hfd, ← e, Instr.sureAddr, fieldPlace, h2, hz, Addr.add]
  split <;> simp_all
  omega

end
end Go.Ev

namespace Go.Ev

theorem asNat_some {v : CV} {n : Nat} (h : asNat v = some n) : ∃ k, v = .int k (.ofNat n) := by
  unfold asNat at h
  split at h
  · cases h; exact ⟨_, rfl⟩
  · cases h

/-- A bound: a number, or none. -/
def Bnd (a : Act) (x : Option Operand) (r : Option Nat) : Prop :=
  match x, r with
  | none, none => True
  | some x, some n => ∃ k, a.eval x = .int k (.ofNat n)
  | _, _ => False

section
variable {P : Program} {o : Oper}

theorem optNat_some {ρ : Ren} {nt : Nat} {tm : Tm} {a : Act} (hf : FrRel ρ nt tm a) (hg : Glob P ρ) {x : Option Operand} {r : Option Nat}
    (h : optNat (x.map (opd P)) tm = some r) : Bnd a x r := by
  cases x with
  | none => simp [optNat] at h; subst h; trivial
  | some x =>
    simp only [optNat, Option.map_some] at h
    split at h
    · rename_i v hv
      split at h
      · rename_i n hn
        cases h
        obtain ⟨k, rfl⟩ := asNat_some hn
        have := opd_real hf hg x _ hv
        simp only [real, Option.some.injEq] at this
        exact ⟨k, this.symm⟩
      · cases h
    · cases h

theorem run_sliceBound (k : IntKind) (n y : Nat) (code : BoundsCode) (h : n ≤ y) (w : World) :
    (Instr.sliceBound (.int k (.ofNat n)) y code).run P w = .ok n w := by
  simp [Instr.sliceBound, asIntOf, h]

theorem run_sliceBounds {a : Act} (isSlice : Bool) (len cap : Nat) {lo hi mx : Option Operand} {l h m : Option Nat} (hl : Bnd a lo l) (hh : Bnd a hi h) (hm : Bnd a mx m)
    (h1 : l.getD 0 ≤ h.getD len) (h2 : h.isSome = true → h.getD len ≤ m.getD cap) (h3 : m.isSome = true → h.isSome = true ∧ m.getD cap ≤ cap) (w : World) :
    (Instr.sliceBounds isSlice len cap (lo.map a.eval) (hi.map a.eval) (mx.map a.eval)).run P w = .ok (l.getD 0, h.getD len, m.getD cap) w := by
  unfold Instr.sliceBounds
  cases lo <;> cases l <;> simp only [Bnd] at hl <;> cases hi <;> cases h <;> simp only [Bnd] at hh <;> cases mx <;> cases m <;> simp only [Bnd] at hm
  all_goals simp only [Option.getD_some, Option.getD_none, Option.isSome_some, Option.isSome_none, Bool.false_eq_true, forall_const, false_implies, false_and, imp_false] at h1 h2 h3
  all_goals (try (obtain ⟨k1, e1⟩ := hl)) <;> (try (obtain ⟨k2, e2⟩ := hh)) <;> (try (obtain ⟨k3, e3⟩ := hm))
  all_goals simp only [Option.map_some, Option.map_none, Sem.run_bind, Sem.run_pure, Result.andThen_ok, Option.getD_some, Option.getD_none, Option.isSome_some, Option.isSome_none]
  all_goals (try rw [e3]) <;> (try rw [e2]) <;> (try rw [e1])
  all_goals (try rw [run_sliceBound _ _ _ _ (by omega)]) <;> simp only [Result.andThen_ok]
  all_goals (try rw [run_sliceBound _ _ _ _ (by omega)]) <;> (try simp only [Result.andThen_ok])
  all_goals (try rw [run_sliceBound _ _ _ _ (by omega)]) <;> (try simp only [Result.andThen_ok])

theorem sliceC_some {k : SlK} {x : Operand} {lo hi mx : Option Operand} {ρ : Ren} {nt : Nat} {tm : Tm} {a : Act} (hf : FrRel ρ nt tm a) (hg : Glob P ρ) {v : CV}
    (h : sliceC k (opd P x) (lo.map (opd P)) (hi.map (opd P)) (mx.map (opd P)) tm = some v) :
    ∃ u l h' m, real ρ u = some (a.eval x) ∧ Bnd a lo l ∧ Bnd a hi h' ∧ Bnd a mx m ∧ sliceV k u l h' m = some v := by
  unfold sliceC at h
  split at h
  · rename_i u l h' m h1 h2 h3 h4
    exact ⟨u, l, h', m, opd_real hf hg x _ h1, optNat_some hf hg h2, optNat_some hf hg h3, optNat_some hf hg h4, h⟩
  · cases h

theorem bnd_mx_none {a : Act} {x : Option Operand} (h : Bnd a x none) : x = none := by cases x <;> simp_all [Bnd]
theorem bnd_hi_none {a : Act} {x : Operand} (h : Bnd a (some x) none) : False := h

theorem strReal_size (s : List Nat) : (strReal s).size = s.length := by simp [strReal, ByteArray.size]

theorem strReal_slice (s : List Nat) (l h : Nat) : strReal ((s.drop l).take (h - l)) = (strReal s).extract l h := by
  apply ByteArray.ext
  rw [ByteArray.data_extract]
  apply Array.ext'
  simp [strReal, List.map_take, List.map_drop, List.take_drop]
  

theorem pure_sliceStr {t : TypeId} {x : Operand} {lo hi mx : Option Operand} {i : TyE} (ht : tyOf P t = some i) (hi' : i.desc = .string) (ho : o.op = .slice t x lo hi mx) :
    PureOK P o (sliceC .str (opd P x) (lo.map (opd P)) (hi.map (opd P)) (mx.map (opd P))) := by
  intro ρ nt tm a v hf hg h
  obtain ⟨u, l, h', m, hu, b1, b2, b3, hs⟩ := sliceC_some hf hg h
  clear h
  cases u <;> simp only [sliceV, reduceCtorEq] at hs
  rename_i s
  cases m with
  | some m => cases hs
  | none =>
    simp only at hs
    have hmx := bnd_mx_none b3
    subst hmx
    unfold sliceStr at hs
    cases hc : (Nat.ble (l.getD 0) (h'.getD s.length) && Nat.ble (h'.getD s.length) s.length) with
    | false => rw [hc] at hs; cases hs
    | true =>
      rw [hc, cond_true] at hs
      cases hs
      simp only [Bool.and_eq_true] at hc
      have h1 := ble_of hc.1
      have h2 := ble_of hc.2
      simp only [real, Option.some.injEq] at hu
      refine ⟨_, rfl, fun w => ?_⟩
      have hun := run_underlying' ht w
      rw [hi'] at hun
      have hb := run_sliceBounds (P := P) (w := w) false s.length s.length b1 b2 b3 h1 (fun _ => h2) (fun h => by simp at h)
      simp only [Option.map_none] at hb
      simp [execOp, ho, Instr.sliceAt, hun, Instr.slice, ← hu, strReal_size, hb, strReal_slice]

theorem cap_real {ρ : Ren} {c : Cap} {n l : Nat} (hc : ρ.cap c = some n) (h : capLe l c = true) : l ≤ n := by
  cases c with
  | ex m => simp only [Ren.cap, Option.some.injEq] at hc; subst hc; exact ble_of h
  | sy i base =>
    simp only [Ren.cap, Option.map_eq_some_iff] at hc
    obtain ⟨x, hx, rfl⟩ := hc
    have := ble_of h
    omega

theorem add_addr (B off n : Nat) : (⟨B, off, none⟩ : Addr).add n = ⟨B, off + n, none⟩ := by
  unfold Addr.add; split <;> simp_all

/-- s[lo:hi:mx] over a row. -/
theorem slice_row {ρ : Ren} {size b off len : Nat} {c : Cap} {l h' m : Option Nat} {v : CV} (h : sliceSl size b off len c (l.getD 0) h' m = some v)
    {B D n : Nat} (hb : ρ.b b = some (B, D)) (hc : ρ.cap c = some n) :
    l.getD 0 ≤ h'.getD len ∧ (h'.isSome = true → h'.getD len ≤ m.getD n) ∧ (m.isSome = true → h'.isSome = true ∧ m.getD n ≤ n) ∧
    real ρ v = some (.slice (some (if m.getD n = l.getD 0 then ⟨B, off + D, none⟩ else ⟨B, off + D + l.getD 0 * size, none⟩)) (h'.getD len - l.getD 0) (m.getD n - l.getD 0)) := by
  unfold sliceSl at h
  cases h1 : Nat.ble (l.getD 0) (h'.getD len) with
  | false => rw [h1] at h; cases h
  | true =>
    rw [h1, cond_true] at h
    have h1 := ble_of h1
    cases m with
    | none =>
      simp only at h
      cases h2 : capLe (h'.getD len) c with
      | false => rw [h2] at h; cases h
      | true =>
        rw [h2, cond_true] at h
        have h2' := cap_real hc h2
        cases h3 : capSub c (l.getD 0) with
        | none =>
          rw [h3] at h
          cases c with
          | ex q => cases h
          | sy id base =>
            simp only [tailSl] at h
            cases h4 : Nat.beq (l.getD 0) base with
            | false => rw [h4] at h; cases h
            | true =>
              rw [h4, cond_true] at h
              cases h
              have h4 := beq_of h4
              have h5 : h'.getD len ≤ base := ble_of h2
              simp only [Ren.cap, Option.map_eq_some_iff] at hc
              obtain ⟨x, hx, rfl⟩ := hc
              refine ⟨h1, fun _ => by simpa using h2', fun h => by simp at h, ?_⟩
              simp only [Option.getD_none, real, hb, Option.bind_some, hx, Option.map_some, Option.some.injEq, Value.slice.injEq]
              refine ⟨?_, by omega, by omega⟩
              by_cases h0 : x = 0
              · rw [if_pos h0, if_pos (by omega), Nat.add_zero]
              · rw [if_neg h0, if_neg (by omega)]
        | some c' =>
          rw [h3] at h
          cases h
          refine ⟨h1, fun _ => by simpa using h2', fun h => by simp at h, ?_⟩
          simp only [Option.getD_none]
          cases c with
          | ex q =>
            simp only [Ren.cap, Option.some.injEq] at hc
            subst hc
            simp only [capSub] at h3
            cases h4 : Nat.ble (l.getD 0) q with
            | false => rw [h4] at h3; cases h3
            | true =>
              rw [h4, cond_true] at h3
              cases h3
              simp only [real, hb, Option.bind_some, Ren.cap, Option.map_some, capIs, Option.some.injEq, Value.slice.injEq, true_and, and_true]
              by_cases hq : q = l.getD 0
              · rw [beq_yes hq, if_pos hq, cond_true]
              · rw [beq_no hq, if_neg hq, cond_false]
                congr 1
                omega
          | sy id base =>
            simp only [Ren.cap, Option.map_eq_some_iff] at hc
            obtain ⟨x, hx, rfl⟩ := hc
            simp only [capSub] at h3
            cases h4 : Nat.blt (l.getD 0) base with
            | false => rw [h4] at h3; cases h3
            | true =>
              rw [h4, cond_true] at h3
              cases h3
              have h4 := blt_of h4
              rw [if_neg (by omega)]
              simp only [real, hb, Option.bind_some, Ren.cap, hx, Option.map_some, capIs, cond_false, Option.some.injEq, Value.slice.injEq, true_and]
              constructor
              · congr 1; omega
              · omega
    | some m =>
      simp only at h
      cases h2 : (h'.isSome && Nat.ble (h'.getD len) m && capLe m c) with
      | false => rw [h2] at h; cases h
      | true =>
        rw [h2, cond_true] at h
        cases h
        simp only [Bool.and_eq_true] at h2
        obtain ⟨⟨h3, h4⟩, h5⟩ := h2
        have h4 := ble_of h4
        have h5 := cap_real hc h5
        refine ⟨h1, fun _ => by simpa using h4, fun _ => ⟨h3, by simpa using h5⟩, ?_⟩
        simp only [Option.getD_some, real, hb, Option.bind_some, Ren.cap, Option.map_some, Option.some.injEq, Value.slice.injEq, true_and, and_true]
        by_cases hq : m = l.getD 0
        · rw [beq_yes hq, if_pos hq, cond_true]
        · rw [beq_no hq, if_neg hq, cond_false]
          congr 1
          omega

theorem pure_sliceSl {t : TypeId} {x : Operand} {lo hi mx : Option Operand} {i : TyE} {e : TypeId} {ei : TyE} (ht : tyOf P t = some i) (hi' : i.desc = .slice e) (he : tyOf P e = some ei)
    (ho : o.op = .slice t x lo hi mx) : PureOK P o (sliceC (.sl ei.size) (opd P x) (lo.map (opd P)) (hi.map (opd P)) (mx.map (opd P))) := by
  intro ρ nt tm a v hf hg h
  obtain ⟨u, l, h', m, hu, b1, b2, b3, h⟩ := sliceC_some hf hg h
  cases u <;> simp only [sliceV, reduceCtorEq] at h
  · -- nil
    cases hc : (isZero l && isZero h' && isZero m && mxOk h' m) with
    | false => rw [hc] at h; cases h
    | true =>
      rw [hc, cond_true] at h
      cases h
      simp only [Bool.and_eq_true] at hc
      obtain ⟨⟨⟨z1, z2⟩, z3⟩, z4⟩ := hc
      simp only [real, Option.some.injEq] at hu
      refine ⟨_, rfl, fun w => ?_⟩
      have hun := run_underlying' ht w
      rw [hi'] at hun
      have hsz := run_sizeOf' he w
      have e1 : l.getD 0 = 0 := by cases l <;> simp_all [isZero]
      have e2 : h'.getD 0 = 0 := by cases h' <;> simp_all [isZero]
      have e3 : m.getD 0 = 0 := by cases m <;> simp_all [isZero]
      have hb := run_sliceBounds (P := P) (w := w) true 0 0 b1 b2 b3 (by omega) (fun _ => by omega) (fun hm' => ⟨by cases h' <;> cases m <;> simp_all [mxOk], by omega⟩)
      rw [e1, e2, e3] at hb
      simp [execOp, ho, Instr.sliceAt, hun, Instr.slice, ← hu, hb, hsz]
  · rename_i b off len c
    simp only [real, Option.bind_eq_some_iff, Option.map_eq_some_iff] at hu
    obtain ⟨⟨B, D⟩, hb, n, hc, hu⟩ := hu
    obtain ⟨h1, h2, h3, h4⟩ := slice_row h hb hc
    refine ⟨_, h4, fun w => ?_⟩
    have hun := run_underlying' ht w
    rw [hi'] at hun
    have hsz := run_sizeOf' he w
    have hb := run_sliceBounds (P := P) (w := w) true len n b1 b2 b3 h1 h2 h3
    simp [execOp, ho, Instr.sliceAt, hun, Instr.slice, ← hu, hb, hsz, add_addr]
    split <;> simp_all

theorem pure_sliceArr {t : TypeId} {x : Operand} {lo hi mx : Option Operand} {i : TyE} {e : TypeId} {ei : TyE} {n : Nat} (ht : tyOf P t = some i) (hi' : i.desc = .array n e) (he : tyOf P e = some ei)
    (ho : o.op = .slice t x lo hi mx) : PureOK P o (sliceC (.arr n ei.size) (opd P x) (lo.map (opd P)) (hi.map (opd P)) (mx.map (opd P))) := by
  intro ρ nt tm a v hf hg h
  obtain ⟨u, l, h', m, hu, b1, b2, b3, h⟩ := sliceC_some hf hg h
  cases u <;> simp only [sliceV, reduceCtorEq] at h
  rename_i b off
  simp only [real, Option.map_eq_some_iff] at hu
  obtain ⟨⟨B, D⟩, hb, hu⟩ := hu
  obtain ⟨h1, h2, h3, h4⟩ := slice_row h hb rfl
  refine ⟨_, h4, fun w => ?_⟩
  have hun := run_underlying' ht w
  rw [hi'] at hun
  have hsz := run_sizeOf' he w
  have hb := run_sliceBounds (P := P) (w := w) false n n b1 b2 b3 h1 h2 h3
  simp [execOp, ho, Instr.sliceAt, hun, ← hu, hb, hsz, add_addr, Instr.sureAddr]

/-! Indexes. -/

theorem pure_indexAddrArr {t : TypeId} {x ix : Operand} {i : TyE} {e : TypeId} {ei : TyE} {n : Nat} (ht : tyOf P t = some i) (hi' : i.desc = .array n e) (he : tyOf P e = some ei)
    (ho : o.op = .indexAddr t x ix) : PureOK P o (eval2 (opd P x) (opd P ix) (indexAddrArr n ei.size)) := by
  intro ρ nt tm a v hf hg h
  obtain ⟨u, y, hu0, hy0, hs⟩ := eval2_some h
  have hu := opd_real hf hg x u hu0
  have hy := opd_real hf hg ix y hy0
  clear hu0 hy0 h
  unfold indexAddrArr at hs
  split at hs
  · rename_i b off q hq
    obtain ⟨k, rfl⟩ := asNat_some hq
    cases hc : Nat.blt q n with
    | false => rw [hc] at hs; cases hs
    | true =>
      rw [hc, cond_true] at hs
      cases hs
      have hc := blt_of hc
      simp only [real, Option.map_eq_some_iff] at hu
      obtain ⟨⟨B, D⟩, hb, hu⟩ := hu
      simp only [real, Option.some.injEq] at hy
      refine ⟨.pointer (some ⟨B, off + q * ei.size + D, none⟩), by simp [real, hb], fun w => ?_⟩
      have hun := run_underlying' ht w
      rw [hi'] at hun
      have hsz := run_sizeOf' he w
      simp [execOp, ho, Instr.indexAt, asIntOf, ← hy, hun, ← hu, Instr.sureAddr, hc, hsz, add_addr]
      omega
  · cases hs

theorem pure_indexAddrSl {t : TypeId} {x ix : Operand} {i : TyE} {e : TypeId} {ei : TyE} (ht : tyOf P t = some i) (hi' : i.desc = .slice e) (he : tyOf P e = some ei)
    (ho : o.op = .indexAddr t x ix) : PureOK P o (eval2 (opd P x) (opd P ix) (indexAddrSl ei.size)) := by
  intro ρ nt tm a v hf hg h
  obtain ⟨u, y, hu0, hy0, hs⟩ := eval2_some h
  have hu := opd_real hf hg x u hu0
  have hy := opd_real hf hg ix y hy0
  clear hu0 hy0 h
  unfold indexAddrSl at hs
  split at hs
  · rename_i b off len c q hq
    obtain ⟨k, rfl⟩ := asNat_some hq
    cases hc : Nat.blt q len with
    | false => rw [hc] at hs; cases hs
    | true =>
      rw [hc, cond_true] at hs
      cases hs
      have hc := blt_of hc
      simp only [real, Option.bind_eq_some_iff, Option.map_eq_some_iff] at hu
      obtain ⟨⟨B, D⟩, hb, m, hm, hu⟩ := hu
      simp only [real, Option.some.injEq] at hy
      refine ⟨.pointer (some ⟨B, off + q * ei.size + D, none⟩), by simp [real, hb], fun w => ?_⟩
      have hun := run_underlying' ht w
      rw [hi'] at hun
      have hsz := run_sizeOf' he w
      simp [execOp, ho, Instr.indexAt, asIntOf, ← hy, hun, ← hu, hc, hsz, add_addr]
      omega
  · cases hs

theorem pure_indexArr {t : TypeId} {x ix : Operand} {i : TyE} {e : TypeId} {ei : TyE} {n : Nat} (ht : tyOf P t = some i) (hi' : i.desc = .array n e) (he : tyOf P e = some ei)
    (ho : o.op = .index t x ix) : PureOK P o (eval2 (opd P x) (opd P ix) (indexArr n ei.size (isAggD ei.desc))) := by
  intro ρ nt tm a v hf hg h
  obtain ⟨u, y, hu0, hy0, hs⟩ := eval2_some h
  have hu := opd_real hf hg x u hu0
  have hy := opd_real hf hg ix y hy0
  clear hu0 hy0 h
  unfold indexArr at hs
  split at hs
  · rename_i cs q hq
    obtain ⟨k, rfl⟩ := asNat_some hq
    cases hc : Nat.blt q n with
    | false => rw [hc] at hs; cases hs
    | true =>
      rw [hc, cond_true] at hs
      have hc := blt_of hc
      simp only [real, Option.map_eq_some_iff] at hu
      obtain ⟨L, hL, hu⟩ := hu
      simp only [real, Option.some.injEq] at hy
      obtain ⟨V, hV, hV'⟩ := run_part he hL hs
      refine ⟨V, hV, fun w => ?_⟩
      have hun := run_underlying' ht w
      rw [hi'] at hun
      have hsz := run_sizeOf' he w
      simp [execOp, ho, Instr.index, asIntOf, ← hy, hun, ← hu, hc, hsz, hV']
  · cases hs

theorem pure_indexStr {t : TypeId} {x ix : Operand} {i : TyE} (ht : tyOf P t = some i) (hi' : i.desc = .string)
    (ho : o.op = .index t x ix) : PureOK P o (eval2 (opd P x) (opd P ix) indexStr) := by
  intro ρ nt tm a v hf hg h
  obtain ⟨u, y, hu0, hy0, hs⟩ := eval2_some h
  have hu := opd_real hf hg x u hu0
  have hy := opd_real hf hg ix y hy0
  clear hu0 hy0 h
  unfold indexStr at hs
  split at hs
  · rename_i s q hq
    obtain ⟨k, rfl⟩ := asNat_some hq
    split at hs
    · rename_i b hb
      cases hc : Nat.blt b 256 with
      | false => rw [hc] at hs; cases hs
      | true =>
        rw [hc, cond_true] at hs
        cases hs
        have hc := blt_of hc
        simp only [real, Option.some.injEq] at hu hy
        refine ⟨_, rfl, fun w => ?_⟩
        have hun := run_underlying' ht w
        rw [hi'] at hun
        have hq' : q < s.length := by
          rcases Nat.lt_or_ge q s.length with h | h
          · exact h
          · simp [List.getElem?_eq_none h] at hb
        have hbs : (strReal s)[q]? = some (UInt8.ofNat b) := by
          have hq'' : q < (strReal s).size := by rw [strReal_size]; exact hq'
          rw [getElem?_pos (strReal s) q hq'']
          have : s[q] = b := by rw [List.getElem?_eq_getElem hq'] at hb; simpa using hb
          simp [strReal, ByteArray.getElem_eq_getElem_data, this]
        have hmod : (UInt8.ofNat b).toNat = b := by simp; omega
        simp [execOp, ho, Instr.index, asIntOf, ← hy, hun, ← hu, hbs, hmod]
    · cases hs
  · cases hs

end
end Go.Ev
