/-
  Two strands: pure operations, each ended by a store, in different blocks. The tail of a region: two strands in any weave. A drawn region of the shape 'what all later ones wait for, then two strands' is sound.
-/
import Derived.Test.YtjhmlmiegkjncaaGreatDoorEvT
set_option linter.all false

namespace Go.Ev

/-- What a strand's first i operations write. -/
noncomputable def puts (d : Nat → Dst) (v : Nat → CV) : Nat → Tm → Tm
  | 0, tm => tm
  | i + 1, tm => putD (d i) (v i) (puts d v i tm)

section
variable {nt : Nat}

theorem getT_put {dst : Option Tmp} {d : Dst} (hd : dstOf nt dst = some d) (v : CV) (tm : Tm) {x : Nat} (hx : x < 256) : getT x (putD d v tm) = if dst = some x then some v else getT x tm := by
  rcases dstOf_some hd with ⟨rfl, hp⟩ | ⟨e, rfl, h1, h2, hp⟩
  · rw [hp, if_neg (by simp)]
  · rw [hp]
    by_cases hex : e = x
    · subst hex
      rw [getT_setT_eq _ _ _ h2, if_pos rfl]
    · rw [getT_setT_ne _ _ _ _ h2 hx hex, if_neg (fun h => hex (Option.some.inj h))]

variable {nA : Nat → Option Tmp} {dA : Nat → Dst} {vA : Nat → CV}

theorem puts_ne {k : Nat} (hd : ∀ i, i < k → dstOf nt (nA i) = some (dA i)) {x : Nat} (hx : x < 256) (tm : Tm) : ∀ i, i ≤ k → (∀ i', i' < i → nA i' ≠ some x) → getT x (puts dA vA i tm) = getT x tm
  | 0, _, _ => rfl
  | i + 1, hi, hn => by
    simp only [puts]
    rw [getT_put (hd i (by omega)) _ _ hx, if_neg (hn i (by omega))]
    exact puts_ne hd hx tm i (by omega) (fun i' h => hn i' (by omega))

theorem puts_congr {k : Nat} (hd : ∀ i, i < k → dstOf nt (nA i) = some (dA i)) {x : Nat} (hx : x < 256) {tm tm' : Tm} (h : getT x tm = getT x tm') : ∀ i, i ≤ k → getT x (puts dA vA i tm) = getT x (puts dA vA i tm')
  | 0, _ => h
  | i + 1, hi => by
    simp only [puts]
    rw [getT_put (hd i (by omega)) _ _ hx, getT_put (hd i (by omega)) _ _ hx, puts_congr hd hx h i (by omega)]

/-- A put of the other strand, before or behind. -/
theorem puts_put {k : Nat} (hd : ∀ i, i < k → dstOf nt (nA i) = some (dA i)) {dst : Option Tmp} {d : Dst} (hd' : dstOf nt dst = some d) {v : CV} {i : Nat} (hi : i ≤ k) (hn : ∀ i', i' < i → ∀ x : Nat, dst = some x → nA i' ≠ some x) (tm : Tm) {x : Nat} (hx : x < 256) :
    getT x (puts dA vA i (putD d v tm)) = getT x (putD d v (puts dA vA i tm)) := by
  rw [getT_put hd' _ _ hx]
  by_cases h : dst = some x
  · rw [if_pos h, puts_ne hd hx _ i hi (fun i' h' => hn i' h' x h), getT_put hd' _ _ hx, if_pos h]
  · rw [if_neg h]
    exact puts_congr hd hx (by rw [getT_put hd' _ _ hx, if_neg h]) i hi
end

theorem agree_of {P : Program} {op : Op} {tm tm' : Tm} (h : ∀ y : Nat, .tmp y ∈ op.operands.toList → y < 256 → getT y tm = getT y tm') : Agree P op tm tm' := by
  intro x hx
  cases x with
  | tmp y =>
    show (tmpO y).eval tm = (tmpO y).eval tm'
    rw [tmpO_eval, tmpO_eval]
    split
    · rename_i hlt
      exact h y hx hlt
    · rfl
  | const c =>
    show (opd P (.const c)).eval tm = (opd P (.const c)).eval tm'
    simp only [opd]
    cases ofV depth0 c <;> rfl
  | global g =>
    show (opd P (.global g)).eval tm = (opd P (.global g)).eval tm'
    simp only [opd]
    cases Nat.blt g P.globals.size <;> rfl
  | func f => rfl

/-- A strand: k pure operations and a store; what they give from tm0, S0 on. -/
structure Strand (P : Program) (nt : Nat) (op : Nat → Oper) (k : Nat) (d : Nat → Dst) (v : Nat → CV) (tm0 : Tm) (b off : Nat) (u : CV) : Prop where
  guard : ∀ i, i ≤ k → (op i).guard = none
  dst : ∀ i, i ≤ k → dstOf nt (op i).dst = some (d i)
  pure : ∀ i, i < k → ∃ f, opC P (op i).op = .pure f ∧ f (puts d v i tm0) = some (v i)
  store : ∃ t x y ti, (op k).op = .store t x y ∧ tyOf P t = some ti ∧ v k = nothing ∧ (opd P x).eval (puts d v k tm0) = some (.ptr b off) ∧ (opd P y).eval (puts d v k tm0) = some u ∧ (Nat.beq u.cells.length ti.size && plainCells u.cells) = true

section
variable {P : Program} {nt : Nat}

/-- One step of a strand, in a state that reads for it as its own does. -/
theorem strand_step {op : Nat → Oper} {k : Nat} {d : Nat → Dst} {v : Nat → CV} {tm0 : Tm} {b off : Nat} {u : CV} (h : Strand P nt op k d v tm0 b off u) {ops : Array Oper} {q i : Nat} (hi : i ≤ k) (hq : ops[q]? = some (op i))
    {tm tm' : Tm} (ht : ∀ y : Nat, .tmp y ∈ (op i).op.operands.toList → y < 256 → getT y (puts d v i tm0) = getT y tm) (htm : ∀ x, x < 256 → getT x tm' = getT x (putD (d i) (v i) tm))
    {S S' : St} (hS : i < k → S' = S) (hS' : i = k → ∃ S2, storeN S b off u.cells = some S2 ∧ SameSt S2 S')
    {ρ : Ren} {a : Act} {w : World} (hf : FrRel ρ nt tm a) (hgl : Glob P ρ) (hr : Rel ρ S w) {Q : Exit → Act → World → Prop} {K : Act → World → Prop}
    (hK : ∀ ρ' a' w', Stp ρ S w ρ' S' w' → FrRel ρ' nt tm' a' → a'.defers = a.defers → K a' w') : wpOp P ops Q q K a w := by
  have hag : Agree P (op i).op (puts d v i tm0) tm := agree_of ht
  rcases Nat.lt_or_ge i k with hlt | hge
  · obtain ⟨f, hc, hv⟩ := h.pure i hlt
    have hok := opC_ok P (op i)
    have hsame := opC_same (op i).op hag
    rw [hc] at hok hsame
    have hv' : f tm = some (v i) := by
      have hs : f (puts d v i tm0) = f tm := hsame
      rw [← hs]; exact hv
    have := hS hlt
    subst this
    exact strand_pure hq (h.guard i hi) hok hv' (h.dst i hi) htm hf hgl hr hK
  · have hik : i = k := by omega
    subst hik
    obtain ⟨t, x, y, ti, h1, h2, h3, h4, h5, h6⟩ := h.store
    obtain ⟨S2, hst, hsm⟩ := hS' rfl
    rw [h1] at hag
    have hx := hag x (by simp [Op.operands])
    have hy := hag y (by simp [Op.operands])
    rw [h3] at htm
    refine strand_store hq (h.guard i hi) h1 h2 (S' := S2) ?_ hsm (h.dst i hi) htm hf hgl hr hK
    simp only [storeR, ← hx, ← hy, h4, h5, storeC, h6, cond_true, hst, unitO]

end
end Go.Ev

namespace Go.Ev

theorem SameSt.refl (S : St) : SameSt S S := ⟨fun _ => rfl, rfl, rfl⟩

section
variable {P : Program} {nt : Nat}

theorem tail_ok {ops : Array Oper} {p kA kB : Nat} (hs : Strands ops p (kA + 1) (kB + 1)) {opA opB : Nat → Oper} {dA dB : Nat → Dst} {vA vB : Nat → CV} {tm1 : Tm} {b1 o1 b2 o2 : Nat} {u1 u2 : CV}
    (hA : Strand P nt opA kA dA vA tm1 b1 o1 u1) (hB : Strand P nt opB kB dB vB tm1 b2 o2 u2) (oA : ∀ i, i ≤ kA → ops[p + i]? = some (opA i)) (oB : ∀ j, j ≤ kB → ops[p + (kA + 1) + j]? = some (opB j))
    (sepA : ∀ i, i ≤ kA → ∀ x : Nat, (opA i).dst = some x → ∀ j, j ≤ kB → (opB j).dst ≠ some x ∧ Operand.tmp x ∉ (opB j).op.operands.toList)
    (sepB : ∀ j, j ≤ kB → ∀ x : Nat, (opB j).dst = some x → ∀ i, i ≤ kA → Operand.tmp x ∉ (opA i).op.operands.toList)
    (hne : b1 ≠ b2) {S1 SA SAB : St} (s1 : storeN S1 b1 o1 u1.cells = some SA) (s2 : storeN SA b2 o2 u2.cells = some SAB) {ρ1 : Ren} {a : Act} {w : World} (hat : At P nt ρ1 tm1 S1 a w) {K : Act → World → Prop} {Q : Exit → Act → World → Prop}
    (hK : ∀ ρ' a' w', Stp ρ1 S1 w ρ' SAB w' → At P nt ρ' (puts dB vB (kB + 1) (puts dA vA (kA + 1) tm1)) SAB a' w' → a'.defers = a.defers → K a' w') :
    ∀ (f : Nat) (l : Array Bool), l.size = ops.size → (∀ q, q < ops.size → l[q]? = some (decide (q < p))) → (kA + 1) + (kB + 1) ≤ f → wpAny P .any ops (Exit.then K Q) f l a w := by
  intro f l hls hl hf
  obtain ⟨SB, S21, c1, c2, c3⟩ := storeN_comm s1 hne s2
  let SS : Nat → Nat → St := fun i j => if i = kA + 1 then (if j = kB + 1 then SAB else SA) else (if j = kB + 1 then SB else S1)
  have eN : ∀ i j, ¬ (i = kA + 1) → SS i j = if j = kB + 1 then SB else S1 := fun i j h => if_neg h
  have eL : ∀ i j, i = kA + 1 → SS i j = if j = kB + 1 then SAB else SA := fun i j h => if_pos h
  have hdA : ∀ i, i < kA + 1 → dstOf nt ((fun i => (opA i).dst) i) = some (dA i) := fun i hi => hA.dst i (by omega)
  have hdB : ∀ j, j < kB + 1 → dstOf nt ((fun j => (opB j).dst) j) = some (dB j) := fun j hj => hB.dst j (by omega)
  refine weave hs (I := fun i j a' w' => ∃ ρ', Stp ρ1 S1 w ρ' (SS i j) w' ∧ FrRel ρ' nt (puts dB vB j (puts dA vA i tm1)) a' ∧ a'.defers = a.defers) ?_ ?_ ?_ f 0 0 l a w (by omega) (by omega) hls (fun q hq => ?_) (by omega) ⟨ρ1, ?_, hat.fr, rfl⟩
  · rintro i j hi hj a' w' ⟨ρ', h1, h2, h3⟩ K' hK'
    refine strand_step hA (by omega) (oA i (by omega)) (tm := puts dB vB j (puts dA vA i tm1)) (tm' := puts dB vB j (puts dA vA (i + 1) tm1)) (S := SS i j) (S' := SS (i + 1) j) (fun y hy hlt => ?_) (fun x hx => ?_) (fun hlt => ?_) (fun he => ?_) h2 (hat.glob.mono h1.ext) h1.rel
      (fun ρ2 a2 w2 g1 g2 g3 => hK' a2 w2 ⟨ρ2, h1.trans g1, g2, g3.trans h3⟩)
    · exact (puts_ne hdB hlt _ j hj (fun j' hj' e => sepB j' (by omega) y e i (by omega) hy)).symm
    · exact puts_put hdB (hA.dst i (by omega)) hj (fun j' hj' x e => (sepA i (by omega) x e j' (by omega)).1) _ hx
    · rw [eN (i + 1) j (by omega), eN i j (by omega)]
    · rw [eN i j (by omega), eL (i + 1) j (by omega)]
      by_cases hj' : j = kB + 1
      · rw [if_pos hj', if_pos hj']
        exact ⟨S21, c2, c3⟩
      · rw [if_neg hj', if_neg hj']
        exact ⟨SA, s1, .refl _⟩
  · rintro i j hi hj a' w' ⟨ρ', h1, h2, h3⟩ K' hK'
    refine strand_step hB (by omega) (oB j (by omega)) (tm := puts dB vB j (puts dA vA i tm1)) (tm' := puts dB vB (j + 1) (puts dA vA i tm1)) (S := SS i j) (S' := SS i (j + 1)) (fun y hy hlt => ?_) (fun x hx => rfl) (fun hlt => ?_) (fun he => ?_) h2 (hat.glob.mono h1.ext) h1.rel
      (fun ρ2 a2 w2 g1 g2 g3 => hK' a2 w2 ⟨ρ2, h1.trans g1, g2, g3.trans h3⟩)
    · exact puts_congr hdB hlt (puts_ne hdA hlt _ i hi (fun i' hi' e => (sepA i' (by omega) y e j (by omega)).2 hy)).symm j (by omega)
    · have n1 : ¬ (j + 1 = kB + 1) := by omega
      have n2 : ¬ (j = kB + 1) := by omega
      by_cases hi' : i = kA + 1
      · rw [eL i (j + 1) hi', eL i j hi', if_neg n1, if_neg n2]
      · rw [eN i (j + 1) hi', eN i j hi', if_neg n1, if_neg n2]
    · have n1 : j + 1 = kB + 1 := by omega
      have n2 : ¬ (j = kB + 1) := by omega
      by_cases hi' : i = kA + 1
      · rw [eL i (j + 1) hi', eL i j hi', if_pos n1, if_neg n2]
        exact ⟨SAB, s2, .refl _⟩
      · rw [eN i (j + 1) hi', eN i j hi', if_pos n1, if_neg n2]
        exact ⟨SB, c1, .refl _⟩
  · rintro a' w' ⟨ρ', h1, h2, h3⟩
    have e : SS (kA + 1) (kB + 1) = SAB := by rw [eL _ _ rfl, if_pos rfl]
    rw [e] at h1
    exact hK ρ' a' w' h1 ⟨h1.rel, h2, hat.glob.mono h1.ext⟩ h3
  · rw [hl q hq]
    unfold Done
    congr 1
    rw [Bool.eq_iff_iff]
    simp only [Bool.or_eq_true, Bool.and_eq_true, decide_eq_true_eq]
    omega
  · have e : SS 0 0 = S1 := by
      rw [eN 0 0 (by omega), if_neg (by omega)]
    rw [e]
    exact Stp.refl hat.rel

end
end Go.Ev

namespace Go.Ev

theorem rangeAll_spec {f : Nat → Bool} : ∀ (n : Nat), rangeAll n f = true → ∀ q, q < n → f q = true
  | 0, _, _, hq => by omega
  | n + 1, h, q, hq => by
    simp only [rangeAll, Bool.and_eq_true] at h
    by_cases e : q = n
    · rw [e]; exact h.1
    · exact rangeAll_spec n h.2 q (by omega)

theorem waitsFor_spec {o : Oper} {q : Nat} (h : waitsFor o q = true) : ∃ e, e ∈ o.after ∧ e.on = q ∧ Region.binds .any e = true := by
  unfold waitsFor at h
  rw [List.any_eq_true] at h
  obtain ⟨e, h1, h2⟩ := h
  simp only [Bool.and_eq_true] at h2
  exact ⟨e, by simpa using h1, Nat.eq_of_beq_eq_true h2.1, h2.2⟩

theorem edgeIn_spec {p b i : Nat} {o : Oper} (h : edgeIn p b i o = true) : ∀ e, e ∈ o.after → Region.binds .any e = true → e.on < p ∨ (b ≤ e.on ∧ e.on < b + i) := by
  unfold edgeIn at h
  rw [List.all_eq_true] at h
  intro e he hb
  have := h e (by simpa using he)
  rw [hb] at this
  simp only [Bool.not_true, Bool.false_or, Bool.or_eq_true, Bool.and_eq_true] at this
  rcases this with h1 | ⟨h1, h2⟩
  · exact .inl (blt_of h1)
  · exact .inr ⟨Nat.le_of_ble_eq_true h1, blt_of h2⟩

/-- What an operation of a strand bears. -/
structure InStrand (p b i : Nat) (o : Oper) : Prop where
  guard : o.guard = none
  own : ∀ q, q + 1 = i → ∃ e, e ∈ o.after ∧ e.on = b + q ∧ Region.binds .any e = true
  low : ∀ e, e ∈ o.after → Region.binds .any e = true → e.on < p ∨ (b ≤ e.on ∧ e.on < b + i)
  wait : ∀ q, q < p → ∃ e, e ∈ o.after ∧ e.on = q ∧ Region.binds .any e = true

theorem strandOk_spec {p b : Nat} : ∀ (l : List Oper) (i : Nat), strandOk p b i l = true → ∀ j o, l[j]? = some o → InStrand p b (i + j) o
  | [], _, _, j, o, ho => by simp at ho
  | o :: l, i, h, j, o', ho => by
    simp only [strandOk, Bool.and_eq_true] at h
    obtain ⟨⟨⟨⟨h1, h2⟩, h3⟩, h4⟩, h5⟩ := h
    cases j with
    | zero =>
      simp only [List.getElem?_cons_zero, Option.some.injEq] at ho
      subst ho
      exact ⟨by simpa using h1, fun q hq => by subst hq; exact waitsFor_spec h2, edgeIn_spec h3, fun q hq => waitsFor_spec (rangeAll_spec p h4 q hq)⟩
    | succ j =>
      have := strandOk_spec l (i + 1) h5 j o' (by simpa using ho)
      rwa [show i + 1 + j = i + (j + 1) by omega] at this

theorem apartS_spec {l m : List Oper} (h : apartS l m = true) : ∀ o, o ∈ l → ∀ x : Nat, o.dst = some x → ∀ o', o' ∈ m → o'.dst ≠ some x ∧ Operand.tmp x ∉ o'.op.operands.toList := by
  unfold apartS at h
  rw [List.all_eq_true] at h
  intro o ho x hx o' ho'
  have h1 := h o ho
  rw [hx] at h1
  simp only [List.all_eq_true] at h1
  have h2 := h1 o' ho'
  simp only [Bool.and_eq_true, Bool.not_eq_true'] at h2
  constructor
  · intro e
    have := h2.2
    unfold writesT at this
    rw [e] at this
    simp at this
  · intro hm
    have := h2.1
    unfold readsT at this
    rw [List.any_eq_false] at this
    have := this _ hm
    simp at this

theorem storeOf_spec {op : Op} {t : TypeId} {x y : Operand} (h : storeOf op = some (t, x, y)) : op = .store t x y := by
  unfold storeOf at h
  split at h
  · cases h; rfl
  · cases h

theorem puts_front {d : Nat → Dst} {v : Nat → CV} : ∀ (i : Nat) (tm : Tm), puts d v (i + 1) tm = puts (fun i => d (i + 1)) (fun i => v (i + 1)) i (putD (d 0) (v 0) tm)
  | 0, _ => rfl
  | i + 1, tm => by
    show putD (d (i + 1)) (v (i + 1)) (puts d v (i + 1) tm) = putD (d (i + 1)) (v (i + 1)) (puts (fun i => d (i + 1)) (fun i => v (i + 1)) i (putD (d 0) (v 0) tm))
    rw [puts_front i tm]

section
variable {P : Program} {nt : Nat}

structure StrL (P : Program) (nt : Nat) (l : List Oper) (s : StrC) (tm tm' : Tm) (vs : List CV) (k : Nat) (d : Nat → Dst) (v : Nat → CV) : Prop where
  len : l.length = k + 1
  dst : ∀ i o, l[i]? = some o → dstOf nt o.dst = some (d i)
  pure : ∀ i o, i < k → l[i]? = some o → ∃ f, opC P o.op = .pure f ∧ f (puts d v i tm) = some (v i)
  store : ∀ o, l[k]? = some o → ∃ t x y ti, o.op = .store t x y ∧ tyOf P t = some ti ∧ s.size = ti.size ∧ s.x = opd P x ∧ s.y = opd P y
  vk : v k = nothing
  fin : puts d v k tm = tm'
  all : ∀ tm2, puts d v (k + 1) tm2 = putD s.dst nothing (replay s.pures vs tm2)

theorem strC_ok : ∀ (l : List Oper) (s : StrC) (tm tm' : Tm) (vs : List CV), strC P nt l = some s → valsOf s.pures tm = some (vs, tm') → ∃ k d v, StrL P nt l s tm tm' vs k d v
  | [], _, _, _, _, h, _ => by cases h
  | [o], s, tm, tm', vs, h, hv => by
    simp only [strC] at h
    split at h
    · rename_i t x y hst
      split at h
      · rename_i ti d0 ht hd
        cases h
        simp only [valsOf, Option.some.injEq, Prod.mk.injEq] at hv
        obtain ⟨rfl, rfl⟩ := hv
        refine ⟨0, fun _ => d0, fun _ => nothing, rfl, fun i o' ho => ?_, fun i _ hi => by omega, fun o' ho => ?_, rfl, rfl, fun tm2 => rfl⟩
        · cases i with
          | zero => simp only [List.getElem?_cons_zero, Option.some.injEq] at ho; subst ho; exact hd
          | succ i => simp at ho
        · simp only [List.getElem?_cons_zero, Option.some.injEq] at ho
          subst ho
          exact ⟨t, x, y, ti, storeOf_spec hst, ht, rfl, rfl, rfl⟩
      · cases h
    · cases h
  | o :: o' :: l, s, tm, tm', vs, h, hv => by
    simp only [strC] at h
    split at h
    · rename_i f hf
      split at h
      · rename_i d0 s' hd hs
        cases h
        simp only [valsOf] at hv
        split at hv
        · rename_i v0 hv0
          split at hv
          · rename_i vs' tm2 hvs
            cases hv
            obtain ⟨k, d, v, H⟩ := strC_ok (o' :: l) s' (putD d0 v0 tm) tm' vs' hs hvs
            refine ⟨k + 1, fun i => match i with | 0 => d0 | i + 1 => d i, fun i => match i with | 0 => v0 | i + 1 => v i, by simpa using H.len, fun i o2 ho => ?_, fun i o2 hi ho => ?_, fun o2 ho => ?_, H.vk, ?_, fun tm2 => ?_⟩
            · cases i with
              | zero => simp only [List.getElem?_cons_zero, Option.some.injEq] at ho; subst ho; exact hd
              | succ i => exact H.dst i o2 (by simpa using ho)
            · cases i with
              | zero =>
                simp only [List.getElem?_cons_zero, Option.some.injEq] at ho
                subst ho
                exact ⟨f, hf, hv0⟩
              | succ i =>
                obtain ⟨f2, g1, g2⟩ := H.pure i o2 (by omega) (by simpa using ho)
                refine ⟨f2, g1, ?_⟩
                rw [puts_front]
                exact g2
            · exact H.store o2 (by simpa using ho)
            · rw [puts_front]
              exact H.fin
            · rw [puts_front]
              exact H.all _
          · cases hv
        · cases hv
      · cases h
    · cases h

theorem strand_of {l : List Oper} {s : StrC} {tm tm' : Tm} {vs : List CV} {k : Nat} {d : Nat → Dst} {v : Nat → CV} (H : StrL P nt l s tm tm' vs k d v) (hg : ∀ (i : Nat) (o : Oper), l[i]? = some o → o.guard = none) {b off : Nat} {u : CV}
    (hx : s.x.eval tm' = some (.ptr b off)) (hy : s.y.eval tm' = some u) (hc : (Nat.beq u.cells.length s.size && plainCells u.cells) = true) :
    ∃ op : Nat → Oper, (∀ i, i ≤ k → l[i]? = some (op i)) ∧ Strand P nt op k d v tm b off u := by
  have hl := H.len
  have h0 : l[0]? = some (l[0]'(by omega)) := List.getElem?_eq_getElem _
  have key : ∀ i, i ≤ k → l[i]? = some ((fun i => (l[i]?).getD (l[0]'(by omega))) i) := by
    intro i hi
    have : i < l.length := by omega
    simp [this]
  refine ⟨fun i => (l[i]?).getD (l[0]'(by omega)), key, fun i hi => hg i _ (key i hi), fun i hi => H.dst i _ (key i hi), fun i hi => H.pure i _ hi (key i (by omega)), ?_⟩
  obtain ⟨t, x, y, ti, h1, h2, h3, h4, h5⟩ := H.store _ (key k (Nat.le_refl _))
  refine ⟨t, x, y, ti, h1, h2, H.vk, ?_, ?_, ?_⟩
  · rw [H.fin, ← h4]; exact hx
  · rw [H.fin, ← h5]; exact hy
  · rw [← h3]; exact hc

theorem strRun_inv {s : StrC} {tm : Tm} {S S' : St} {vs : List CV} {b : Nat} (h : strRun s tm S = some (vs, b, S')) :
    ∃ tm' off u, valsOf s.pures tm = some (vs, tm') ∧ s.x.eval tm' = some (.ptr b off) ∧ s.y.eval tm' = some u ∧ (Nat.beq u.cells.length s.size && plainCells u.cells) = true ∧ storeN S b off u.cells = some S' := by
  unfold strRun at h
  split at h
  · rename_i vs' tm' hv
    split at h
    · rename_i b' off u hx hy
      cases hc : (Nat.beq u.cells.length s.size && plainCells u.cells) with
      | false => rw [hc] at h; cases h
      | true =>
        rw [hc, cond_true] at h
        split at h
        · rename_i S2 hs
          cases h
          exact ⟨tm', off, u, hv, hx, hy, hc, hs⟩
        · cases h
    · cases h
  · cases h

theorem twoRun_inv {sa sb : StrC} {k : Tm → St → Res} {tm : Tm} {S : St} {r : Res} (h : twoRun sa sb k tm S = r) (hr : r ≠ .fail) :
    ∃ va ba SA vb bb SB, strRun sa tm S = some (va, ba, SA) ∧ strRun sb tm SA = some (vb, bb, SB) ∧ ba ≠ bb ∧ k (putD sb.dst nothing (replay sb.pures vb (putD sa.dst nothing (replay sa.pures va tm)))) SB = r := by
  unfold twoRun at h
  split at h
  · rename_i va ba SA hA
    split at h
    · rename_i vb bb SB hB
      cases he : Nat.beq ba bb with
      | true => rw [he] at h; exact absurd h.symm hr
      | false =>
        rw [he, cond_false] at h
        refine ⟨va, ba, SA, vb, bb, SB, hA, hB, fun e => ?_, h⟩
        subst e
        rw [Nat.beq_refl] at he
        cases he
    · exact absurd h.symm hr
  · exact absurd h.symm hr

theorem two_ok {call : Call} (hcall : CallOK P call) {ops : Array Oper} {p kk : Nat} {K : Act → World → Prop} {Q : Exit → Act → World → Prop} {r : Res} {k : Tm → St → Res} {ρ : Ren} {tm : Tm} {S : St} {a : Act} {w : World}
    (hat : At P nt ρ tm S a w) (hrun : drawRun (twoOf P nt ops.toList p kk) call tm S k = r) (hr : r ≠ .fail)
    (hK : ∀ ρ' tm' S' a' w', Stp ρ S w ρ' S' w' → At P nt ρ' tm' S' a' w' → IdleExt P a.defers a'.defers → k tm' S' = r → K a' w') :
    wpAny P .any ops (Exit.then K Q) ops.size (Array.replicate ops.size false) a w := by
  unfold twoOf at hrun
  cases hc : (Nat.ble p ops.toList.length && (ops.toList.take p).all (guardsLow p) && strandOk p p 0 ((ops.toList.drop p).take kk) && strandOk p (p + kk) 0 ((ops.toList.drop p).drop kk) && apartS ((ops.toList.drop p).take kk) ((ops.toList.drop p).drop kk) && apartS ((ops.toList.drop p).drop kk) ((ops.toList.drop p).take kk)) with
  | false => rw [hc] at hrun; exact absurd hrun.symm hr
  | true =>
    rw [hc, cond_true] at hrun
    simp only [Bool.and_eq_true] at hc
    obtain ⟨⟨⟨⟨⟨c1, c2⟩, c3⟩, c4⟩, c5⟩, c6⟩ := hc
    have hp : p ≤ ops.size := by have := Nat.le_of_ble_eq_true c1; simpa using this
    split at hrun
    · rename_i ds sa sb h1 h2 h3
      -- the three parts
      have gA : ∀ i, i < kk → ((ops.toList.drop p).take kk)[i]? = ops[p + i]? := by
        intro i hi
        rw [List.getElem?_take_of_lt hi, List.getElem?_drop, Array.getElem?_toList]
      have gB : ∀ i, ((ops.toList.drop p).drop kk)[i]? = ops[p + kk + i]? := by
        intro i
        rw [List.getElem?_drop, List.getElem?_drop, Array.getElem?_toList, Nat.add_assoc]
      have ex : (ops.extract 0 p).toList = ops.toList.take p := by simp
      have sA := strandOk_spec _ 0 c3
      have sB := strandOk_spec _ 0 c4
      have lA : ((ops.toList.drop p).take kk).length = min kk (ops.size - p) := by simp
      have lB : ((ops.toList.drop p).drop kk).length = ops.size - p - kk := by simp [Nat.sub_sub]
      have hkk : kk ≤ ops.size - p := by
        rcases Nat.lt_or_ge (ops.size - p) kk with h | h
        · exfalso
          have : ((ops.toList.drop p).drop kk) = [] := by
            rw [← List.length_eq_zero_iff, lB]
            omega
          rw [this] at h3
          cases h3
        · exact h
      have split : Split ops p := by
        refine ⟨hp, fun i o hi ho q hq => ?_, fun i o hi ho e he hb => ?_, fun i o j b hi ho hg => ?_⟩
        · obtain ⟨i', rfl⟩ : ∃ i', i = p + i' := ⟨i - p, by omega⟩
          rcases Nat.lt_or_ge i' kk with h | h
          · exact (sA i' o ((gA i' h).trans ho)).wait q hq
          · obtain ⟨j, rfl⟩ : ∃ j, i' = kk + j := ⟨i' - kk, by omega⟩
            exact (sB j o ((gB j).trans (by rw [Nat.add_assoc]; exact ho))).wait q hq
        · unfold drawWith at h1
          cases hok : (namesOk (ops.toList.take p) (predsL [] (ops.toList.take p)) && chainOk (predsL [] (ops.toList.take p)) (chainsOf P 0 (ops.toList.take p)) && edgesOk 0 (ops.toList.take p) && noSelect (ops.toList.take p)) with
          | false => rw [hok] at h1; cases h1
          | true =>
            simp only [Bool.and_eq_true] at hok
            have := edgesOk_spec _ 0 hok.1.2 i o (by rw [List.getElem?_take_of_lt hi, Array.getElem?_toList]; exact ho) e (by simpa using he) hb
            omega
        · rw [List.all_eq_true] at c2
          have hm : o ∈ ops.toList.take p := List.mem_of_getElem? (i := i) (by rw [List.getElem?_take_of_lt hi, Array.getElem?_toList]; exact ho)
          have := c2 o hm
          unfold guardsLow at this
          rw [hg] at this
          exact blt_of this
      have hsz : (ops.extract 0 p).size = p := by simp; omega
      refine wpAny_split split (ops.extract 0 p).size ops.size _ (Array.replicate (ops.extract 0 p).size false) a w ⟨by simp, by simp; omega, fun i hi => ?_, fun i h1 h2 => by simp [h2]⟩ (by omega) ?_
      · rw [Array.getElem?_replicate, Array.getElem?_replicate, if_pos (by omega), if_pos (by omega)]
      refine mk_ok P hcall (by rw [ex]; exact h1) hat (r := r) (k := twoRun sa sb k) ?_ hr (fun ρ1 tm1 S1 a1 w1 hs1 hat1 hd1 hrun1 => ?_)
      · rw [ex, List.length_take, Array.length_toList, Nat.min_eq_left hp]
        exact hrun
      · intro f' l l1 l2 l3 hf'
        obtain ⟨va, ba, SA, vb, bb, SB, r1, r2, hne, hk⟩ := twoRun_inv hrun1 hr
        obtain ⟨tma, oa, ua, x1, x2, x3, x4, x5⟩ := strRun_inv r1
        obtain ⟨tmb, ob, ub, y1, y2, y3, y4, y5⟩ := strRun_inv r2
        obtain ⟨kA, dA, vA, HA⟩ := strC_ok _ _ _ _ _ h2 x1
        obtain ⟨kB, dB, vB, HB⟩ := strC_ok _ _ _ _ _ h3 y1
        obtain ⟨opA, oA, RA⟩ := strand_of HA (fun i o ho => (sA i o ho).guard) x2 x3 x4
        obtain ⟨opB, oB, RB⟩ := strand_of HB (fun i o ho => (sB i o ho).guard) y2 y3 y4
        have eA : kk = kA + 1 := by have := HA.len; omega
        have eB : ops.size - p - kk = kB + 1 := by have := HB.len; omega
        subst eA
        have inA : ∀ i, i ≤ kA → opA i ∈ ((ops.toList.drop p).take (kA + 1)) := fun i hi => List.mem_of_getElem? (oA i hi)
        have inB : ∀ i, i ≤ kB → opB i ∈ ((ops.toList.drop p).drop (kA + 1)) := fun i hi => List.mem_of_getElem? (oB i hi)
        have strands : Strands ops p (kA + 1) (kB + 1) := by
          refine ⟨by omega, fun i o hi ho => ?_, fun j o hj ho => ?_, fun i o hi ho e he hb => ?_, fun j o hj ho e he hb => ?_⟩
          · exact (sA (i + 1) o ((gA (i + 1) hi).trans ho)).own i (by omega)
          · exact (sB (j + 1) o ((gB (j + 1)).trans ho)).own j (by omega)
          · rcases (sA i o ((gA i hi).trans ho)).low e he hb with h | h <;> omega
          · have := (sB j o ((gB j).trans ho)).low e he hb
            rw [Nat.zero_add] at this
            exact this
        refine tail_ok strands RA RB (fun i hi => (gA i (by omega)).symm.trans (oA i hi)) (fun j hj => (gB j).symm.trans (oB j hj))
          (fun i hi x hx j hj => apartS_spec c5 _ (inA i hi) x hx _ (inB j hj)) (fun j hj x hx i hi => (apartS_spec c6 _ (inB j hj) x hx _ (inA i hi)).2) hne x5 y5 hat1 (fun ρ2 a2 w2 hs2 hat2 hd2 => ?_) f' l l3 (fun q hq => ?_) (by omega)
        · rw [HA.all, HB.all] at hat2
          exact hK ρ2 _ SB a2 w2 (hs1.trans hs2) hat2 (by rw [hd2]; exact hd1) hk
        · by_cases hqp : q < p
          · rw [l1 q hqp, decide_eq_true hqp]
          · rw [l2 q (by omega) hq, decide_eq_false hqp]
    · exact absurd hrun.symm hr

theorem draw_ok (P : Program) : DrawOK P := by
  intro call hcall nt ops K Q r k ρ tm S a w hat hrun hr hK
  unfold drawOf at hrun
  split at hrun
  · rename_i ds hd
    exact mk_ok P hcall hd hat hrun hr hK
  · unfold drawTwo at hrun
    split at hrun
    · rename_i p hp
      split at hrun
      · exact two_ok hcall hat hrun hr hK
      · exact absurd hrun.symm hr
    · exact absurd hrun.symm hr

end
end Go.Ev
