/-
  A region whose later operations all wait for its earlier ones: the earlier ones first, then the rest. Two strands of operations, each in its order, whatever the weave. Two stores in different blocks: their order does not matter. One operation of a strand: a pure one, a store.
-/
import Derived.Test.YtjhmlmiegkjncaaGreatDoorEvS
set_option linter.all false

namespace Go.Ev

section
variable {P : Program}

theorem wp_then {o : Oper} {a : Act} {w : World} {Kn K1 K2 : Act → World → Prop} {Q : Exit → Act → World → Prop} (h : o.wp P a w Kn (Exit.then K1 Q)) : o.wp P a w Kn (Exit.then K2 Q) := by
  unfold Oper.wp at *
  generalize (execOp a.eval o).run P w = r at *
  cases r with
  | ok n w' => cases n <;> exact h
  | halt x w' => cases x <;> exact h

theorem wpOp_then {ops : Array Oper} {i : Nat} {a : Act} {w : World} {Kn K1 K2 : Act → World → Prop} {Q : Exit → Act → World → Prop} (h : wpOp P ops (Exit.then K1 Q) i Kn a w) : wpOp P ops (Exit.then K2 Q) i Kn a w := by
  unfold wpOp at *
  split
  · rename_i e
    rw [e] at h
    exact h
  · rename_i o e
    rw [e] at h
    simp only at h
    split
    · rename_i hw
      rw [if_pos hw] at h
      rcases h with h | ⟨h1, h2⟩
      · exact .inl (wp_then h)
      · exact .inr ⟨h1, h2⟩
    · rename_i hw
      rw [if_neg hw] at h
      exact h

theorem ready_iff {md : Region.Mode} {ops : Array Oper} {listed : Array Bool} {i : Nat} : i ∈ Region.ready md ops listed ↔ i < ops.size ∧ listed.getD i true = false ∧ ∃ o, ops[i]? = some o ∧ ∀ e, e ∈ o.after → Region.binds md e = true → listed.getD e.on false = true := by
  unfold Region.ready
  rw [List.mem_filter, List.mem_range]
  simp only [Bool.and_eq_true, Bool.not_eq_true']
  constructor
  · rintro ⟨h1, h2, h3⟩
    refine ⟨h1, h2, ops[i], by simp [h1], fun e he hb => ?_⟩
    rw [Array.getElem?_eq_getElem h1] at h3
    simp only [Option.map_some, Option.getD_some] at h3
    rw [Array.all_eq_true'] at h3
    have := h3 e he
    rw [hb] at this
    simpa using this
  · rintro ⟨h1, h2, o, ho, h3⟩
    refine ⟨h1, h2, ?_⟩
    rw [ho]
    simp only [Option.map_some, Option.getD_some]
    rw [Array.all_eq_true']
    intro e he
    cases hb : Region.binds md e with
    | false => rfl
    | true => rw [h3 e he hb]; rfl

/-- The earlier part of a region. -/
structure Split (ops : Array Oper) (p : Nat) : Prop where
  le : p ≤ ops.size
  wait : ∀ i o, p ≤ i → ops[i]? = some o → ∀ q, q < p → ∃ e, e ∈ o.after ∧ e.on = q ∧ Region.binds .any e = true
  low : ∀ i o, i < p → ops[i]? = some o → ∀ e, e ∈ o.after → Region.binds .any e = true → e.on < i
  guard : ∀ i o j b, i < p → ops[i]? = some o → o.guard = some (j, b) → j < p

/-- The lists of what is done: of the whole, of the earlier part. -/
structure Both (ops : Array Oper) (p : Nat) (l l' : Array Bool) : Prop where
  sz : l.size = ops.size
  sz' : l'.size = p
  low : ∀ i, i < p → l[i]? = l'[i]?
  high : ∀ i, p ≤ i → i < ops.size → l[i]? = some false

theorem wpAny_split {ops : Array Oper} {p : Nat} (hs : Split ops p) {K : Act → World → Prop} {Q : Exit → Act → World → Prop} :
    ∀ (f f' : Nat) (l l' : Array Bool) (a : Act) (w : World), Both ops p l l' → f + (ops.size - p) ≤ f' →
    wpAny P .any (ops.extract 0 p) (Exit.then (fun a w => ∀ f' l, (∀ i, i < p → l[i]? = some true) → (∀ i, p ≤ i → i < ops.size → l[i]? = some false) → l.size = ops.size → ops.size - p ≤ f' → wpAny P .any ops (Exit.then K Q) f' l a w) Q) f l' a w →
    wpAny P .any ops (Exit.then K Q) f' l a w := by
  have hsz : (ops.extract 0 p).size = p := by have := hs.le; simp; omega
  have hget : ∀ i, i < p → (ops.extract 0 p)[i]? = ops[i]? := by
    intro i hi
    rw [Array.getElem?_extract]
    have := hs.le
    simp
    omega
  -- all is done, or something is ready
  have full : ∀ (l l' : Array Bool), Both ops p l l' → Region.ready .any (ops.extract 0 p) l' = [] → ∀ i, i < p → l[i]? = some true := by
    intro l l' hb hr i
    induction i using Nat.strongRecOn with
    | _ i ih =>
      intro hi
      have hl : i < l.size := by have := hb.sz; have := hs.le; omega
      have hl' : i < l'.size := by have := hb.sz'; omega
      cases hq : l'[i]? with
      | none => rw [Array.getElem?_eq_getElem hl'] at hq; cases hq
      | some t =>
        cases t with
        | true => rw [hb.low i hi, hq]
        | false =>
          exfalso
          have hio : i < ops.size := by have := hs.le; omega
          have ho : ops[i]? = some (ops[i]'hio) := Array.getElem?_eq_getElem hio
          have hm : i ∈ Region.ready .any (ops.extract 0 p) l' := ready_iff.2 ⟨by omega, by simp [Array.getD_eq_getD_getElem?, hq], _, (hget i hi).trans ho, fun e he hbd => by
            have h1 := hs.low i _ hi ho e he hbd
            have := ih e.on h1 (by omega)
            rw [hb.low e.on (by omega)] at this
            simp [Array.getD_eq_getD_getElem?, this]⟩
          rw [hr] at hm
          cases hm
  -- who is ready, as long as something of the earlier part is to be done
  have same : ∀ (l l' : Array Bool), Both ops p l l' → (∃ q, q < p ∧ l[q]? ≠ some true) → ∀ i, i ∈ Region.ready .any ops l → i < p ∧ i ∈ Region.ready .any (ops.extract 0 p) l' := by
    rintro l l' hb ⟨q, hq, hql⟩ i hi
    obtain ⟨h1, h2, o, ho, h3⟩ := ready_iff.1 hi
    have hip : i < p := by
      rcases Nat.lt_or_ge i p with h | h
      · exact h
      · exfalso
        obtain ⟨e, e1, e2, e3⟩ := hs.wait i o h ho q hq
        have := h3 e e1 e3
        rw [e2] at this
        have hl : q < l.size := by have := hb.sz; have := hs.le; omega
        rw [Array.getD_eq_getD_getElem?, Array.getElem?_eq_getElem hl] at this
        rw [Array.getElem?_eq_getElem hl] at hql
        simp only [Option.getD_some] at this
        rw [this] at hql
        exact hql rfl
    refine ⟨hip, ready_iff.2 ⟨by omega, ?_, o, (hget i hip).trans ho, fun e he hbd => ?_⟩⟩
    · rw [Array.getD_eq_getD_getElem?, ← hb.low i hip, ← Array.getD_eq_getD_getElem?]
      exact h2
    · have h4 := hs.low i o hip ho e he hbd
      have := h3 e he hbd
      rw [Array.getD_eq_getD_getElem?, hb.low e.on (by omega), ← Array.getD_eq_getD_getElem?] at this
      exact this
  have up : ∀ (l l' : Array Bool), Both ops p l l' → ∀ i, i ∈ Region.ready .any (ops.extract 0 p) l' → i ∈ Region.ready .any ops l := by
    intro l l' hb i hi
    obtain ⟨h1, h2, o, ho, h3⟩ := ready_iff.1 hi
    have hip : i < p := by omega
    rw [hget i hip] at ho
    refine ready_iff.2 ⟨by have := hs.le; omega, ?_, o, ho, fun e he hbd => ?_⟩
    · rw [Array.getD_eq_getD_getElem?, hb.low i hip, ← Array.getD_eq_getD_getElem?]
      exact h2
    · have h4 := hs.low i o hip ho e he hbd
      have := h3 e he hbd
      rw [Array.getD_eq_getD_getElem?, hb.low e.on (by omega), ← Array.getD_eq_getD_getElem?]
      exact this
  -- one operation
  have one : ∀ (i : Nat), i < p → ∀ (Ka Kb K1 : Act → World → Prop) (a : Act) (w : World), (∀ a w, Ka a w → Kb a w) → wpOp P (ops.extract 0 p) (Exit.then K1 Q) i Ka a w → wpOp P ops (Exit.then K Q) i Kb a w := by
    intro i hi Ka Kb K1 a w hk h
    have hio : i < ops.size := by have := hs.le; omega
    have ho : ops[i]? = some (ops[i]'hio) := Array.getElem?_eq_getElem hio
    have hw : Region.wanted (ops[i]'hio) (yielded (ops.extract 0 p) a.tmps) = Region.wanted (ops[i]'hio) (yielded ops a.tmps) := by
      unfold Region.wanted
      cases hg : (ops[i]'hio).guard with
      | none => rfl
      | some jb =>
        obtain ⟨j, b⟩ := jb
        have hj := hs.guard i _ j b hi ho hg
        simp only [yielded, hget j hj]
    unfold wpOp at *
    rw [hget i hi, ho] at h
    rw [ho]
    simp only at h ⊢
    rw [hw] at h
    split
    · rename_i hq
      rw [if_pos hq] at h
      rcases h with h | ⟨h1, h2⟩
      · exact .inl (wp_then (Oper.wp_mono hk h))
      · exact .inr ⟨h1, h2⟩
    · rename_i hq
      rw [if_neg hq] at h
      exact hk _ _ h
  intro f
  induction f with
  | zero =>
    intro f' l l' a w hb hf h
    obtain ⟨h1, h2⟩ := h
    exact h2 f' l (full l l' hb h1) hb.high hb.sz (by omega)
  | succ f ih =>
    intro f' l l' a w hb hf h
    obtain ⟨h1, h2⟩ := h
    by_cases hall : ∃ q, q < p ∧ l[q]? ≠ some true
    · cases f' with
      | zero => omega
      | succ f' =>
        refine ⟨fun hr => ?_, fun i hi => ?_⟩
        · exfalso
          obtain ⟨q, hq, hql⟩ := hall
          refine hql (full l l' hb ?_ q hq)
          rw [List.eq_nil_iff_forall_not_mem]
          intro i hi
          have := up l l' hb i hi
          rw [hr] at this
          cases this
        · obtain ⟨hip, hi'⟩ := same l l' hb hall i hi
          refine one i hip _ _ _ a w (fun a' w' h' => ih f' _ _ a' w' ?_ (by omega) h') (h2 i hi')
          refine ⟨by simpa using hb.sz, by simpa using hb.sz', fun j hj => ?_, fun j h1 h2 => ?_⟩
          · simp only [Array.getElem?_setIfInBounds]
            have e1 := hb.sz
            have e2 := hb.sz'
            have e3 := hs.le
            by_cases hij : i = j
            · rw [if_pos hij, if_pos hij, if_pos (by omega), if_pos (by omega)]
            · rw [if_neg hij, if_neg hij, hb.low j hj]
          · simp only [Array.getElem?_setIfInBounds]
            rw [if_neg (by omega)]
            exact hb.high j h1 h2
    · have hr : Region.ready .any (ops.extract 0 p) l' = [] := by
        rw [List.eq_nil_iff_forall_not_mem]
        intro i hi
        obtain ⟨g1, g2, _⟩ := ready_iff.1 hi
        have hip : i < p := by omega
        apply hall
        refine ⟨i, hip, ?_⟩
        rw [hb.low i hip]
        intro e
        rw [Array.getD_eq_getD_getElem?, e] at g2
        cases g2
      exact h1 hr f' l (full l l' hb hr) hb.high hb.sz (by omega)

end
end Go.Ev

namespace Go.Ev

/-- What is done: the first p, i of the first strand, j of the second. -/
def Done (p kA i j q : Nat) : Bool := decide (q < p) || (decide (p ≤ q) && decide (q < p + i)) || (decide (p + kA ≤ q) && decide (q < p + kA + j))

structure Strands (ops : Array Oper) (p kA kB : Nat) : Prop where
  size : ops.size = p + kA + kB
  waitA : ∀ i o, i + 1 < kA → ops[p + (i + 1)]? = some o → ∃ e, e ∈ o.after ∧ e.on = p + i ∧ Region.binds .any e = true
  waitB : ∀ j o, j + 1 < kB → ops[p + kA + (j + 1)]? = some o → ∃ e, e ∈ o.after ∧ e.on = p + kA + j ∧ Region.binds .any e = true
  lowA : ∀ i o, i < kA → ops[p + i]? = some o → ∀ e, e ∈ o.after → Region.binds .any e = true → e.on < p + i
  lowB : ∀ j o, j < kB → ops[p + kA + j]? = some o → ∀ e, e ∈ o.after → Region.binds .any e = true → e.on < p ∨ (p + kA ≤ e.on ∧ e.on < p + kA + j)

section
variable {P : Program}

theorem done_get {p kA i j q : Nat} {ops : Array Oper} {l : Array Bool} (hl : ∀ q, q < ops.size → l[q]? = some (Done p kA i j q)) (hq : q < ops.size) (b : Bool) : l.getD q b = Done p kA i j q := by
  rw [Array.getD_eq_getD_getElem?, hl q hq]
  rfl

theorem weave {ops : Array Oper} {p kA kB : Nat} (hs : Strands ops p kA kB) {I : Nat → Nat → Act → World → Prop} {K : Act → World → Prop} {Q : Exit → Act → World → Prop}
    (hA : ∀ i j, i < kA → j ≤ kB → ∀ a w, I i j a w → ∀ K' : Act → World → Prop, (∀ a w, I (i + 1) j a w → K' a w) → wpOp P ops (Exit.then K Q) (p + i) K' a w)
    (hB : ∀ i j, i ≤ kA → j < kB → ∀ a w, I i j a w → ∀ K' : Act → World → Prop, (∀ a w, I i (j + 1) a w → K' a w) → wpOp P ops (Exit.then K Q) (p + kA + j) K' a w)
    (hK : ∀ a w, I kA kB a w → K a w) :
    ∀ (f i j : Nat) (l : Array Bool) (a : Act) (w : World), i ≤ kA → j ≤ kB → l.size = ops.size → (∀ q, q < ops.size → l[q]? = some (Done p kA i j q)) → (kA - i) + (kB - j) ≤ f → I i j a w → wpAny P .any ops (Exit.then K Q) f l a w := by
  have hsz := hs.size
  -- the one of the first strand, or the one of the second
  have who : ∀ (i j : Nat) (l : Array Bool), i ≤ kA → j ≤ kB → (∀ q, q < ops.size → l[q]? = some (Done p kA i j q)) → ∀ q, q ∈ Region.ready .any ops l → (i < kA ∧ q = p + i) ∨ (j < kB ∧ q = p + kA + j) := by
    intro i j l hi hj hl q hq
    obtain ⟨h1, h2, o, ho, h3⟩ := ready_iff.1 hq
    rw [done_get hl h1] at h2
    simp only [Done, Bool.or_eq_false_iff, Bool.and_eq_false_iff, decide_eq_false_iff_not] at h2
    rcases Nat.lt_or_ge q (p + kA) with h | h
    · left
      have hqi : p + i ≤ q := by omega
      obtain ⟨q', rfl⟩ : ∃ q', q = p + q' := ⟨q - p, by omega⟩
      have : q' = i := by
        rcases Nat.lt_or_ge i q' with h4 | h4
        · exfalso
          obtain ⟨r, rfl⟩ : ∃ r, q' = r + 1 := ⟨q' - 1, by omega⟩
          obtain ⟨e, e1, e2, e3⟩ := hs.waitA r o (by omega) ho
          have := h3 e e1 e3
          rw [e2, done_get hl (by omega)] at this
          simp only [Done, Bool.or_eq_true, Bool.and_eq_true, decide_eq_true_eq] at this
          omega
        · omega
      exact ⟨by omega, by omega⟩
    · right
      have hqi : p + kA + j ≤ q := by omega
      obtain ⟨q', rfl⟩ : ∃ q', q = p + kA + q' := ⟨q - (p + kA), by omega⟩
      have : q' = j := by
        rcases Nat.lt_or_ge j q' with h4 | h4
        · exfalso
          obtain ⟨r, rfl⟩ : ∃ r, q' = r + 1 := ⟨q' - 1, by omega⟩
          obtain ⟨e, e1, e2, e3⟩ := hs.waitB r o (by omega) ho
          have := h3 e e1 e3
          rw [e2, done_get hl (by omega)] at this
          simp only [Done, Bool.or_eq_true, Bool.and_eq_true, decide_eq_true_eq] at this
          omega
        · omega
      exact ⟨by omega, by omega⟩
  -- nothing is ready: all is done
  have over : ∀ (i j : Nat) (l : Array Bool), i ≤ kA → j ≤ kB → (∀ q, q < ops.size → l[q]? = some (Done p kA i j q)) → Region.ready .any ops l = [] → i = kA ∧ j = kB := by
    intro i j l hi hj hl hr
    constructor
    · rcases Nat.lt_or_ge i kA with h | h
      · exfalso
        have hio : p + i < ops.size := by omega
        have hm : p + i ∈ Region.ready .any ops l := ready_iff.2 ⟨hio, by
          rw [done_get hl hio]
          simp only [Done, Bool.or_eq_false_iff, Bool.and_eq_false_iff, decide_eq_false_iff_not]
          omega, _, Array.getElem?_eq_getElem hio, fun e he hb => by
          have := hs.lowA i _ h (Array.getElem?_eq_getElem hio) e he hb
          rw [done_get hl (by omega)]
          simp only [Done, Bool.or_eq_true, Bool.and_eq_true, decide_eq_true_eq]
          omega⟩
        rw [hr] at hm
        cases hm
      · omega
    · rcases Nat.lt_or_ge j kB with h | h
      · exfalso
        have hio : p + kA + j < ops.size := by omega
        have hm : p + kA + j ∈ Region.ready .any ops l := ready_iff.2 ⟨hio, by
          rw [done_get hl hio]
          simp only [Done, Bool.or_eq_false_iff, Bool.and_eq_false_iff, decide_eq_false_iff_not]
          omega, _, Array.getElem?_eq_getElem hio, fun e he hb => by
          have := hs.lowB j _ h (Array.getElem?_eq_getElem hio) e he hb
          rw [done_get hl (by omega)]
          simp only [Done, Bool.or_eq_true, Bool.and_eq_true, decide_eq_true_eq]
          omega⟩
        rw [hr] at hm
        cases hm
      · omega
  have step : ∀ (i j i' j' q : Nat) (l : Array Bool), l.size = ops.size → (∀ q, q < ops.size → l[q]? = some (Done p kA i j q)) → q < ops.size → (∀ r, Done p kA i' j' r = (decide (r = q) || Done p kA i j r)) →
      ∀ r, r < ops.size → (l.setIfInBounds q true)[r]? = some (Done p kA i' j' r) := by
    intro i j i' j' q l hls hl hq hd r hr
    rw [Array.getElem?_setIfInBounds, hd r]
    by_cases h : q = r
    · subst h
      rw [if_pos rfl, if_pos (by omega)]
      simp
    · rw [if_neg h, hl r hr, decide_eq_false (fun e => h e.symm), Bool.false_or]
  intro f
  induction f with
  | zero =>
    intro i j l a w hi hj hls hl hf hI
    have hi' : i = kA := by omega
    have hj' : j = kB := by omega
    subst hi' hj'
    refine ⟨?_, hK a w hI⟩
    rw [List.eq_nil_iff_forall_not_mem]
    intro q hq
    rcases who i j l hi hj hl q hq with ⟨h, _⟩ | ⟨h, _⟩ <;> omega
  | succ f ih =>
    intro i j l a w hi hj hls hl hf hI
    refine ⟨fun hr => ?_, fun q hq => ?_⟩
    · obtain ⟨rfl, rfl⟩ := over i j l hi hj hl hr
      exact hK a w hI
    · rcases who i j l hi hj hl q hq with ⟨h, rfl⟩ | ⟨h, rfl⟩
      · refine hA i j h hj a w hI _ (fun a' w' hI' => ih (i + 1) j _ a' w' (by omega) hj (by simpa using hls) (step i j (i + 1) j (p + i) l hls hl (by omega) (fun r => ?_)) (by omega) hI')
        unfold Done
        rw [Bool.eq_iff_iff]
        simp only [Bool.or_eq_true, Bool.and_eq_true, decide_eq_true_eq]
        omega
      · refine hB i j hi h a w hI _ (fun a' w' hI' => ih i (j + 1) _ a' w' hi (by omega) (by simpa using hls) (step i j i (j + 1) (p + kA + j) l hls hl (by omega) (fun r => ?_)) (by omega) hI')
        unfold Done
        rw [Bool.eq_iff_iff]
        simp only [Bool.or_eq_true, Bool.and_eq_true, decide_eq_true_eq]
        omega

end
end Go.Ev

namespace Go.Ev

theorem FrRel.congr {ρ : Ren} {nt : Nat} {tm tm' : Tm} {a : Act} (h : FrRel ρ nt tm a) (e : ∀ t, t < 256 → getT t tm' = getT t tm) : FrRel ρ nt tm' a :=
  ⟨h.size, fun t v ht hv => h.val t v ht ((e t ht).symm.trans hv)⟩

/-- Two states that read alike. -/
structure SameSt (S S' : St) : Prop where
  get : ∀ b, S'.heap.get b = S.heap.get b
  next : S'.next = S.next
  nk : S'.nk = S.nk

theorem SameSt.rel {ρ : Ren} {S S' : St} {w : World} (e : SameSt S S') (h : Rel ρ S w) : Rel ρ S' w :=
  ⟨fun b o hb => h.obj b o ((e.get b).symm.trans hb), fun b b' B D D' ⟨o, h1⟩ ⟨o', h2⟩ hw => h.inj b b' B D D' ⟨o, (e.get b).symm.trans h1⟩ ⟨o', (e.get b').symm.trans h2⟩ (hw.imp (fun ⟨o, g, g'⟩ => ⟨o, (e.get b).symm.trans g, g'⟩) (fun ⟨o, g, g'⟩ => ⟨o, (e.get b').symm.trans g, g'⟩)),
    fun b hb => h.fresh b (by rw [← e.next]; exact hb), fun i hi => h.freshk i (by rw [← e.nk]; exact hi)⟩

theorem storeN_inv {S S' : St} {b o : Nat} {vs : List CV} (h : storeN S b o vs = some S') : ∃ c sh hi id sz ty, S.heap.get b = some (.row c sh hi true id sz ty) ∧ Nat.ble (o + vs.length) hi = true ∧ Nat.blt (hi + sh) lim = true ∧ Nat.blt b lim = true ∧
    S' = ⟨S.heap.set big b (some (.row (lay c (o + sh) vs) sh hi true id sz ty)), S.next, S.nk⟩ := by
  obtain ⟨h0, n, k⟩ := S
  unfold storeN at h
  simp only at h
  split at h
  · rename_i c sh hi id sz ty hb
    cases hc : (Nat.ble (o + vs.length) hi && Nat.blt (hi + sh) lim && Nat.blt b lim) with
    | false => rw [hc] at h; cases h
    | true =>
      rw [hc, cond_true] at h
      cases h
      simp only [Bool.and_eq_true] at hc
      exact ⟨c, sh, hi, id, sz, ty, hb, hc.1.1, hc.1.2, hc.2, rfl⟩
  · cases h

theorem storeN_mk {S : St} {b o : Nat} {vs : List CV} {c : Tr CV} {sh hi id sz ty : Nat} (h : S.heap.get b = some (.row c sh hi true id sz ty)) (h1 : Nat.ble (o + vs.length) hi = true) (h2 : Nat.blt (hi + sh) lim = true) (h3 : Nat.blt b lim = true) :
    storeN S b o vs = some ⟨S.heap.set big b (some (.row (lay c (o + sh) vs) sh hi true id sz ty)), S.next, S.nk⟩ := by
  obtain ⟨h0, n, k⟩ := S
  simp only [storeN]
  simp only at h
  rw [h]
  simp only [h1, h2, h3, Bool.and_self, cond_true]

theorem storeN_comm {S S1 S12 : St} {b1 b2 o1 o2 : Nat} {v1 v2 : List CV} (h1 : storeN S b1 o1 v1 = some S1) (hne : b1 ≠ b2) (h2 : storeN S1 b2 o2 v2 = some S12) :
    ∃ S2 S21, storeN S b2 o2 v2 = some S2 ∧ storeN S2 b1 o1 v1 = some S21 ∧ SameSt S21 S12 := by
  obtain ⟨c1, sh1, hi1, id1, sz1, ty1, a1, a2, a3, a4, rfl⟩ := storeN_inv h1
  obtain ⟨c2, sh2, hi2, id2, sz2, ty2, e1, e2, e3, e4, rfl⟩ := storeN_inv h2
  simp only at e1
  rw [Tr.get_set_ne _ _ _ _ _ hne] at e1
  have q2 := storeN_mk (S := S) e1 e2 e3 e4
  refine ⟨_, _, q2, storeN_mk (by
    show (S.heap.set big b2 _).get b1 = _
    rw [Tr.get_set_ne _ _ _ _ _ (fun e => hne e.symm)]
    exact a1) a2 a3 a4, ?_, rfl, rfl⟩
  intro b
  have l1 : b1 + 1 < 2 ^ big := by have := blt_of a4; unfold lim at this; simp [big]; omega
  have l2 : b2 + 1 < 2 ^ big := by have := blt_of e4; unfold lim at this; simp [big]; omega
  show ((S.heap.set big b1 _).set big b2 _).get b = ((S.heap.set big b2 _).set big b1 _).get b
  by_cases hb1 : b1 = b
  · subst hb1
    rw [Tr.get_set_ne _ _ _ _ _ (fun e => hne e.symm), Tr.get_set_eq _ _ _ _ l1, Tr.get_set_eq _ _ _ _ l1]
  · by_cases hb2 : b2 = b
    · subst hb2
      rw [Tr.get_set_eq _ _ _ _ l2, Tr.get_set_ne _ _ _ _ _ hb1, Tr.get_set_eq _ _ _ _ l2]
    · rw [Tr.get_set_ne _ _ _ _ _ hb2, Tr.get_set_ne _ _ _ _ _ hb1, Tr.get_set_ne _ _ _ _ _ hb1, Tr.get_set_ne _ _ _ _ _ hb2]

end Go.Ev

namespace Go.Ev

theorem SameSt.stp {ρ ρ' : Ren} {S S' S'' : St} {w w' : World} {N : Nat} (e : SameSt S' S'') (h : StpB N ρ S w ρ' S' w') : StpB N ρ S w ρ' S'' w' :=
  ⟨h.ext, e.rel h.rel, by rw [e.next]; exact h.next, by rw [e.nk]; exact h.nk, h.keep, h.size, fun b B D ⟨o, hb⟩ hB hlt => h.dom b B D ⟨o, (e.get b).symm.trans hb⟩ hB hlt, h.os, h.tape, h.output, h.old, fun b B D ⟨o, hb, hw⟩ hB hlt => h.domW b B D ⟨o, (e.get b).symm.trans hb, hw⟩ hB hlt⟩

section
variable {P : Program}

theorem wpOp_of {ops : Array Oper} {q : Nat} {o : Oper} (ho : ops[q]? = some o) (hg : o.guard = none) {Q : Exit → Act → World → Prop} {K : Act → World → Prop} {a : Act} {w : World} (h : o.wp P a w K Q) : wpOp P ops Q q K a w := by
  unfold wpOp
  rw [ho]
  simp only [wanted_none hg, if_true]
  exact .inl h

theorem strand_pure {ops : Array Oper} {q : Nat} {o : Oper} (ho : ops[q]? = some o) (hg : o.guard = none) {f : Tm → Option CV} (hok : PureOK P o f) {nt : Nat} {tm tm' : Tm} {v : CV} (hv : f tm = some v) {d : Dst} (hd : dstOf nt o.dst = some d)
    (htm : ∀ x, x < 256 → getT x tm' = getT x (putD d v tm)) {ρ : Ren} {S : St} {a : Act} {w : World} (hf : FrRel ρ nt tm a) (hgl : Glob P ρ) (hr : Rel ρ S w) {Q : Exit → Act → World → Prop} {K : Act → World → Prop}
    (hK : ∀ ρ' a' w', Stp ρ S w ρ' S w' → FrRel ρ' nt tm' a' → a'.defers = a.defers → K a' w') : wpOp P ops Q q K a w := by
  refine wpOp_of ho hg (pure_wp (S := S) hok hv hf hgl hr fun ρ' w' V hs hV => ?_)
  exact hK ρ' _ w' hs (((hf.mono hs.ext).put hd hV).congr htm) (put_defers _ _ _)

theorem strand_store {ops : Array Oper} {q : Nat} {o : Oper} (ho : ops[q]? = some o) (hg : o.guard = none) {t : TypeId} {x y : Operand} {i : TyE} (hop : o.op = .store t x y) (ht : tyOf P t = some i) {nt : Nat} {tm tm' : Tm} {S S' S'' : St}
    (hv : storeR i.size (opd P x) (opd P y) tm S = some (.undef, S')) (he : SameSt S' S'') {d : Dst} (hd : dstOf nt o.dst = some d) (htm : ∀ x, x < 256 → getT x tm' = getT x (putD d nothing tm))
    {ρ : Ren} {a : Act} {w : World} (hf : FrRel ρ nt tm a) (hgl : Glob P ρ) (hr : Rel ρ S w) {Q : Exit → Act → World → Prop} {K : Act → World → Prop}
    (hK : ∀ ρ' a' w', Stp ρ S w ρ' S'' w' → FrRel ρ' nt tm' a' → a'.defers = a.defers → K a' w') : wpOp P ops Q q K a w := by
  refine wpOp_of ho hg ?_
  unfold Oper.wp
  obtain ⟨ρ', w', h1, h2⟩ := chain_store (P := P) ht hop ρ nt tm a .undef S S' w hf hgl hr hv
  have hrun : (execOp a.eval o).run P w = .ok .skip w' := by
    rcases h2 with h2 | ⟨dd, _, h2⟩
    · exact h2
    · exfalso
      simp only [execOp, hop, Sem.run_bind] at h2
      cases hq : (Instr.storeAt t (a.eval x) (a.eval y)).run P w with
      | ok u w2 => rw [hq] at h2; simp [Result.andThen_ok] at h2
      | halt u w2 => rw [hq] at h2; cases h2
  rw [hrun]
  exact hK ρ' _ w' (he.stp h1) (((hf.mono h1.ext).put hd rfl).congr htm) (put_defers _ _ _)

end
end Go.Ev
