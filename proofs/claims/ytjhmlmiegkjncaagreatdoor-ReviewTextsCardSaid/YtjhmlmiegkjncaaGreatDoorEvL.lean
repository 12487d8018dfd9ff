/-
  Steps of the evaluator's state and of the world: a write; a new block; a row that grows. Operations that write: stores, maps, new slices, iterators, calls. Entries of maps as places: m[k], n[j] = x, y.
-/
import Derived.Test.YtjhmlmiegkjncaaGreatDoorEvJ
set_option linter.all false

namespace Go.Ev

theorem Rel.has {ρ : Ren} {S : St} {w : World} (h : Rel ρ S w) : Has ρ S w := h.obj

/-- The world's heap alone counts. -/
theorem Rel.heap {ρ : Ren} {S : St} {w w' : World} (h : Rel ρ S w) (e : w'.heap = w.heap) : Rel ρ S w' :=
  ⟨fun b o hb => by rw [e]; exact h.obj b o hb, h.inj, h.fresh, h.freshk⟩

theorem Has.heap {ρ : Ren} {S : St} {w w' : World} (h : Has ρ S w) (e : w'.heap = w.heap) : Has ρ S w' :=
  fun b o hb => by rw [e]; exact h b o hb

section
variable {ρ : Ren} {S : St} {w : World}

/-- A block is written. -/
theorem Stp.write (h : Rel ρ S w) {b B D : Nat} {o : CObj} {O' : Obj} {w' : World} (hS : S.hasW b) (hb : ρ.b b = some (B, D)) (hlt : b < lim)
    (hB : w'.heap[B]? = some O') (ho : ObjRel ρ D o O') (hx : ∀ k, k ≠ B → w'.heap[k]? = w.heap[k]?) (hs : w'.heap.size = w.heap.size) (h1 : w'.os = w.os) (h2 : w'.tape = w.tape) (h3 : w'.output = w.output) :
    Stp ρ S w ρ ⟨S.heap.set big b (some o), S.next, S.nk⟩ w' := by
  have hbig : b + 1 < 2 ^ big := by unfold lim at hlt; simp [big]; omega
  have hhas : ∀ c, St.has ⟨S.heap.set big b (some o), S.next, S.nk⟩ c → S.has c := by
    rintro c ⟨o', ho'⟩
    by_cases e : b = c
    · subst e; exact hS.has
    · rw [Tr.get_set_ne _ _ _ _ _ e] at ho'
      exact ⟨o', ho'⟩
  have hhasW : ∀ c, St.hasW ⟨S.heap.set big b (some o), S.next, S.nk⟩ c → S.hasW c := by
    rintro c ⟨o', ho', hw⟩
    by_cases e : b = c
    · subst e; exact hS
    · rw [Tr.get_set_ne _ _ _ _ _ e] at ho'
      exact ⟨o', ho', hw⟩
  refine ⟨.refl ρ, ⟨?_, ?_, h.fresh, h.freshk⟩, Nat.le_refl _, Nat.le_refl _, ?_, by omega, ?_, h1, h2, h3, fun _ _ => rfl, fun c C E hc e1 _ => ⟨c, E, hhasW c hc, e1⟩⟩
  · intro c o' hc
    by_cases e : b = c
    · subst e
      rw [Tr.get_set_eq _ _ _ _ hbig] at hc
      cases hc
      exact ⟨B, D, O', hb, hB, ho⟩
    · have hc' := hc
      rw [Tr.get_set_ne _ _ _ _ _ e] at hc
      obtain ⟨C, D', O, h1, h2, h3⟩ := h.obj c o' hc
      refine ⟨C, D', O, h1, ?_, h3⟩
      rw [hx C (fun eC => ?_)]
      · exact h2
      · subst eC
        exact e (h.inj b c C D D' hS.has ⟨o', hc⟩ (.inl hS) hb h1)
  · intro c c' C E E' hc hc' hw e1 e2
    exact h.inj c c' C E E' (hhas c hc) (hhas c' hc') (hw.imp (hhasW c) (hhasW c')) e1 e2
  · intro x hx' hn
    exact hx x (fun e => hn b D hS (by rw [e]; exact hb))
  · intro c C E hc e1 _
    exact ⟨c, E, hhas c hc, e1⟩

/-- A new block is made. -/
theorem Stp.fresh (h : Rel ρ S w) {O : Obj} {o : CObj} {w' : World} {ρ' : Ren} {heap' : Tr CObj} {nk' : Nat} (hh : w'.heap = w.heap.push O) (h1 : w'.os = w.os) (h2 : w'.tape = w.tape) (h3 : w'.output = w.output)
    (hle : ρ.Le ρ') (hb : ρ'.b S.next = some (w.heap.size, 0)) (hbo : ∀ i, i ≠ S.next → ρ'.b i = ρ.b i) (hk : S.nk ≤ nk') (hkf : ∀ i, nk' ≤ i → ρ'.k i = none)
    (ho : ObjRel ρ' 0 o O) (hnew : heap'.get S.next = some o) (hold : ∀ b, b ≠ S.next → ∀ o', heap'.get b = some o' → S.heap.get b = some o') :
    Stp ρ S w ρ' ⟨heap', S.next + 1, nk'⟩ w' := by
  have hblt : ∀ b o', S.heap.get b = some o' → ∀ B D, ρ.b b = some (B, D) → B < w.heap.size := by
    intro b o' hbo B D e
    obtain ⟨C, E, O, e1, e2, _⟩ := h.obj b o' hbo
    rw [e] at e1
    cases e1
    exact (Array.getElem?_eq_some_iff.1 e2).1
  refine ⟨hle, ⟨?_, ?_, ?_, hkf⟩, by simp, hk, ?_, by rw [hh]; simp, ?_, h1, h2, h3, fun b hb => hbo b (by omega), ?_⟩
  · intro b o' hbo'
    by_cases e : b = S.next
    · subst e
      have : heap'.get S.next = some o' := hbo'
      rw [hnew] at this
      cases this
      exact ⟨_, 0, O, hb, by rw [hh]; simp, ho⟩
    · have hS := hold b e o' hbo'
      obtain ⟨B, D, O', e1, e2, e3⟩ := h.obj b o' hS
      refine ⟨B, D, O', hle.b _ _ e1, ?_, e3.mono hle⟩
      have := hblt b o' hS B D e1
      rw [hh, Array.getElem?_push_lt this, Array.getElem?_eq_getElem this] at *
      exact e2
  · rintro b b' B D D' ⟨o1, hb1⟩ ⟨o2, hb2⟩ hw e1 e2
    by_cases i1 : b = S.next <;> by_cases i2 : b' = S.next
    · rw [i1, i2]
    · subst i1
      rw [hb] at e1
      cases e1
      rw [hbo _ i2] at e2
      have := hblt b' o2 (hold b' i2 o2 hb2) _ _ e2
      omega
    · subst i2
      rw [hb] at e2
      cases e2
      rw [hbo _ i1] at e1
      have := hblt b o1 (hold b i1 o1 hb1) _ _ e1
      omega
    · rw [hbo _ i1] at e1
      rw [hbo _ i2] at e2
      exact h.inj b b' B D D' ⟨o1, hold b i1 o1 hb1⟩ ⟨o2, hold b' i2 o2 hb2⟩ (hw.imp (fun ⟨o, g, g'⟩ => ⟨o, hold b i1 o g, g'⟩) (fun ⟨o, g, g'⟩ => ⟨o, hold b' i2 o g, g'⟩)) e1 e2
  · intro b hb'
    have hb' : S.next + 1 ≤ b := hb'
    rw [hbo b (by omega)]
    exact h.fresh b (by omega)
  · intro x hx hn
    rw [hh, Array.getElem?_push_lt hx, Array.getElem?_eq_getElem hx]
  · rintro b B D ⟨o1, hb1⟩ e1 hB
    by_cases i1 : b = S.next
    · subst i1
      rw [hb] at e1
      cases e1
      omega
    · rw [hbo _ i1] at e1
      exact ⟨b, D, ⟨o1, hold b i1 o1 hb1⟩, e1⟩
  · rintro b B D ⟨o1, hb1, hw⟩ e1 hB
    by_cases i1 : b = S.next
    · subst i1
      rw [hb] at e1
      cases e1
      omega
    · rw [hbo _ i1] at e1
      exact ⟨b, D, ⟨o1, hold b i1 o1 hb1, hw⟩, e1⟩

/-- A row grows where it is; it gets a new name. -/
theorem Stp.moved (h : Rel ρ S w) {b B D D' : Nat} {o : CObj} {O' : Obj} {w' : World} {ρ' : Ren} {heap' : Tr CObj} {nk' : Nat} (hS : S.hasW b) (hbB : ρ.b b = some (B, D))
    (hB : w'.heap[B]? = some O') (hx : ∀ k, k ≠ B → w'.heap[k]? = w.heap[k]?) (hs : w'.heap.size = w.heap.size) (h1 : w'.os = w.os) (h2 : w'.tape = w.tape) (h3 : w'.output = w.output)
    (hle : ρ.Le ρ') (hb : ρ'.b S.next = some (B, D')) (hbo : ∀ i, i ≠ S.next → ρ'.b i = ρ.b i) (hk : S.nk ≤ nk') (hkf : ∀ i, nk' ≤ i → ρ'.k i = none)
    (ho : ObjRel ρ' D' o O') (hnew : heap'.get S.next = some o) (hold : ∀ c, c ≠ S.next → ∀ o', heap'.get c = some o' → S.heap.get c = some o' ∧ c ≠ b) :
    Stp ρ S w ρ' ⟨heap', S.next + 1, nk'⟩ w' := by
  refine ⟨hle, ⟨?_, ?_, ?_, hkf⟩, by simp, hk, ?_, by omega, ?_, h1, h2, h3, fun b hb => hbo b (by omega), ?_⟩
  · intro c o' hc
    by_cases e : c = S.next
    · subst e
      have : heap'.get S.next = some o' := hc
      rw [hnew] at this
      cases this
      exact ⟨_, _, O', hb, hB, ho⟩
    · obtain ⟨hc', hcb⟩ := hold c e o' hc
      obtain ⟨C, E, O, e1, e2, e3⟩ := h.obj c o' hc'
      refine ⟨C, E, O, hle.b _ _ e1, ?_, e3.mono hle⟩
      rw [hx C (fun eC => ?_)]
      · exact e2
      · subst eC
        exact hcb (h.inj c b C E D ⟨o', hc'⟩ hS.has (.inr hS) e1 hbB)
  · rintro c c' C E E' ⟨o1, hb1⟩ ⟨o2, hb2⟩ hw e1 e2
    by_cases i1 : c = S.next <;> by_cases i2 : c' = S.next
    · rw [i1, i2]
    · subst i1
      rw [hb] at e1
      cases e1
      rw [hbo _ i2] at e2
      obtain ⟨hc', hcb⟩ := hold c' i2 o2 hb2
      exact absurd (h.inj c' b B E' D ⟨o2, hc'⟩ hS.has (.inr hS) e2 hbB) hcb
    · subst i2
      rw [hb] at e2
      cases e2
      rw [hbo _ i1] at e1
      obtain ⟨hc', hcb⟩ := hold c i1 o1 hb1
      exact absurd (h.inj c b B E D ⟨o1, hc'⟩ hS.has (.inr hS) e1 hbB) hcb
    · rw [hbo _ i1] at e1
      rw [hbo _ i2] at e2
      exact h.inj c c' C E E' ⟨o1, (hold c i1 o1 hb1).1⟩ ⟨o2, (hold c' i2 o2 hb2).1⟩ (hw.imp (fun ⟨o, g, g'⟩ => ⟨o, (hold c i1 o g).1, g'⟩) (fun ⟨o, g, g'⟩ => ⟨o, (hold c' i2 o g).1, g'⟩)) e1 e2
  · intro c hc
    have hc : S.next + 1 ≤ c := hc
    rw [hbo c (by omega)]
    exact h.fresh c (by omega)
  · intro x hx' hn
    exact hx x (fun e => hn b D hS (by rw [e]; exact hbB))
  · rintro c C E ⟨o1, hb1⟩ e1 hC
    by_cases i1 : c = S.next
    · subst i1
      rw [hb] at e1
      cases e1
      exact ⟨b, D, hS.has, hbB⟩
    · rw [hbo _ i1] at e1
      exact ⟨c, E, ⟨o1, (hold c i1 o1 hb1).1⟩, e1⟩
  · rintro c C E ⟨o1, hb1, hw⟩ e1 hC
    by_cases i1 : c = S.next
    · subst i1
      rw [hb] at e1
      cases e1
      exact ⟨b, D, hS, hbB⟩
    · rw [hbo _ i1] at e1
      exact ⟨c, E, ⟨o1, (hold c i1 o1 hb1).1, hw⟩, e1⟩
end

/-! ### Cells written one by one -/

theorem setCells_row {B : Nat} {t : TypeId} {fz : Nat × Nat} : ∀ (vs : List Value) (o : Nat) (w : World) (cs : Array Value), w.heap[B]? = some (.cells cs t fz) →
    ∃ cs', (w.setCells B o vs).heap[B]? = some (.cells cs' t fz) ∧ cs'.size = cs.size ∧ (∀ j, j < o ∨ o + vs.length ≤ j → cs'[j]? = cs[j]?) ∧ (∀ j, j < vs.length → o + j < cs.size → cs'[o + j]? = vs[j]?)
  | [], o, w, cs, h => ⟨cs, h, rfl, fun _ _ => rfl, fun j hj => by simp at hj⟩
  | v :: vs, o, w, cs, h => by
    have h' : (w.setCell ⟨B, o, none⟩ v).heap[B]? = some (.cells (cs.setIfInBounds o v) t fz) := by
      simp [World.setCell, Array.getElem?_modify, h]
    obtain ⟨cs', e1, e2, e3, e4⟩ := setCells_row vs (o + 1) _ _ h'
    refine ⟨cs', e1, by simpa using e2, fun j hj => ?_, fun j hj hj' => ?_⟩
    · simp only [List.length_cons] at hj
      rw [e3 j (by omega), Array.getElem?_setIfInBounds_ne (by omega)]
    · cases j with
      | zero =>
        rw [e3 (o + 0) (by omega)]
        simp only [Nat.add_zero, List.getElem?_cons_zero]
        rw [Array.getElem?_setIfInBounds_self_of_lt (by omega)]
      | succ j =>
        have := e4 j (by simpa using hj) (by simp; omega)
        rw [show o + 1 + j = o + (j + 1) by omega] at this
        simpa using this

theorem setCells_other {B k : Nat} (h : k ≠ B) : ∀ (vs : List Value) (o : Nat) (w : World), (w.setCells B o vs).heap[k]? = w.heap[k]?
  | [], _, _ => rfl
  | v :: vs, o, w => by
    rw [World.setCells, setCells_other h vs]
    simp [World.setCell, Array.getElem?_modify, Ne.symm h]

theorem setCells_size {B : Nat} : ∀ (vs : List Value) (o : Nat) (w : World), (w.setCells B o vs).heap.size = w.heap.size
  | [], _, _ => rfl
  | v :: vs, o, w => by rw [World.setCells, setCells_size vs]; simp

theorem setCells_rest {B : Nat} : ∀ (vs : List Value) (o : Nat) (w : World), (w.setCells B o vs).os = w.os ∧ (w.setCells B o vs).tape = w.tape ∧ (w.setCells B o vs).output = w.output
  | [], _, _ => ⟨rfl, rfl, rfl⟩
  | v :: vs, o, w => by rw [World.setCells]; exact setCells_rest vs _ _

theorem plain_one {ρ : Ren} : ∀ {vs : List CV} {L : List Value}, plainCells vs = true → reals ρ vs = some L → ∀ v ∈ L, v.oneCell' = true
  | [], L, _, h, v, hv => by simp [reals] at h; subst h; cases hv
  | u :: vs, L, hp, h, v, hv => by
    simp only [reals, Option.bind_eq_some_iff, Option.map_eq_some_iff] at h
    obtain ⟨U, hU, L', hL', rfl⟩ := h
    have hp' : plainCells vs = true := by cases u <;> simp_all [plainCells]
    rcases List.mem_cons.1 hv with rfl | hv
    · cases u <;> simp only [plainCells, Bool.false_eq_true] at hp <;> simp only [real, Option.some.injEq, Option.map_eq_some_iff, Option.bind_eq_some_iff] at hU
      all_goals (first | (subst hU; rfl) | (obtain ⟨_, _, rfl⟩ := hU; rfl) | (obtain ⟨a, _, rfl⟩ := hU; cases a <;> rfl) | (obtain ⟨_, _, _, _, rfl⟩ := hU; rfl))
    · exact plain_one hp' hL' v hv

section
variable {P : Program} {ρ : Ren} {S : St} {w : World}

/-- A store. -/
theorem storeN_run (h : Rel ρ S w) {b o : Nat} {vs : List CV} {L : List Value} {S' : St} (hs : storeN S b o vs = some S') (hv : reals ρ vs = some L) (hp : plainCells vs = true) :
    ∃ B D, ρ.b b = some (B, D) ∧ (∀ w' : World, w'.heap = w.heap → (storeCells ⟨B, o + D, none⟩ L).run P w' = .ok () (w'.setCells B (o + D) L)) ∧ Stp ρ S w ρ S' (w.setCells B (o + D) L) := by
  obtain ⟨hp0, nx, nk⟩ := S
  simp only [storeN] at hs
  split at hs
  · rename_i c sh hi id sz ty hb
    cases hc : (Nat.ble (o + vs.length) hi && Nat.blt (hi + sh) lim && Nat.blt b lim) with
    | false => rw [hc] at hs; cases hs
    | true =>
      rw [hc, cond_true] at hs
      cases hs
      simp only [Bool.and_eq_true] at hc
      obtain ⟨⟨hc1, hc2⟩, hc3⟩ := hc
      have hc1 := ble_of hc1
      have hc2 := blt_of hc2
      have hc3 := blt_of hc3
      have hlen := reals_length hv
      obtain ⟨B, D, O, h1, h2, h3⟩ := h.obj b _ hb
      cases O with
      | cells cs t fz =>
        obtain ⟨h3, h4, h5⟩ := h3
        refine ⟨B, D, h1, fun w' hw' => ?_, ?_⟩
        · have hcell : ∀ j, j < L.length → (w'.cell? ⟨B, o + D + 0 + j, none⟩).isSome = true ∧ w'.frozen? ⟨B, o + D + 0 + j, none⟩ = false := by
            intro j hj
            obtain ⟨v, V, _, _, e3, e4⟩ := h3 (o + j) (by omega)
            have e4 := e4 rfl
            have e5 : o + D + 0 + j = o + j + D := by omega
            rw [e5]
            refine ⟨by simp [World.cell?, hw', h2, e3], ?_⟩
            obtain ⟨lo, up⟩ := fz
            simp only [World.frozen?, hw', h2]
            simp only [not_and] at e4
            by_cases hl : lo ≤ o + j + D
            · have := e4 hl
              simp [hl]; omega
            · simp [hl]
          have := run_storeCells_cells (P := P) B (o + D) L 0 w' (fun j hj => (hcell j hj).1) (fun j hj => (hcell j hj).2) (plain_one hp hv)
          simpa using this
        · obtain ⟨cs', e1, e2, e3, e4⟩ := setCells_row L (o + D) w cs h2
          obtain ⟨g1, g2, g3⟩ := setCells_rest (B := B) L (o + D) w
          refine Stp.write h ⟨_, hb, rfl⟩ h1 hc3 e1 ?_ (fun k hk => setCells_other hk L _ w) (setCells_size L _ w) g1 g2 g3
          refine ⟨fun i hi' => ?_, ?_, h5⟩
          · obtain ⟨v, V, a1, a2, a3, a4⟩ := h3 i hi'
            have hsz : i + D < cs.size := (Array.getElem?_eq_some_iff.1 a3).1
            have hg := lay_get vs c (o + sh) (i + sh) (by unfold lim at hc2; omega)
            by_cases hin : o ≤ i ∧ i < o + vs.length
            · rw [if_pos (by omega), show i + sh - (o + sh) = i - o by omega] at hg
              obtain ⟨u, hu⟩ : ∃ u, vs[i - o]? = some u := ⟨vs[i - o]'(by omega), List.getElem?_eq_getElem (by omega)⟩
              obtain ⟨U, hU, hU'⟩ := reals_get hv _ _ hu
              refine ⟨u, U, by rw [hg, hu], hU, ?_, a4⟩
              have := e4 (i - o) (by omega) (by omega)
              rw [show o + D + (i - o) = i + D by omega, hU'] at this
              exact this
            · rw [if_neg (by omega)] at hg
              exact ⟨v, V, by rw [hg, a1], a2, by rw [e3 _ (by omega)]; exact a3, a4⟩
          · rcases h4 with h4 | ⟨hz, x, hx, h4⟩
            · exact .inl h4
            · refine .inr ⟨hz, x, hx, fun j hj => ?_⟩
              obtain ⟨⟨V, hV⟩, hf⟩ := h4 j hj
              exact ⟨⟨V, by rw [e3 _ (by omega)]; exact hV⟩, hf⟩
      | _ => exact h3.elim
  · cases hs
end

end Go.Ev

namespace Go.Ev

/-- A deferred call that does nothing where there is no panic. -/
def IdleD (P : Program) (d : Deferred) : Prop :=
  ∃ fv cap f args, d.target = .fn fv cap ∧ (∀ w, (invoke d.target d.args).run P w = .ok (.enter f args) w) ∧ ∀ w, CallsD P f args .returning w fun e u' w' => (∃ v, e = .returned v) ∧ u' = .returning ∧ w' = w

/-- More deferred calls, all idle. -/
def IdleExt (P : Program) (l l' : List Deferred) : Prop := ∃ m, l' = m ++ l ∧ ∀ d, d ∈ m → IdleD P d

theorem IdleExt.refl {P : Program} (l : List Deferred) : IdleExt P l l := ⟨[], rfl, fun d h => by cases h⟩
theorem IdleExt.of {P : Program} {l l' : List Deferred} (h : l' = l) : IdleExt P l l' := by subst h; exact .refl _
theorem IdleExt.trans {P : Program} {l l' l'' : List Deferred} (h : IdleExt P l l') (h' : IdleExt P l' l'') : IdleExt P l l'' := by
  obtain ⟨m, rfl, hm⟩ := h
  obtain ⟨m', rfl, hm'⟩ := h'
  refine ⟨m' ++ m, by simp, fun d hd => ?_⟩
  rcases List.mem_append.1 hd with h | h
  · exact hm' d h
  · exact hm d h
theorem IdleExt.cons {P : Program} {l : List Deferred} {d : Deferred} (h : IdleD P d) : IdleExt P l (d :: l) := ⟨[d], rfl, fun e he => by simp at he; subst he; exact h⟩

/-- An operation that changes the state. -/
def ChainOK (P : Program) (o : Oper) (f : Tm → St → Option (ORes × St)) : Prop :=
  ∀ (ρ : Ren) (nt : Nat) (tm : Tm) (a : Act) (r : ORes) (S S' : St) (w : World), FrRel ρ nt tm a → Glob P ρ → Rel ρ S w → f tm S = some (r, S') →
    match r with
    | .val v => ∃ ρ' w' V, Stp ρ S w ρ' S' w' ∧ real ρ' v = some V ∧ (execOp a.eval o).run P w = .ok (.value V) w'
    | .undef => ∃ ρ' w', Stp ρ S w ρ' S' w' ∧ ((execOp a.eval o).run P w = .ok .skip w' ∨ ∃ d, IdleD P d ∧ (execOp a.eval o).run P w = .ok (.defer d) w')
    | .call f args => S' = S ∧ ∃ L, reals ρ args = some L ∧ (execOp a.eval o).run P w = (callFunc f L.toArray).run P w

section
variable {P : Program} {o : Oper}

theorem chain_store {t : TypeId} {x y : Operand} {i : TyE} (ht : tyOf P t = some i) (ho : o.op = .store t x y) : ChainOK P o (storeR i.size (opd P x) (opd P y)) := by
  intro ρ nt tm a r S S' w hf hg hr h
  unfold storeR at h
  split at h
  · rename_i p v hp hv
    have hp := opd_real hf hg x p hp
    have hv := opd_real hf hg y v hv
    cases hs : storeC i.size p v S with
    | none => rw [hs] at h; simp [unitO] at h
    | some S1 =>
      rw [hs] at h
      simp only [unitO, Option.some.injEq, Prod.mk.injEq] at h
      obtain ⟨rfl, rfl⟩ := h
      unfold storeC at hs
      split at hs
      · rename_i b off
        cases hc : (Nat.beq v.cells.length i.size && plainCells v.cells) with
        | false => rw [hc] at hs; cases hs
        | true =>
          rw [hc, cond_true] at hs
          simp only [Bool.and_eq_true] at hc
          have hlen := beq_of hc.1
          have hcr := cells_real hv
          have hl2 := reals_length hcr
          obtain ⟨B, D, h1, h2, h3⟩ := storeN_run (P := P) hr hs hcr hc.2
          simp only [real, h1, Option.map_some, Option.some.injEq] at hp
          refine ⟨ρ, _, h3, .inl ?_⟩
          have h2 := h2 w rfl
          have hsz : (a.eval y).cells.size = i.size := by rw [← hlen, ← hl2, Array.length_toList]
          simp [execOp, ho, Instr.storeAt, Instr.sureAddr, ← hp, storeVar, run_sizeOf' ht w, hsz, h2]
      · cases hs
  · cases h

/-! Maps. -/

theorem one_bits {ρ : Ren} {k : CV} {K : Value} (hp : (∃ d, plainOne d k = true) ∨ ∃ e, plainCell e k = true) (hK : real ρ k = some K) (n : Nat) : Instr.sameBits n K K = true := by
  cases k with
  | bool b => simp only [real, Option.some.injEq] at hK; subst hK; simp [Instr.sameBits]
  | int q m => simp only [real, Option.some.injEq] at hK; subst hK; simp [Instr.sameBits]
  | str t =>
    simp only [real, Option.some.injEq] at hK
    subst hK
    simp only [Instr.sameBits]
    rw [bytes_beq]
    simp
  | _ => rcases hp with ⟨d, hp⟩ | ⟨e, hp⟩ <;> first | (cases d <;> simp [plainOne] at hp; done) | (cases e <;> simp [plainCell] at hp; done)

theorem cells_bits {ρ : Ren} (n : Nat) : ∀ (l : List (Nat × Nat × Bool × EqT)) (i : Nat) (xs : List CV) (L : List Value), plainParts i l xs = true → reals ρ xs = some L → (L.zip L).all (fun (x, y) => Instr.sameBits n x y) = true
  | [], i, [], L, _, h => by
    simp only [reals, Option.some.injEq] at h
    subst h
    rfl
  | [], i, x :: xs, L, hp, h => by simp [plainParts] at hp
  | _ :: _, i, [], L, hp, h => by simp [plainParts] at hp
  | (o, s, g, e) :: l, i, x :: xs, L, hp, h => by
    simp only [plainParts, Bool.and_eq_true] at hp
    simp only [reals, Option.bind_eq_some_iff, Option.map_eq_some_iff] at h
    obtain ⟨X, hX, LX, hLX, rfl⟩ := h
    simp only [List.zip_cons_cons, List.all_cons, Bool.and_eq_true]
    exact ⟨one_bits (.inr ⟨e, hp.1.2⟩) hX n, cells_bits n l (i + 1) xs LX hp.2 hLX⟩

theorem keyEq_bits {ρ : Ren} {q : KeyT} {k k' : CV} {K K' : Value} (hp : plainKey q k = true) (h : keyEq k k' = some true) (hK : real ρ k = some K) (hK' : real ρ k' = some K') :
    Instr.sameBits 10000 K' K = true := by
  obtain rfl := keyEq_eq h
  rw [hK] at hK'
  cases hK'
  cases q with
  | one d => exact one_bits (.inl ⟨d, hp⟩) hK 10000
  | parts l =>
    cases k <;> simp only [plainKey, Bool.false_eq_true] at hp
    rename_i xs
    simp only [real, Option.map_eq_some_iff] at hK
    obtain ⟨LX, hX, rfl⟩ := hK
    have := cells_bits 9999 l 0 xs LX hp hX
    simp only [Instr.sameBits, Bool.and_eq_true]
    exact ⟨by simp, by simpa using this⟩
  | no => simp [plainKey] at hp

theorem Ents.cons {ρ : Ren} {e : CV × CV × Nat} {es : List (CV × CV × Nat)} {e' : Value × Value × Nat} {l : List (Value × Value × Nat)} (h : Ents ρ es l)
    (h1 : real ρ e.1 = some e'.1) (h2 : real ρ e.2.1 = some e'.2.1) (h3 : e.2.2 = e'.2.2) : Ents ρ (e :: es) (e' :: l) := by
  refine ⟨by simp [h.1], fun i x hx => ?_⟩
  cases i with
  | zero =>
    simp only [List.getElem?_cons_zero, Option.some.injEq] at hx
    subst hx
    exact ⟨e', by simp, h1, h2, h3⟩
  | succ i => simpa using h.2 i x (by simpa using hx)

theorem upd_run {ρ : Ren} {kt : TypeId} {ki : TyE} (hk : tyOf P kt = some ki) {k v : CV} {K V : Value} (hp : plainKey (keyTy P kt ki.desc) k = true) (hK : real ρ k = some K) (hV : real ρ v = some V) : ∀ (es : List (CV × CV × Nat)) (l : List (Value × Value × Nat)) (u : CV),
    find k es = some (some u) → Ents ρ es l →
    ∃ i U e', l[i]? = some e' ∧ HitAt P kt ki.desc K (l.map entryOf) i U ∧ Instr.sameBits 10000 e'.1 K = true ∧ Ents ρ (upd k v es) (l.set i (K, V, e'.2.2))
  | [], l, u, h, he => by simp [find] at h
  | (k', v', b) :: es, l, u, h, he => by
    obtain ⟨e', l', rfl, a1, a2, a3, he'⟩ := he.tail
    simp only [find] at h
    split at h
    · rename_i hq
      refine ⟨0, e'.2.1, e', rfl, HitAt.zero (x := entryOf e') (keyEq_some hk hp hq hK a1), keyEq_bits hp hq hK a1, ?_⟩
      simp only [upd, hq, List.set_cons_zero]
      exact he'.cons hK hV a3
    · rename_i hq
      obtain ⟨i, U, e2, b1, b2, b3, b4⟩ := upd_run hk hp hK hV es l' u h he'
      refine ⟨i + 1, U, e2, by simpa using b1, HitAt.succ (y := entryOf e') (keyEq_some hk hp hq hK a1) b2, b3, ?_⟩
      simp only [upd, hq, List.set_cons_succ]
      exact b4.cons a1 a2 a3
    · cases h

theorem Ents.push {ρ : Ren} {k v : CV} {K V : Value} (hK : real ρ k = some K) (hV : real ρ v = some V) (n : Nat) : ∀ {es : List (CV × CV × Nat)} {l : List (Value × Value × Nat)}, Ents ρ es l → Ents ρ (es ++ [(k, v, n)]) (l ++ [(K, V, n)])
  | [], l, h => by
    have : l = [] := List.length_eq_zero_iff.1 h.1
    subst this
    exact Ents.cons (by simpa using h) hK hV rfl
  | e :: es, l, h => by
    obtain ⟨e', l', rfl, a1, a2, a3, he'⟩ := h.tail
    exact (Ents.push hK hV n he').cons a1 a2 a3

theorem Ents.obj {ρ : Ren} {es : List (CV × CV × Nat)} {l : List (Value × Value × Nat)} (h : Ents ρ es l) (clock : Nat) : ObjRel ρ 0 (.map es clock) (.map (l.map entryOf).toArray clock) :=
  ⟨rfl, rfl, l, by simp [entryOf], h.1, h.2⟩

theorem run_setMap {w : World} {R : Nat} {es es' : Array MapEntry} {clock clock' : Nat} (h : w.heap[R]? = some (.map es clock)) :
    (setObj R (.map es' clock')).run P w = .ok () { w with heap := w.heap.setIfInBounds R (.map es' clock') } := by
  simp [setObj, Sem.run, h]

theorem Stp.setObj {ρ : Ren} {S : St} {w : World} (h : Rel ρ S w) {b R : Nat} {o o' : CObj} {O O' : Obj} (hS : S.heap.get b = some o) (hb : ρ.b b = some (R, 0)) (hlt : b < lim) (hR : w.heap[R]? = some O) (ho : ObjRel ρ 0 o' O') (hw : o.wr = true := by rfl) :
    Stp ρ S w ρ ⟨S.heap.set big b (some o'), S.next, S.nk⟩ { w with heap := w.heap.setIfInBounds R O' } := by
  have hlt' := (Array.getElem?_eq_some_iff.1 hR).1
  refine Stp.write h ⟨o, hS, hw⟩ hb hlt ?_ ho (fun k hk => ?_) (by simp) rfl rfl rfl
  · show (w.heap.setIfInBounds R O')[R]? = _
    rw [Array.getElem?_setIfInBounds_self_of_lt hlt']
  · show (w.heap.setIfInBounds R O')[k]? = _
    rw [Array.getElem?_setIfInBounds_ne (Ne.symm hk)]

theorem chain_mapUpdate {t : TypeId} {m k x : Operand} {i : TyE} {kt et : TypeId} {ki : TyE} (ht : tyOf P t = some i) (hi : i.desc = .map kt et) (hk : tyOf P kt = some ki)
    (ho : o.op = .mapUpdate t m k x ∨ o.op = .insert t m k x) : ChainOK P o (mapUpdateR (keyTy P kt ki.desc) (opd P m) (opd P k) (opd P x)) := by
  intro ρ nt tm a r S S' w hf hg hr h
  obtain ⟨hp0, nx, nk⟩ := S
  unfold mapUpdateR at h
  split at h
  · rename_i m' k' v hm hq hv
    have hm := opd_real hf hg m m' hm
    have hq := opd_real hf hg k k' hq
    have hv := opd_real hf hg x v hv
    cases hs : mapUpdateC (keyTy P kt ki.desc) m' k' v ⟨hp0, nx, nk⟩ with
    | none => rw [hs] at h; simp [unitO] at h
    | some S1 =>
      rw [hs] at h
      simp only [unitO, Option.some.injEq, Prod.mk.injEq] at h
      obtain ⟨rfl, rfl⟩ := h
      unfold mapUpdateC at hs
      cases hp : plainKey (keyTy P kt ki.desc) k' with
      | false => rw [hp] at hs; cases hs
      | true =>
        rw [hp, cond_true] at hs
        have hun := run_underlying' ht w
        rw [hi] at hun
        have hex : (execOp a.eval o).run P w = ((Instr.mapUpdate t (a.eval m) (a.eval k) (a.eval x)).run P w).andThen (fun _ w' => .ok .skip w') := by
          rcases ho with ho | ho <;> simp [execOp, ho]
        obtain ⟨R0, rfl⟩ : ∃ r, m' = .map r := by cases m' <;> first | exact ⟨_, rfl⟩ | cases hs
        · simp only at hs
          split at hs
          · rename_i es clock hes
            obtain ⟨R, l, e1, e2, e3⟩ := map_obj hr.has hes
            simp only [real, e1, Option.map_some, Option.some.injEq] at hm
            have hun' := run_underlying' hk w
            split at hs
            · -- there is one
              rename_i u hfound
              cases hlt : Nat.blt R0 lim with
              | false => rw [hlt] at hs; cases hs
              | true =>
                rw [hlt, cond_true] at hs
                cases hs
                obtain ⟨j, U, e', b1, b2, b3, b4⟩ := upd_run hk hp hq hv es l u hfound e3
                have b2 := b2.run (fun w => run_underlying' (P := P) hk w) w
                refine ⟨ρ, _, Stp.setObj hr hes e1 (blt_of hlt) e2 (b4.obj clock), .inl ?_⟩
                have hmod : ((l.map entryOf).toArray.modify j fun e => { e with key := a.eval k, val := a.eval x }) = ((l.set j (a.eval k, a.eval x, e'.2.2)).map entryOf).toArray := by
                  apply Array.ext'
                  apply List.ext_getElem?
                  intro q
                  rw [Array.toList_modify, List.getElem?_modify, List.getElem?_map, List.getElem?_map, List.getElem?_set]
                  by_cases hjq : j = q
                  · subst hjq
                    have hlt := (List.getElem?_eq_some_iff.1 b1).1
                    rw [if_pos rfl, if_pos hlt, b1]
                    simp [entryOf]
                  · rw [if_neg hjq]
                    cases l[q]? <;> simp [hjq]
                have hke : ((((l.map entryOf).toArray[j]?).map (·.key)).getD (a.eval k)) = e'.1 := by simp [b1, entryOf]
                rw [hex]
                simp only [Instr.mapUpdate, Sem.run_bind, hun, Result.andThen_ok, ← hm, run_getMap e2, plain_check hk hp hq, List.toList_toArray, b2, Sem.run_pure]
                rw [hke]
                simp only [Instr.keyThatStays, b3, if_true, Sem.run_pure, Result.andThen_ok]
                rw [hmod, run_setMap e2]
                rfl
            · rename_i hfound
              cases hlt : Nat.blt R0 lim with
              | false => rw [hlt] at hs; cases hs
              | true =>
                rw [hlt, cond_true] at hs
                cases hs
                rcases find_run hk hp hq es l none hfound e3 with ⟨_, b2⟩ | ⟨_, _, _, c, _⟩
                · have b2 := b2.run (fun w => run_underlying' (P := P) hk w) w
                  refine ⟨ρ, _, Stp.setObj hr hes e1 (blt_of hlt) e2 ((e3.push hq hv clock).obj (clock + 1)), .inl ?_⟩
                  have hpush : (l.map entryOf).toArray.push { key := a.eval k, val := a.eval x, born := clock } = ((l ++ [(a.eval k, a.eval x, clock)]).map entryOf).toArray := by
                    apply Array.ext'
                    simp [entryOf]
                  rw [hex]
                  simp only [Instr.mapUpdate, Sem.run_bind, hun, Result.andThen_ok, ← hm, run_getMap e2, plain_check hk hp hq, List.toList_toArray, b2, Sem.run_pure]
                  rw [hpush, run_setMap e2]
                  rfl
                · cases c
            · cases hs
          · cases hs
  · cases h

/-! The string's iterator. -/

theorem run_setIter {w : World} {R : Nat} {s s' : ByteArray} {p p' : Nat} (h : w.heap[R]? = some (.stringIter s p)) :
    (setObj R (.stringIter s' p')).run P w = .ok () { w with heap := w.heap.setIfInBounds R (.stringIter s' p') } := by
  simp [setObj, Sem.run, h]

theorem chain_callC {c : Go.Call} {f : Operand} (hc : c.callee = .value f) (ho : o.op = .call c) : ChainOK P o (callC (opd P f) (opds P c.args.toList)) := by
  intro ρ nt tm a r S S' w hf hg hr h
  unfold callC at h
  split at h
  · rename_i g fi ca hq
    have hq := opd_real hf hg f _ hq
    split at h
    · rename_i args hargs
      have hargs := opds_real hf hg _ _ hargs
      cases h
      simp only [real, Option.bind_eq_some_iff, Option.map_eq_some_iff] at hq
      obtain ⟨FI, hFI, CA, hCA, hq⟩ := hq
      refine ⟨rfl, FI ++ c.args.toList.map a.eval ++ CA, ?_, ?_⟩
      · have := reals_append hFI (reals_append hargs hCA)
        rwa [← List.append_assoc, ← List.append_assoc] at this
      · simp only [execOp, ho, resolve, hc, Sem.run_bind, Sem.run_pure, Result.andThen_ok]
        rw [← hq]
        simp only [Deferred.ofValue, Sem.run_pure, Result.andThen_ok, invoke]
        congr 2
        apply Array.ext'
        simp
    · cases h
  · cases h

theorem chain_defer {c : Go.Call} {f : Operand} (hc : c.callee = .value f) (has : c.args.toList = []) (ho : o.op = .defer c) : ChainOK P o (deferR (idleFn P) (opd P f)) := by
  intro ρ nt tm a r S S' w hf hg hr h
  unfold deferR at h
  split at h
  · rename_i g fi ca hq
    have hq := opd_real hf hg f _ hq
    cases hi : idleFn P g with
    | false => rw [hi] at h; cases h
    | true =>
      rw [hi, cond_true] at h
      cases h
      simp only [real, Option.bind_eq_some_iff, Option.map_eq_some_iff] at hq
      obtain ⟨FI, hFI, CA, hCA, hq⟩ := hq
      have has : c.args = #[] := by apply Array.ext'; simpa using has
      have hid := fun args w => (idle_sound (P := P) hi args w).1
      have hen := (idle_sound (P := P) hi #[] w).2
      refine ⟨ρ, w, Stp.refl hr, .inr ⟨{ target := .fn (.func g) CA.toArray, args := FI.toArray ++ c.args.map a.eval }, ⟨.func g, CA.toArray, g, FI.toArray ++ c.args.map a.eval ++ CA.toArray, rfl, fun w => ?_, fun w => hid _ w⟩, ?_⟩⟩
      · simp only [invoke]
        exact hen _ w
      · simp only [execOp, ho, resolve, hc, Sem.run_bind, Sem.run_pure, Result.andThen_ok]
        rw [← hq]
        simp only [Deferred.ofValue, Sem.run_pure, Result.andThen_ok]
  · cases h

end
end Go.Ev

namespace Go.Ev

section
variable {P : Program} {o : Oper}

theorem entry_run {ρ : Ren} {kt : TypeId} {ki : TyE} (hk : tyOf P kt = some ki) {k : CV} {K : Value} (hp : plainKey (keyTy P kt ki.desc) k = true) (hK : real ρ k = some K) : ∀ (es : List (CV × CV × Nat)) (l : List (Value × Value × Nat)) (u : CV),
    find k es = some (some u) → Ents ρ es l →
    ∃ i e', l[i]? = some e' ∧ HitAt P kt ki.desc K (l.map entryOf) i e'.2.1 ∧ real ρ u = some e'.2.1 ∧ Instr.sameBits 10000 e'.1 K = true ∧ e'.2.2 = stampOf k es ∧ Ents ρ (upd k u es) (l.set i (K, e'.2.1, e'.2.2))
  | [], l, u, h, he => by simp [find] at h
  | (k', v', b) :: es, l, u, h, he => by
    obtain ⟨e', l', rfl, a1, a2, a3, he'⟩ := he.tail
    simp only [find] at h
    split at h
    · rename_i hq
      cases h
      refine ⟨0, e', rfl, HitAt.zero (x := entryOf e') (keyEq_some hk hp hq hK a1), a2, keyEq_bits hp hq hK a1, by simp only [stampOf, hq]; exact a3.symm, ?_⟩
      simp only [upd, hq, List.set_cons_zero]
      exact he'.cons hK a2 a3
    · rename_i hq
      obtain ⟨i, e2, b1, b2, b3, b4, b5, b6⟩ := entry_run hk hp hK es l' u h he'
      refine ⟨i + 1, e2, by simpa using b1, HitAt.succ (y := entryOf e') (keyEq_some hk hp hq hK a1) b2, b3, b4, by simp only [stampOf, hq]; exact b5, ?_⟩
      simp only [upd, hq, List.set_cons_succ]
      exact b6.cons a1 a2 a3
    · cases h

theorem stamp_run {ρ : Ren} {v : CV} {V : Value} (hV : real ρ v = some V) {n : Nat} : ∀ (es es' : List (CV × CV × Nat)) (l : List (Value × Value × Nat)),
    setStamp n v es = some es' → Ents ρ es l →
    ∃ i e', l[i]? = some e' ∧ (l.map entryOf).findIdx? (fun e => (e.born : Int) == (n : Int)) = some i ∧ Ents ρ es' (l.set i (e'.1, V, e'.2.2))
  | [], es', l, h, he => by simp [setStamp] at h
  | (k, u, t) :: es, es', l, h, he => by
    obtain ⟨e', l', rfl, a1, a2, a3, he'⟩ := he.tail
    simp only [setStamp] at h
    cases hb : Nat.beq t n with
    | true =>
      rw [hb, cond_true] at h
      cases h
      have := Nat.eq_of_beq_eq_true hb
      subst this
      refine ⟨0, e', rfl, ?_, ?_⟩
      · rw [List.map_cons, List.findIdx?_cons, if_pos (by simp only [entryOf]; rw [← a3]; simp)]
      · simp only [List.set_cons_zero]
        exact he'.cons a1 hV a3
    | false =>
      rw [hb, cond_false] at h
      have hne : t ≠ n := fun e => by rw [e, Nat.beq_refl] at hb; cases hb
      split at h
      · rename_i es2 hs
        cases h
        obtain ⟨i, e2, b1, b2, b3⟩ := stamp_run hV es es2 l' hs he'
        refine ⟨i + 1, e2, by simpa using b1, ?_, ?_⟩
        · rw [List.map_cons, List.findIdx?_cons, if_neg (by simp only [entryOf]; rw [← a3]; simp only [beq_iff_eq]; omega), b2]
          rfl
        · simp only [List.set_cons_succ]
          exact b3.cons a1 a2 a3
      · cases h

theorem chain_mapEntry {t : TypeId} {m k : Operand} {i : TyE} {kt et : TypeId} {ki : TyE} {z : CV} (ht : tyOf P t = some i) (hi : i.desc = .map kt et) (hk : tyOf P kt = some ki) (hz : zeroOf P et = some z)
    (ho : o.op = .mapEntry t m k) : ChainOK P o (mapEntryR (keyTy P kt ki.desc) z (opd P m) (opd P k)) := by
  intro ρ nt tm a r S S' w hf hg hr h
  obtain ⟨hp0, nx, nk⟩ := S
  unfold mapEntryR at h
  split at h
  · rename_i S0 R0 k' h0 nx0 nk0 hm hq hS
    cases hS
    have hm := opd_real hf hg m _ hm
    have hq := opd_real hf hg k k' hq
    cases hp : plainKey (keyTy P kt ki.desc) k' with
    | false => rw [hp] at h; cases h
    | true =>
      rw [hp, cond_true] at h
      have hun := run_underlying' ht w
      rw [hi] at hun
      have hun' := run_underlying' hk w
      obtain ⟨Z, hZ, hZ'⟩ := zeroOf_real hz (ρ := ρ) w
      have hex : (execOp a.eval o).run P w = ((Instr.mapEntry t (a.eval m) (a.eval k)).run P w).andThen (fun V w' => .ok (.value V) w') := by
        simp [execOp, ho]
      split at h
      · rename_i es clock hes
        obtain ⟨R, l, e1, e2, e3⟩ := map_obj hr.has hes
        simp only [real, e1, Option.map_some, Option.some.injEq] at hm
        split at h
        · -- there is one
          rename_i u hfound
          cases hlt : Nat.blt R0 lim with
          | false => rw [hlt] at h; cases h
          | true =>
            rw [hlt, cond_true] at h
            simp only [Option.some.injEq, Prod.mk.injEq] at h
            obtain ⟨rfl, rfl⟩ := h
            obtain ⟨j, e', b1, b2, b3, b4, b5, b6⟩ := entry_run hk hp hq es l u hfound e3
            have b2 := b2.run (fun w => run_underlying' (P := P) hk w) w
            have hmod : ((l.map entryOf).toArray.modify j fun e => { e with key := a.eval k }) = ((l.set j (a.eval k, e'.2.1, e'.2.2)).map entryOf).toArray := by
              apply Array.ext'
              apply List.ext_getElem?
              intro q
              rw [Array.toList_modify, List.getElem?_modify, List.getElem?_map, List.getElem?_map, List.getElem?_set]
              by_cases hjq : j = q
              · subst hjq
                have hlt := (List.getElem?_eq_some_iff.1 b1).1
                rw [if_pos rfl, if_pos hlt, b1]
                simp [entryOf]
              · rw [if_neg hjq]
                cases l[q]? <;> simp [hjq]
            have hke : ((((l.map entryOf).toArray[j]?).map (·.key)).getD (a.eval k)) = e'.1 := by simp [b1, entryOf]
            have hbo : ((((l.map entryOf).toArray[j]?).map (fun x => (x.born : Int))).getD 0) = (e'.2.2 : Int) := by simp [b1, entryOf]
            refine ⟨ρ, _, .tuple #[e'.2.1, .int .i64 (stampOf k' es)], Stp.setObj hr hes e1 (blt_of hlt) e2 (b6.obj clock), by simp [real, reals, b3], ?_⟩
            rw [hex]
            simp only [Instr.mapEntry, Sem.run_bind, hun, Result.andThen_ok, ← hm, run_getMap e2, plain_check hk hp hq, List.toList_toArray, b2, Sem.run_pure]
            rw [hke, hbo]
            simp only [Instr.keyThatStays, b4, if_true, Sem.run_pure, Result.andThen_ok]
            rw [hmod, run_setMap e2]
            simp only [Result.andThen_ok, goInt, b5]
        · rename_i hfound
          cases hlt : Nat.blt R0 lim with
          | false => rw [hlt] at h; cases h
          | true =>
            rw [hlt, cond_true] at h
            simp only [Option.some.injEq, Prod.mk.injEq] at h
            obtain ⟨rfl, rfl⟩ := h
            rcases find_run hk hp hq es l none hfound e3 with ⟨_, b2⟩ | ⟨_, _, _, c, _⟩
            · have b2 := b2.run (fun w => run_underlying' (P := P) hk w) w
              have hpush : (l.map entryOf).toArray.push { key := a.eval k, val := Z, born := clock } = ((l ++ [(a.eval k, Z, clock)]).map entryOf).toArray := by
                apply Array.ext'
                simp [entryOf]
              refine ⟨ρ, _, .tuple #[Z, .int .i64 clock], Stp.setObj hr hes e1 (blt_of hlt) e2 ((e3.push hq hZ' clock).obj (clock + 1)), by simp [real, reals, hZ'], ?_⟩
              rw [hex]
              simp only [Instr.mapEntry, Sem.run_bind, hun, Result.andThen_ok, ← hm, run_getMap e2, plain_check hk hp hq, List.toList_toArray, b2, Sem.run_pure, hZ]
              rw [hpush, run_setMap e2]
              rfl
            · cases c
        · cases h
      · cases h
  · cases h

theorem chain_entryStore {t : TypeId} {m s x : Operand} (ho : o.op = .entryStore t m s x) : ChainOK P o (entryStoreR (opd P m) (opd P s) (opd P x)) := by
  intro ρ nt tm a r S S' w hf hg hr h
  obtain ⟨hp0, nx, nk⟩ := S
  unfold entryStoreR at h
  split at h
  · rename_i S0 R0 kd n v h0 nx0 nk0 hm hq hv hS
    cases hS
    have hm := opd_real hf hg m _ hm
    have hq := opd_real hf hg s _ hq
    have hv := opd_real hf hg x v hv
    simp only [real, Option.some.injEq] at hq
    have hex : (execOp a.eval o).run P w = ((Instr.entryStore t (a.eval m) (a.eval s) (a.eval x)).run P w).andThen (fun _ w' => .ok .skip w') := by
      simp [execOp, ho]
    split at h
    · rename_i es clock hes
      obtain ⟨R, l, e1, e2, e3⟩ := map_obj hr.has hes
      simp only [real, e1, Option.map_some, Option.some.injEq] at hm
      split at h
      · rename_i es' hset
        cases hlt : Nat.blt R0 lim with
        | false => rw [hlt] at h; cases h
        | true =>
          rw [hlt, cond_true] at h
          simp only [Option.some.injEq, Prod.mk.injEq] at h
          obtain ⟨rfl, rfl⟩ := h
          obtain ⟨j, e', b1, b2, b3⟩ := stamp_run hv es es' l hset e3
          have hmod : ((l.map entryOf).toArray.modify j fun e => { e with val := a.eval x }) = ((l.set j (e'.1, a.eval x, e'.2.2)).map entryOf).toArray := by
            apply Array.ext'
            apply List.ext_getElem?
            intro q
            rw [Array.toList_modify, List.getElem?_modify, List.getElem?_map, List.getElem?_map, List.getElem?_set]
            by_cases hjq : j = q
            · subst hjq
              have hlt := (List.getElem?_eq_some_iff.1 b1).1
              rw [if_pos rfl, if_pos hlt, b1]
              simp [entryOf]
            · rw [if_neg hjq]
              cases l[q]? <;> simp [hjq]
          have hfi : (l.map entryOf).toArray.findIdx? (fun e => (e.born : Int) == (Int.ofNat n)) = some j := by
            rw [List.findIdx?_toArray]
            exact b2
          refine ⟨ρ, _, Stp.setObj hr hes e1 (blt_of hlt) e2 (b3.obj clock), .inl ?_⟩
          rw [hex]
          simp only [Instr.entryStore, Sem.run_bind, ← hm, run_getMap e2, Result.andThen_ok, ← hq, asInt, asIntOf, Sem.run_pure]
          rw [hfi]
          simp only
          rw [hmod, run_setMap e2]
          rfl
      · cases h
    · cases h
  · cases h

end
end Go.Ev
