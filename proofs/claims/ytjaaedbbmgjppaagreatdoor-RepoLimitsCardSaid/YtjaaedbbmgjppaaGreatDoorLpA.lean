/-
  States of the evaluator that know less; what a call leaves as it was. Operations by hand: what is known of the frame beside what the evaluator knows. RepoLimits: what the evaluator finds. RepoLimits: the second loop.
-/
import Derived.Test.YtjaaedbbmgjppaaGreatDoorEvT
import Derived.Below
import Derived.Test.YtjaaedbbmgjppaaGreatDoorEvW
set_option linter.all false

namespace Go.Ev
open Go.RowKit

/-- A state that knows less. -/
theorem Rel.weaken {ρ : Ren} {S S2 : St} {w : World} (h : Rel ρ S w) (hh : ∀ b o, S2.heap.get b = some o → S.heap.get b = some o) (hn : S.next ≤ S2.next) (hk : S.nk ≤ S2.nk) : Rel ρ S2 w :=
  ⟨fun b o e => h.obj b o (hh b o e), fun b b' B D D' ⟨o, e⟩ ⟨o', e'⟩ => h.inj b b' B D D' ⟨o, hh b o e⟩ ⟨o', hh b' o' e'⟩,
    fun b hb => h.fresh b (Nat.le_trans hn hb), fun i hi => h.freshk i (Nat.le_trans hk hi)⟩

/-- An object that reads as it did. -/
theorem ObjRel.back {ρ ρ' : Ren} (hle : ρ.Le ρ') {D : Nat} {o : CObj} {O O' : Obj} (h : ObjRel ρ D o O) (h' : ObjRel ρ' D o O') : ObjRel ρ D o O' := by
  have key : ∀ {v : CV} {V V' : Value}, real ρ v = some V → real ρ' v = some V' → real ρ v = some V' := by
    intro v V V' e e'
    rw [real_mono hle _ _ e] at e'
    rw [e, ← e']
  cases o with
  | row cells sh hi wr id sz =>
    cases O with
    | cells c t fz =>
      cases O' with
      | cells c' t' fz' =>
        obtain ⟨a1, a2⟩ := h
        obtain ⟨b1, b2⟩ := h'
        refine ⟨fun i hi' => ?_, ?_⟩
        · obtain ⟨v, V, e1, e2, e3, e4⟩ := a1 i hi'
          obtain ⟨v', V', f1, f2, f3, f4⟩ := b1 i hi'
          rw [e1] at f1
          cases f1
          exact ⟨v, V', e1, key e2 f2, f3, f4⟩
        · rcases a2 with a2 | ⟨hz, x, hx, a2⟩
          · exact .inl a2
          · rcases b2 with b2 | ⟨_, y, hy, b2⟩
            · exact .inl b2
            · rw [hle.k _ _ hx] at hy
              cases hy
              exact .inr ⟨hz, x, hx, b2⟩
      | _ => exact h'.elim
    | _ => exact h.elim
  | map es clock =>
    cases O with
    | map m c =>
      cases O' with
      | map m' c' =>
        obtain ⟨_, _, l0, _, g2, g3⟩ := h
        obtain ⟨hD, h1, l, h2, h3, h4⟩ := h'
        refine ⟨hD, h1, l, h2, h3, fun i e he => ?_⟩
        obtain ⟨e', a, b, c, d⟩ := h4 i e he
        obtain ⟨e'', a', b', c', d'⟩ := g3 i e he
        exact ⟨e', a, key b' b, key c' c, d⟩
      | _ => exact h'.elim
    | _ => exact h.elim
  | siter s pos =>
    cases O' with
    | stringIter s' pos' => exact h'
    | _ => exact h'.elim

/-- What a call over a part of the state leaves as it was. -/
theorem Rel.back {ρ ρ' : Ren} {S U U' : St} {w w' : World} (h : Rel ρ S w) (hU : ∀ b o, U.heap.get b = some o → S.heap.get b = some o) (hs : Stp ρ U w ρ' U' w') (hb : ∀ b o, U.heap.get b = some o → U'.heap.get b = some o) : Rel ρ S w' := by
  refine ⟨fun b o e => ?_, h.inj, h.fresh, h.freshk⟩
  obtain ⟨B, D, O, e1, e2, e3⟩ := h.obj b o e
  by_cases hub : ∃ o2, U.heap.get b = some o2
  · obtain ⟨o2, ho2⟩ := hub
    have := hU b o2 ho2
    rw [e] at this
    cases this
    obtain ⟨B', D', O', f1, f2, f3⟩ := hs.rel.obj b o (hb b o ho2)
    rw [hs.ext.b _ _ e1] at f1
    cases f1
    exact ⟨B, D, O', e1, f2, e3.back hs.ext f3⟩
  · refine ⟨B, D, O, e1, ?_, e3⟩
    have hlt : B < w.heap.size := (Array.getElem?_eq_some_iff.1 e2).1
    rw [hs.keep B hlt (fun b2 D2 ⟨o2, ho2⟩ e' => ?_)]
    · exact e2
    · have := h.inj b b2 B D D2 ⟨o, e⟩ ⟨o2, hU b2 o2 ho2⟩ e1 e'
      subst this
      exact hub ⟨o2, ho2⟩

/-- The state's blocks are the call's own. -/
def Own (N : Nat) (ρ : Ren) (S : St) : Prop := ∀ b B D, S.has b → ρ.b b = some (B, D) → N ≤ B

theorem Own.weaken {N : Nat} {ρ : Ren} {S S2 : St} (h : Own N ρ S) (hh : ∀ b o, S2.heap.get b = some o → S.heap.get b = some o) : Own N ρ S2 :=
  fun b B D ⟨o, e⟩ => h b B D ⟨o, hh b o e⟩

theorem Own.step {N : Nat} {ρ ρ' : Ren} {S S' : St} {w0 w w' : World} (h : Own N ρ S) (hb : Below N w0 w) (hN : N ≤ w.heap.size) (hs : Stp ρ S w ρ' S' w') : Own N ρ' S' ∧ Below N w0 w' := by
  refine ⟨fun b B D hS e => ?_, hb.trans ⟨hs.os, hs.tape, hs.output, hs.size, fun k hk => hs.keep k (by omega) (fun b D hS e => ?_)⟩⟩
  · by_cases hB : B < w.heap.size
    · obtain ⟨b0, D0, h0, e0⟩ := hs.dom b B D hS e hB
      exact h b0 B D0 h0 e0
    · omega
  · have := h b k D hS e
    omega

/-- Where a call stands: what the evaluator knows; the world as it was below N. -/
structure Cfg (P : Program) (w0 : World) (S : St) (ρ : Ren) (w : World) : Prop where
  rel : Rel ρ S w
  glob : Glob P ρ
  own : Own w0.heap.size ρ S
  below : Below w0.heap.size w0 w

theorem Cfg.step {P : Program} {w0 w w' : World} {S S' : St} {ρ ρ' : Ren} (h : Cfg P w0 S ρ w) (hs : Stp ρ S w ρ' S' w') : Cfg P w0 S' ρ' w' := by
  obtain ⟨a, b⟩ := h.own.step h.below h.below.size hs
  exact ⟨hs.rel, h.glob.mono hs.ext, a, b⟩

theorem Cfg.weaken {P : Program} {w0 w : World} {S S2 : St} {ρ : Ren} (h : Cfg P w0 S ρ w) (hh : ∀ b o, S2.heap.get b = some o → S.heap.get b = some o) (hn : S.next ≤ S2.next) (hk : S.nk ≤ S2.nk) : Cfg P w0 S2 ρ w :=
  ⟨h.rel.weaken hh hn hk, h.glob, h.own.weaken hh, h.below⟩

theorem Cfg.back {P : Program} {w0 w w' : World} {S U U' : St} {ρ ρ' : Ren} (h : Cfg P w0 S ρ w) (hU : ∀ b o, U.heap.get b = some o → S.heap.get b = some o) (hs : Stp ρ U w ρ' U' w') (hb : ∀ b o, U.heap.get b = some o → U'.heap.get b = some o) : Cfg P w0 S ρ w' :=
  ⟨h.rel.back hU hs hb, h.glob, h.own, ((h.own.weaken hU).step h.below h.below.size hs).2⟩

section
variable {P : Program}

/-- The first operations of a region. -/
theorem ops_pre {call : Call} (hcall : CallOK P call) {nt : Nat} {ops : Array Oper} {R : Nat} {next : CC} {r : Res} (hr : r ≠ .fail) {Q : Exit → Act → World → Prop} (l2 : List Oper) (k : List Nat) :
    ∀ (l : List Oper) (i : Nat), ops.toList.drop i = l ++ l2 → ∀ (ρ : Ren) (tm : Tm) (S : St) (a : Act) (w : World), At P nt ρ tm S a w → runN R (opsCC P nt ops.toList l next) call tm S = r →
      (∀ ρ' tm' S' a' w', Stp ρ S w ρ' S' w' → At P nt ρ' tm' S' a' w' → a'.defers = a.defers → runN R next call tm' S' = r → wpOps P ops Q k a' w') →
      wpOps P ops Q (List.range' i l.length ++ k) a w
  | [], i, hl, ρ, tm, S, a, w, hat, hrun, hK => by
    simp only [List.length_nil, List.range'_zero, List.nil_append]
    exact hK ρ tm S a w (Stp.refl hat.rel) hat rfl hrun
  | o :: l, i, hl, ρ, tm, S, a, w, hat, hrun, hK => by
    have ho : ops[i]? = some o := by
      have : ops.toList[i]? = some o := by
        have h := congrArg (fun m => m[0]?) hl
        simpa using h
      simpa using this
    have hl' : ops.toList.drop (i + 1) = l ++ l2 := by
      have h := congrArg (List.drop 1) hl
      simpa [List.drop_drop, Nat.add_comm] using h
    simp only [List.length_cons, List.range'_succ, List.cons_append, wpOps, ho]
    simp only [opsCC] at hrun
    split at hrun
    · rename_i d hd
      -- the rest, after a step
      have rest : ∀ (v : CV) (S1 : St), runN R (opsCC P nt ops.toList l next) call (putD d v tm) S1 = r → ∀ ρ' w' V, Stp ρ S w ρ' S1 w' → real ρ' v = some V → wpOps P ops Q (List.range' (i + 1) l.length ++ k) (a.put o.dst V) w' := by
        intro v S1 hrun' ρ' w' V hs hv
        refine ops_pre hcall hr l2 k l (i + 1) hl' ρ' _ S1 _ w' (hat.step hs hd hv) hrun' (fun ρ'' tm'' S'' a'' w'' h1 h2 h3 h4 => ?_)
        exact hK ρ'' tm'' S'' a'' w'' (hs.trans h1) h2 (h3.trans (put_defers _ _ _)) h4
      -- the operation itself
      have run : runN R (opCC (opC P o.op) d (opsCC P nt ops.toList l next)) call tm S = r → o.wp P a w (wpOps P ops Q (List.range' (i + 1) l.length ++ k)) Q := by
        intro hrun
        have hok := opC_ok P o
        cases hc : opC P o.op with
        | bad => rw [hc] at hrun; exact absurd hrun.symm hr
        | pure f =>
          rw [hc] at hrun hok
          simp only [opCC, runN_pure] at hrun
          split at hrun
          · exact absurd hrun.symm hr
          · rename_i v hv
            exact pure_wp hok hv hat.fr hat.glob hat.rel (rest v S hrun)
        | read f =>
          rw [hc] at hrun hok
          simp only [opCC, runN_read] at hrun
          split at hrun
          · exact absurd hrun.symm hr
          · rename_i v hv
            exact read_wp hok hv hat.fr hat.glob hat.rel (rest v S hrun)
        | new f =>
          rw [hc] at hrun hok
          simp only [opCC, runN_new] at hrun
          split at hrun
          · exact absurd hrun.symm hr
          · rename_i obj mk hv
            split at hrun
            · exact absurd hrun.symm hr
            · rename_i b S1 hal
              exact new_wp hok hv hal hat.fr hat.glob hat.rel (rest (mk b) S1 hrun)
        | chain f =>
          rw [hc] at hrun hok
          simp only [opCC, runN_chain] at hrun
          split at hrun
          · exact absurd hrun.symm hr
          · rename_i v S1 hv
            exact chain_wp hok hcall hv hat.fr hat.glob hat.rel (rest v S1 hrun)
      -- whether it is wanted
      cases hg : guC ops.toList o with
      | bad => rw [hg] at hrun; exact absurd hrun.symm hr
      | free =>
        rw [hg] at hrun
        simp only [guCC] at hrun
        have := wanted_of hat.fr (ops := ops) (o := o) (b := true) (by rw [hg]; rfl)
        rw [this, if_pos rfl]
        exact .inl (run hrun)
      | on x want =>
        rw [hg] at hrun
        simp only [guCC, runN_guard] at hrun
        split at hrun
        · exact absurd hrun.symm hr
        · rename_i hw
          have := wanted_of hat.fr (ops := ops) (o := o) (b := true) (by rw [hg]; exact hw)
          rw [this, if_pos rfl]
          exact .inl (run hrun)
        · rename_i hw
          have := wanted_of hat.fr (ops := ops) (o := o) (b := false) (by rw [hg]; exact hw)
          rw [this]
          simp only [Bool.false_eq_true, if_false]
          rw [runN_undef] at hrun
          exact rest nothing S hrun ρ w undef (Stp.refl hat.rel) rfl
    · exact absurd hrun.symm hr

end
end Go.Ev

namespace Go.Ev

theorem FrRel.know {ρ : Ren} {nt : Nat} {tm : Tm} {a : Act} (h : FrRel ρ nt tm a) {t : Nat} (ht : t < 256) {v : CV} {V : Value} (hV : real ρ v = some V) (ha : a.tmps[t]? = some V) : FrRel ρ nt (setT t v tm) a := by
  refine ⟨h.size, fun u x hu e => ?_⟩
  by_cases htu : t = u
  · subst htu
    rw [getT_setT_eq _ _ _ ht] at e
    cases e
    exact ⟨V, hV, ha⟩
  · rw [getT_setT_ne _ _ _ _ ht hu htu] at e
    exact h.val u x hu e

theorem FrRel.nought {ρ : Ren} {nt : Nat} {a : Act} (h : nt ≤ a.tmps.size) : FrRel ρ nt .empty a :=
  ⟨h, fun t v ht e => by rw [getT_empty t ht] at e; cases e⟩

/-- A slot of which nothing is known may be written. -/
theorem FrRel.put_free {ρ : Ren} {nt : Nat} {tm : Tm} {a : Act} (h : FrRel ρ nt tm a) {dst : Option Tmp} (hd : ∀ d, dst = some d → getT d tm = none) (V : Value) : FrRel ρ nt tm (a.put dst V) := by
  cases dst with
  | none => exact h
  | some d =>
    refine ⟨by simpa [Act.put] using h.size, fun t u ht e => ?_⟩
    have hne : (d : Nat) ≠ t := by
      rintro rfl
      rw [hd _ rfl] at e
      cases e
    obtain ⟨U, hU, hU'⟩ := h.val t u ht e
    exact ⟨U, hU, by simp only [Act.put]; rw [Array.getElem?_setIfInBounds_ne hne]; exact hU'⟩

noncomputable def pureF (c : OpC) : Tm → Option CV := match c with
  | .pure f => f
  | _ => fun _ => none

/-- Operations that read nothing, one after the other. -/
noncomputable def runQ (P : Program) (nt : Nat) (all : List Oper) : List Oper → Tm → Option Tm
  | [], tm => some tm
  | o :: l, tm => match wantedC (guC all o) tm, dstOf nt o.dst, opC P o.op with
    | some true, some d, .pure f => (match f tm with
      | some v => runQ P nt all l (putD d v tm)
      | none => none)
    | some false, some d, _ => runQ P nt all l (putD d nothing tm)
    | _, _, _ => none

noncomputable def freeB (tm : Tm) : List Oper → Bool
  | [] => true
  | o :: l => (match o.dst with
    | none => true
    | some d => (match getT d tm with | none => true | some _ => false)) && freeB tm l

theorem freeB_mem {tm : Tm} : ∀ {l : List Oper}, freeB tm l = true → ∀ o ∈ l, ∀ d, o.dst = some d → getT d tm = none
  | [], _, o, ho, _, _ => by cases ho
  | x :: l, h, o, ho, d, e => by
    simp only [freeB, Bool.and_eq_true] at h
    rcases List.mem_cons.1 ho with rfl | ho
    · have h1 := h.1
      rw [e] at h1
      simp only at h1
      split at h1
      · assumption
      · cases h1
    · exact freeB_mem h.2 o ho d e

section
variable {P : Program}

theorem ops_quiet {nt : Nat} {ops : Array Oper} {Q : Exit → Act → World → Prop} {ρ : Ren} {w : World} (hg : Glob P ρ) (l2 : List Oper) (k : List Nat) {tm tmE : Tm} :
    ∀ (l : List Oper) (i : Nat), ops.toList.drop i = l ++ l2 → ∀ (tmx : Tm) (a : Act), FrRel ρ nt tmx a → FrRel ρ nt tm a → (∀ o ∈ l, ∀ d, o.dst = some d → getT d tm = none) → runQ P nt ops.toList l tmx = some tmE →
      (∀ a', FrRel ρ nt tmE a' → FrRel ρ nt tm a' → a'.defers = a.defers → wpOps P ops Q k a' w) →
      wpOps P ops Q (List.range' i l.length ++ k) a w
  | [], i, hl, tmx, a, hx, hf, hd, hrun, hK => by
    simp only [runQ, Option.some.injEq] at hrun
    subst hrun
    exact hK a hx hf rfl
  | o :: l, i, hl, tmx, a, hx, hf, hd, hrun, hK => by
    have ho : ops[i]? = some o := by
      have : ops.toList[i]? = some o := by
        have h := congrArg (fun m => m[0]?) hl
        simpa using h
      simpa using this
    have hl' : ops.toList.drop (i + 1) = l ++ l2 := by
      have h := congrArg (List.drop 1) hl
      simpa [List.drop_drop, Nat.add_comm] using h
    simp only [List.length_cons, List.range'_succ, List.cons_append, wpOps, ho]
    simp only [runQ] at hrun
    have rest : ∀ (v : CV) (V : Value) (d : Dst), dstOf nt o.dst = some d → runQ P nt ops.toList l (putD d v tmx) = some tmE → real ρ v = some V → wpOps P ops Q (List.range' (i + 1) l.length ++ k) (a.put o.dst V) w := by
      intro v V d hdst hrun' hV
      refine ops_quiet hg l2 k l (i + 1) hl' _ _ (hx.put hdst hV) (hf.put_free (fun d e => hd o (List.mem_cons_self ..) d e) V) (fun o' ho' => hd o' (List.mem_cons_of_mem _ ho')) hrun' (fun a' h1 h2 h3 => ?_)
      exact hK a' h1 h2 (h3.trans (put_defers _ _ _))
    split at hrun
    · rename_i d f hw hdst hc
      split at hrun
      · rename_i v hv
        rw [wanted_of hx hw, if_pos rfl]
        have hok := opC_ok P o
        rw [hc] at hok
        refine .inl ?_
        obtain ⟨V, h1, h2⟩ := hok ρ nt tmx a v hx hg hv
        unfold Oper.wp
        rw [h2 w]
        exact rest v V d hdst hrun h1
      · cases hrun
    · rename_i d hw hdst
      rw [wanted_of hx hw]
      simp only [Bool.false_eq_true, if_false]
      exact rest nothing undef d hdst hrun rfl
    · cases hrun

/-- One operation that reads nothing. -/
theorem op_pure {nt : Nat} {ops : Array Oper} {Q : Exit → Act → World → Prop} {ρ : Ren} {w : World} (hg : Glob P ρ) {k : List Nat} {i : Nat} {o : Oper} (ho : ops[i]? = some o) (hgu : guC ops.toList o = .free) {f : Tm → Option CV} (hc : opC P o.op = .pure f)
    {tmx : Tm} {a : Act} (hx : FrRel ρ nt tmx a) {v : CV} (hv : f tmx = some v) (hK : ∀ V, real ρ v = some V → wpOps P ops Q k (a.put o.dst V) w) : wpOps P ops Q (i :: k) a w := by
  simp only [wpOps, ho]
  rw [wanted_of (b := true) hx (by rw [hgu]; rfl), if_pos rfl]
  have hok := opC_ok P o
  rw [hc] at hok
  refine .inl ?_
  obtain ⟨V, h1, h2⟩ := hok ρ nt tmx a v hx hg hv
  unfold Oper.wp
  rw [h2 w]
  exact hK V h1

/-- One operation that reads. -/
theorem op_read {nt : Nat} {ops : Array Oper} {Q : Exit → Act → World → Prop} {ρ : Ren} {S : St} {w : World} (hr : Rel ρ S w) (hg : Glob P ρ) {k : List Nat} {i : Nat} {o : Oper} (ho : ops[i]? = some o) (hgu : guC ops.toList o = .free) {f : Tm → St → Option CV} (hc : opC P o.op = .read f)
    {tmx : Tm} {a : Act} (hx : FrRel ρ nt tmx a) {v : CV} (hv : f tmx S = some v) (hK : ∀ V, real ρ v = some V → wpOps P ops Q k (a.put o.dst V) w) : wpOps P ops Q (i :: k) a w := by
  simp only [wpOps, ho]
  rw [wanted_of (b := true) hx (by rw [hgu]; rfl), if_pos rfl]
  have hok := opC_ok P o
  rw [hc] at hok
  refine .inl ?_
  obtain ⟨V, h1, h2⟩ := hok ρ nt tmx a v S w hx hg hr.has hv
  unfold Oper.wp
  rw [h2]
  exact hK V h1

/-- One operation of the chain: a call, an append. -/
theorem op_chain {nt : Nat} {ops : Array Oper} {Q : Exit → Act → World → Prop} {call : Call} (hcall : CallOK P call) {ρ : Ren} {S S' : St} {w : World} (hr : Rel ρ S w) (hg : Glob P ρ) {k : List Nat} {i : Nat} {o : Oper} (ho : ops[i]? = some o)
    {f : Tm → St → Option (ORes × St)} (hc : opC P o.op = .chain f)
    {tmx : Tm} {a : Act} (hgu : wantedC (guC ops.toList o) tmx = some true) (hx : FrRel ρ nt tmx a) {v : CV} (hv : callRes call (f tmx S) = .ok v S') (hK : ∀ ρ' w' V, Stp ρ S w ρ' S' w' → real ρ' v = some V → wpOps P ops Q k (a.put o.dst V) w') : wpOps P ops Q (i :: k) a w := by
  simp only [wpOps, ho]
  rw [wanted_of (b := true) hx hgu, if_pos rfl]
  have hok := opC_ok P o
  rw [hc] at hok
  exact .inl (chain_wp hok hcall hv hx hg hr hK)

/-- A call of which a contract is known. -/
theorem op_call {nt : Nat} {ops : Array Oper} {Q : Exit → Act → World → Prop} {ρ : Ren} {S : St} {w : World} (hr : Rel ρ S w) (hg : Glob P ρ) {k : List Nat} {i : Nat} {o : Oper} (ho : ops[i]? = some o)
    {f : Tm → St → Option (ORes × St)} (hc : opC P o.op = .chain f) {tmx : Tm} {a : Act} (hgu : wantedC (guC ops.toList o) tmx = some true) (hx : FrRel ρ nt tmx a)
    {g : FuncId} {args : List CV} {L : List Value} (hv : f tmx S = some (.call g args, S)) (hL : reals ρ args = some L) (hen : (callFunc g L.toArray).run P w = .ok (.enter g L.toArray) w)
    {R : Ending → World → Prop} (hcall : Calls P g L.toArray w R) (hK : ∀ e w', R e w' → ∃ V, e = .returned V ∧ wpOps P ops Q k (a.put o.dst V) w') : wpOps P ops Q (i :: k) a w := by
  simp only [wpOps, ho]
  rw [wanted_of (b := true) hx hgu, if_pos rfl]
  have hok := opC_ok P o
  rw [hc] at hok
  have := hok ρ nt tmx a _ S S w hx hg hr hv
  obtain ⟨_, L', h1, h2⟩ := this
  rw [hL] at h1
  cases h1
  refine .inl ?_
  unfold Oper.wp
  rw [h2, hen, Oper.upon_enter]
  refine Calls.mono hcall (fun e w' he => ?_)
  obtain ⟨V, rfl, hk⟩ := hK e w' he
  exact hk

end
end Go.Ev

namespace Go.Ev
open Go.Proofs

noncomputable def sqL : Code → Code
  | .seq a _ => a
  | c => c
noncomputable def sqR : Code → Code
  | .seq _ b => b
  | c => c
noncomputable def inB : Code → Code
  | .block _ a => a
  | .loop a => a
  | c => c
noncomputable def opsOf : Code → Array Oper
  | .region _ ops _ => ops
  | _ => #[]
noncomputable def bodyOf (f : Func) : Code := match f.body with
  | some c => c
  | none => .skip

noncomputable def c3 : Code := bodyOf Tryz.f3
noncomputable def cR0 : Code := sqL c3
noncomputable def cS1 : Code := sqL (sqR c3)
noncomputable def cT1 : Code := sqR (sqR c3)
noncomputable def cR3 : Code := sqL cT1
noncomputable def cT2 : Code := sqR cT1
noncomputable def cS4 : Code := sqL cT2
noncomputable def cT3 : Code := sqR cT2
noncomputable def cL1 : Code := sqL cT3
noncomputable def cT4 : Code := sqR cT3
noncomputable def cL2 : Code := sqL cT4
noncomputable def cEnd : Code := sqR cT4
/-- A loop's round: its test, and the rest. -/
noncomputable def lpB (c : Code) : Code := inB (inB (sqR c))
noncomputable def testOf (c : Code) : Code := sqL (sqL c)
noncomputable def restOf (c : Code) : Code := sqR c

theorem shape3 : c3 = .seq cR0 (.seq cS1 (.seq cR3 (.seq cS4 (.seq cL1 (.seq cL2 cEnd))))) := by kernel_rfl

noncomputable def cal : Call := callF Tryz.prog prims 60
noncomputable def nt3 : Nat := 126

noncomputable def isI (k : IntKind) (n : Nat) : Option CV → Bool
  | some (.int j (.ofNat m)) => kindEq k j && Nat.beq n m
  | _ => false
noncomputable def isOpq (n : Nat) : Option CV → Bool
  | some (.opq m) => Nat.beq n m
  | _ => false
noncomputable def isPtr (b o : Nat) : Option CV → Bool
  | some (.ptr b' o') => Nat.beq b b' && Nat.beq o o'
  | _ => false
noncomputable def isNone : Option CV → Bool
  | none => true
  | _ => false

/-- What a round's head knows: the counter's slot and its number, four slots of which nothing is known. -/
noncomputable def headOk (slot n free : Nat) (tm : Tm) : Bool :=
  isI .i64 n (getT slot tm) && isOpq 0 (getT 0 tm) && isOpq 1 (getT 1 tm) && isPtr 10 0 (getT 5 tm) &&
  isNone (getT free tm) && isNone (getT (free + 1) tm) && isNone (getT (free + 2) tm) && isNone (getT (free + 3) tm)

noncomputable def tmL1 : Tm := setT 7 (.int .i64 (.ofNat 0)) (setT 5 (.ptr 10 0) (setT 1 (.opq 1) (setT 0 (.opq 0) .empty)))
noncomputable def tmL2 : Tm := setT 9 (.int .i64 (.ofNat 0)) (setT 5 (.ptr 10 0) (setT 1 (.opq 1) (setT 0 (.opq 0) .empty)))

noncomputable def runP (c : Code) (tm : Tm) (S : St) : Res := runC (codeCC Tryz.prog nt3 c .fin) cal tm S
noncomputable def stOf : CRes → St
  | .ok _ S => S
  | .fail => ⟨.leaf, 9, 0⟩
noncomputable def S0 : St := ⟨.leaf, 9, 0⟩
noncomputable def SN : St := stOf (cal 6 [.nils] S0)

noncomputable def mainS : List Nat := [109, 97, 105, 110]
noncomputable def nameS (i : Nat) : List Nat := [98, Nat.add 48 (Nat.div i 10), Nat.add 48 (Nat.mod i 10)]
/-- The branches that the first loop has added after k rounds, from the i-th on. -/
noncomputable def esFrom : Nat → Nat → List (CV × CV × Nat)
  | 0, _ => []
  | n + 1, i => (.str (nameS i), .int .i64 (.ofNat 0), i + 1) :: esFrom n (i + 1)
noncomputable def esK (k : Nat) : List (CV × CV × Nat) := esFrom (bif Nat.blt k 31 then k else 31) 0
noncomputable def clockK (k : Nat) : Nat := bif Nat.blt k 31 then k + 1 else 32

noncomputable def entsEq : List (CV × CV × Nat) → List (CV × CV × Nat) → Bool
  | [], [] => true
  | (a, b, n) :: l, (a', b', n') :: l' => cvEq 6 a a' && cvEq 6 b b' && Nat.beq n n' && entsEq l l'
  | _, _ => false
noncomputable def optEq (a b : Option CV) : Bool := match a, b with
  | none, none => true
  | some x, some y => cvEq 6 x y
  | _, _ => false
noncomputable def trEq : Tr CV → Tr CV → Bool
  | .leaf, .leaf => true
  | .node v l r, .node v' l' r' => optEq v v' && trEq l l' && trEq r r'
  | _, _ => false
noncomputable def objEq : Option CObj → CObj → Bool
  | some (.row c sh hi wr id sz), .row c' sh' hi' wr' id' sz' => trEq c c' && Nat.beq sh sh' && Nat.beq hi hi' && (wr == wr') && Nat.beq id id' && Nat.beq sz sz'
  | some (.map es n), .map es' n' => entsEq es es' && Nat.beq n n'
  | _, _ => false

noncomputable def row10 : CObj := rowOf [.slice 54 0 1 (.sy 0 1), .map 9]
noncomputable def row54 : CObj := .row (lay .leaf 0 [.int .i64 (.ofNat 0), .nils, .nils, .str [], .nils]) 0 5 true 0 5
noncomputable def map9 (x : CV) (es : List (CV × CV × Nat)) (clock : Nat) : CObj := .map ((.str mainS, x, 0) :: es) clock

noncomputable def ok1 (k : Nat) (S : St) : Bool :=
  objEq (S.heap.get 10) row10 && objEq (S.heap.get 54) row54 && objEq (S.heap.get 9) (map9 (.int .i64 (.ofNat 0)) (esK k) (clockK k)) && Nat.ble S.next 200 && Nat.ble S.nk 1

/-- n rounds of the first loop from the i-th on. -/
noncomputable def lp1 : Nat → Nat → Tm → St → Bool
  | 0, i, tm, S => headOk 7 i 29 tm && ok1 i S
  | n + 1, i, tm, S => headOk 7 i 29 tm && ok1 i S && (match runP (restOf (lpB cL1)) tm S with
    | .normal tm' S' => lp1 n (i + 1) tm' S'
    | _ => false)


theorem f2 : lp1 40 0 tmL1 SN = true := by kernel_rfl
end Go.Ev

namespace Go.Ev
open Go.Proofs

/-- The state that the second loop starts in: of the branches nothing is known but main. -/
noncomputable def startT (es : List (CV × CV × Nat)) (clock : Nat) : St :=
  ⟨((Tr.leaf.set big 9 (some (map9 (.int .i64 (.ofNat 0)) es clock))).set big 10 (some row10)).set big 54 (some row54), 200, 1⟩

/-- The commits' row, and how many they are. -/
noncomputable def repoAt (S : St) : Option (Nat × Nat) :=
  match S.heap.get 10 with
  | some (.row (.node (some (.slice cb 0 n (.sy _ m))) (.node (some (.map 9)) .leaf .leaf) .leaf) 0 2 true 0 0) => bif Nat.beq n m then some (cb, n) else none
  | _ => none

noncomputable def parentOk (S : St) (p id : Nat) : Bool :=
  match S.heap.get p with
  | some (.row (.node (some (.int .i64 _)) .leaf .leaf) 0 1 true id' 1) => Nat.beq id id'
  | _ => false

/-- The cell of a row of commits at place g. -/
noncomputable def cellOk (S : St) (g : Nat) (v : CV) : Bool :=
  match Nat.mod g 5, v with
  | 0, .int .i64 _ => true
  | 1, .nils => Nat.blt g 5
  | 1, .slice p 0 1 (.sy id 1) => Nat.blt 5 g && parentOk S p id
  | 2, .nils => true
  | 3, .str _ => true
  | 4, .nils => true
  | _, _ => false

noncomputable def optOk (S : St) (m g : Nat) (v : Option CV) : Bool :=
  match v with
  | none => true
  | some v => bif Nat.blt g m then cellOk S g v else true

/-- All cells of a tree; its place m is the place a * m + b of the row. -/
noncomputable def treeOk (S : St) (m : Nat) (t : Tr CV) : Nat → Nat → Bool :=
  Tr.rec (motive := fun _ => Nat → Nat → Bool) (fun _ _ => true)
    (fun v _ _ gl gr a b => optOk S m b v && (gl (Nat.mul 2 a) (Nat.add a b) && gr (Nat.mul 2 a) (Nat.add (Nat.mul 2 a) b))) t

noncomputable def commitsOk (S : St) (cb n : Nat) : Bool :=
  match S.heap.get cb with
  | some (.row c 0 hi true _ 5) => Nat.beq hi (Nat.mul n 5) && treeOk S (Nat.mul n 5) c 1 0
  | _ => false

noncomputable def least (n m : Nat) : Nat := bif Nat.ble n m then n else m

noncomputable def mapIs (S : St) : Bool :=
  match S.heap.get 9 with
  | some (.map ((.str s, _, 0) :: _) _) => strSame s mainS
  | _ => false
noncomputable def mapTail (S : St) : List (CV × CV × Nat) × Nat :=
  match S.heap.get 9 with
  | some (.map (_ :: es) clock) => (es, clock)
  | _ => ([], 0)

noncomputable def ok2 (j : Nat) (tm : Tm) (S : St) : Bool :=
  headOk 9 j 68 tm && mapIs S && Nat.ble S.next 100000 && Nat.ble S.nk 10000 && (match repoAt S with
    | some (cb, n) => Nat.beq n (least (j + 1) 256) && commitsOk S cb n
    | none => false)

noncomputable def lp2 : Nat → Nat → Tm → St → List (Bool × List (CV × CV × Nat) × Nat)
  | 0, j, tm, S => [(ok2 j tm S, mapTail S)]
  | n + 1, j, tm, S => (ok2 j tm S, mapTail S) :: (match runP (restOf (lpB cL2)) tm S with
    | .normal tm' S' => lp2 n (j + 1) tm' S'
    | _ => [])

/-- n rounds. -/
noncomputable def adv : Nat → Tm → St → Res
  | 0, tm, S => .normal tm S
  | n + 1, tm, S => (match runP (restOf (lpB cL2)) tm S with
    | .normal tm' S' => adv n tm' S'
    | _ => .fail)
noncomputable def lpFrom (n j : Nat) (r : Res) : List (Bool × List (CV × CV × Nat) × Nat) :=
  match r with
  | .normal tm S => lp2 n j tm S
  | _ => []
end Go.Ev
