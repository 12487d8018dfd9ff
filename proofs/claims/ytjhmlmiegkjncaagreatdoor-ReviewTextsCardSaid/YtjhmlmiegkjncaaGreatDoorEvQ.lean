/-
  The evaluator's code and calls are sound. The evaluator's calls are sound. Towards regions that draw their order: sameness of values; masks; what an operation looks at. Steps beside blocks that they do not touch; new blocks under kept names. What the evaluator goes through in a region that draws its order.
-/
import Derived.Test.YtjhmlmiegkjncaaGreatDoorEvO
set_option linter.all false

namespace Go.Ev

theorem Stp.same {ρ ρ' : Ren} {S S' : St} {w w2 w' : World} (h : Stp ρ S w2 ρ' S' w') (e : w2.heap = w.heap) (e1 : w2.os = w.os) (e2 : w2.tape = w.tape) (e3 : w2.output = w.output) : Stp ρ S w ρ' S' w' :=
  ⟨h.ext, h.rel, h.next, h.nk, fun x hx hn => by rw [h.keep x (by rw [e]; exact hx) hn, e], by rw [← e]; exact h.size, fun b B D hb hB hlt => h.dom b B D hb hB (by rw [e]; exact hlt), h.os.trans e1, h.tape.trans e2, h.output.trans e3, h.old, fun b B D hb hB hlt => h.domW b B D hb hB (by rw [e]; exact hlt)⟩

/-- Regions that draw their order are sound. -/
def DrawOK (P : Program) : Prop :=
  ∀ (call : Call), CallOK P call → ∀ (nt : Nat) (ops : Array Oper) (K : Act → World → Prop) (Q : Exit → Act → World → Prop) (r : Res) (k : Tm → St → Res) (ρ : Ren) (tm : Tm) (S : St) (a : Act) (w : World),
    At P nt ρ tm S a w → drawRun (drawOf P nt ops.toList) call tm S k = r → r ≠ .fail →
    (∀ ρ' tm' S' a' w', Stp ρ S w ρ' S' w' → At P nt ρ' tm' S' a' w' → IdleExt P a.defers a'.defers → k tm' S' = r → K a' w') →
    wpAny P .any ops (Exit.then K Q) ops.size (Array.replicate ops.size false) a w

/-- What has come about. -/
def After (P : Program) (nt : Nat) (ρ : Ren) (S : St) (w : World) (dfs : List Deferred) (r : Res) (e : Exit) (a : Act) (w' : World) : Prop :=
  match r with
  | .fail => False
  | .normal tm S' => e = .normal ∧ ∃ ρ', Stp ρ S w ρ' S' w' ∧ At P nt ρ' tm S' a w' ∧ IdleExt P dfs a.defers
  | .exit id tm S' => e = .exit id ∧ ∃ ρ', Stp ρ S w ρ' S' w' ∧ At P nt ρ' tm S' a w' ∧ IdleExt P dfs a.defers
  | .ret tm S' => e = .ret ∧ ∃ ρ', Stp ρ S w ρ' S' w' ∧ At P nt ρ' tm S' a w' ∧ IdleExt P dfs a.defers

theorem After.from {P : Program} {nt : Nat} {ρ ρ1 : Ren} {S S1 : St} {w w1 w' : World} {d1 dfs : List Deferred} {r : Res} {e : Exit} {a : Act} (h : After P nt ρ1 S1 w1 d1 r e a w') (hs : Stp ρ S w ρ1 S1 w1) (hd : IdleExt P dfs d1) : After P nt ρ S w dfs r e a w' := by
  cases r with
  | fail => exact h
  | normal tm S' => obtain ⟨h1, ρ', h2, h3, h4⟩ := h; exact ⟨h1, ρ', hs.trans h2, h3, hd.trans h4⟩
  | exit id tm S' => obtain ⟨h1, ρ', h2, h3, h4⟩ := h; exact ⟨h1, ρ', hs.trans h2, h3, hd.trans h4⟩
  | ret tm S' => obtain ⟨h1, ρ', h2, h3, h4⟩ := h; exact ⟨h1, ρ', hs.trans h2, h3, hd.trans h4⟩

section
variable {P : Program}

theorem code_sound (hm : P.follows .mixedOrders = true) (hdraw : DrawOK P) {call : Call} (hcall : CallOK P call) {nt R : Nat} (c : Code) : ∀ (next : CC) (r : Res) (K : Act → World → Prop) (Q : Exit → Act → World → Prop) (ρ : Ren) (tm : Tm) (S : St) (a : Act) (w : World),
    At P nt ρ tm S a w → runN R (codeCC P nt c next) call tm S = r → r ≠ .fail →
    (∀ ρ' tm' S' a' w', Stp ρ S w ρ' S' w' → At P nt ρ' tm' S' a' w' → IdleExt P a.defers a'.defers → runN R next call tm' S' = r → K a' w') →
    (∀ e a' w', e ≠ .normal → After P nt ρ S w a.defers r e a' w' → Q e a' w') → c.wp P (Exit.then K Q) a w := by
  induction c with
  | skip =>
    intro next r K Q ρ tm S a w hat hrun hr hK hQ
    exact wp_skip (hK ρ tm S a w (Stp.refl hat.rel) hat (.refl _) hrun)
  | label l =>
    intro next r K Q ρ tm S a w hat hrun hr hK hQ
    exact wp_label (hK ρ tm S a w (Stp.refl hat.rel) hat (.refl _) hrun)
  | exit id =>
    intro next r K Q ρ tm S a w hat hrun hr hK hQ
    have hrun : Res.exit id tm S = r := hrun
    subst hrun
    exact wp_exit (hQ _ a w (by simp) ⟨rfl, ρ, Stp.refl hat.rel, hat, .refl _⟩)
  | ret =>
    intro next r K Q ρ tm S a w hat hrun hr hK hQ
    have hrun : Res.ret tm S = r := hrun
    subst hrun
    exact wp_ret (hQ _ a w (by simp) ⟨rfl, ρ, Stp.refl hat.rel, hat, .refl _⟩)
  | seq x y ihx ihy =>
    intro next r K Q ρ tm S a w hat hrun hr hK hQ
    refine wp_seq (ihx (codeCC P nt y next) r (y.wp P (Exit.then K Q)) (Exit.then K Q) ρ tm S a w hat hrun hr (fun ρ' tm' S' a' w' h1 h2 h3 h4 => ?_) (fun e a' w' he h => ?_))
    · refine ihy next r K Q ρ' tm' S' a' w' h2 h4 hr (fun ρ2 tm2 S2 a2 w2 g1 g2 g3 g4 => hK ρ2 tm2 S2 a2 w2 (h1.trans g1) g2 (h3.trans g3) g4) (fun e a2 w2 he h => hQ e a2 w2 he (h.from h1 h3))
    · have := hQ e a' w' he h
      cases e <;> first | exact (he rfl).elim | exact this
  | cond x yes no ihy ihn =>
    intro next r K Q ρ tm S a w hat hrun hr hK hQ
    simp only [codeCC, runN_cond] at hrun
    cases ht : (opd P x).eval tm with
    | none => rw [ht] at hrun; exact absurd hrun.symm hr
    | some u =>
      rw [ht] at hrun
      cases u with
      | bool t =>
        have hx := opd_real hat.fr hat.glob x _ ht
        simp only [real, Option.some.injEq] at hx
        cases t with
        | true => exact wp_cond_true hx.symm (ihy next r K Q ρ tm S a w hat hrun hr hK hQ)
        | false => exact wp_cond_false hx.symm (ihn next r K Q ρ tm S a w hat hrun hr hK hQ)
      | _ => exact absurd hrun.symm hr
  | block id body ih =>
    intro next r K Q ρ tm S a w hat hrun hr hK hQ
    simp only [codeCC, runN_block] at hrun
    refine wp_block ?_
    refine wp_mono (ih .fin (runN R (codeCC P nt body .fin) call tm S) K (Exit.inBlock id (Exit.then K Q)) ρ tm S a w hat rfl (fun e => by rw [e] at hrun; exact hr hrun.symm) (fun ρ' tm' S' a' w' h1 h2 h3 h4 => ?_) (fun e a' w' he h => ?_)) (fun e a' w' h => ?_)
    · have h4 : Res.normal tm' S' = _ := h4
      rw [← h4] at hrun
      exact hK ρ' tm' S' a' w' h1 h2 h3 hrun
    · generalize runN R (codeCC P nt body .fin) call tm S = q at hrun h
      cases q with
      | fail => exact h.elim
      | normal tm' S' => exact (he h.1).elim
      | exit i tm' S' =>
        obtain ⟨rfl, ρ', h1, h2, h3⟩ := h
        simp only at hrun
        simp only [Exit.inBlock]
        split at hrun
        · rename_i hb
          rw [if_pos (beq_of hb)]
          exact hK ρ' tm' S' a' w' h1 h2 h3 hrun
        · rename_i hb
          rw [if_neg (nat_beq_no hb)]
          subst hrun
          exact hQ _ a' w' he ⟨rfl, ρ', h1, h2, h3⟩
      | ret tm' S' =>
        obtain ⟨rfl, ρ', h1, h2, h3⟩ := h
        subst hrun
        exact hQ _ a' w' he ⟨rfl, ρ', h1, h2, h3⟩
    · cases e <;> exact h
  | loop body ih =>
    intro next r K Q ρ tm S a w hat hrun hr hK hQ
    simp only [codeCC, runN_loop] at hrun
    have key : ∀ (n : Nat) (ρ1 : Ren) (tm1 : Tm) (S1 : St) (a1 : Act) (w1 : World), Stp ρ S w ρ1 S1 w1 → At P nt ρ1 tm1 S1 a1 w1 → IdleExt P a.defers a1.defers → roundsC R (codeCC P nt body .fin) call n tm1 S1 = r → Code.rounds P body (Exit.then K Q) n a1 w1 := by
      intro n
      induction n with
      | zero => intro ρ1 tm1 S1 a1 w1 _ _ _ h; exact absurd h.symm hr
      | succ n ihn =>
        intro ρ1 tm1 S1 a1 w1 hs1 hat1 hd1 h
        rw [rounds_succ]
        rw [roundsC] at h
        refine ih .fin (runN R (codeCC P nt body .fin) call tm1 S1) _ _ ρ1 tm1 S1 a1 w1 hat1 rfl (fun e => by rw [e] at h; exact hr h.symm) (fun ρ' tm' S' a' w' h1 h2 h3 h4 => ?_) (fun e a' w' he h' => ?_)
        · have h4 : Res.normal tm' S' = _ := h4
          rw [← h4] at h
          exact ihn ρ' tm' S' a' w' (hs1.trans h1) h2 (hd1.trans h3) h
        · generalize runN R (codeCC P nt body .fin) call tm1 S1 = q at h h'
          cases q with
          | fail => exact h'.elim
          | normal tm' S' => exact (he h'.1).elim
          | exit i tm' S' =>
            obtain ⟨rfl, ρ', h1, h2, h3⟩ := h'
            subst h
            exact hQ _ a' w' he ⟨rfl, ρ', hs1.trans h1, h2, hd1.trans h3⟩
          | ret tm' S' =>
            obtain ⟨rfl, ρ', h1, h2, h3⟩ := h'
            subst h
            exact hQ _ a' w' he ⟨rfl, ρ', hs1.trans h1, h2, hd1.trans h3⟩
    exact wp_loop_rounds R (key R ρ tm S a w (Stp.refl hat.rel) hat (.refl _) hrun)
  | region id ops draws =>
    intro next r K Q ρ tm S a w hat hrun hr hK hQ
    cases draws with
    | false =>
      refine wp_region ?_
      have := ops_sound hcall (R := R) (ops := ops) (next := next) hr (K := K) (Q := Q) ops.toList 0 rfl ρ tm S a w hat hrun hK
      rwa [Array.length_toList, ← List.range_eq_range'] at this
    | true =>
      refine wp_region_any hm ?_
      have hat' : At P nt ρ tm S a { w with drawn := w.drawn + 1 } := ⟨hat.rel.heap rfl, hat.fr, hat.glob⟩
      exact hdraw call hcall nt ops K Q r (fun tm S => runN R next call tm S) ρ tm S a _ hat' hrun hr (fun ρ' tm' S' a' w' h1 h2 h3 h4 => hK ρ' tm' S' a' w' (h1.same rfl rfl rfl rfl) h2 h3 h4)
  | _ =>
    intro next r K Q ρ tm S a w hat hrun hr hK hQ
    exact absurd hrun.symm hr

end
end Go.Ev

namespace Go.Ev

section
variable {P : Program}

theorem layT_get : ∀ (vs : List CV) (tm : Tm) (i t : Nat), i + vs.length ≤ 256 → t < 256 → getT t (layT tm i vs) = if i ≤ t ∧ t < i + vs.length then vs[t - i]? else getT t tm
  | [], tm, i, t, h, ht => by
    rw [if_neg (by simp only [List.length_nil]; omega)]
    rfl
  | v :: vs, tm, i, t, h, ht => by
    simp only [List.length_cons] at h
    simp only [layT]
    rw [layT_get vs _ (i + 1) t (by omega) ht]
    by_cases h1 : i + 1 ≤ t ∧ t < i + 1 + vs.length
    · rw [if_pos h1, if_pos (by simp; omega)]
      rw [show t - i = (t - (i + 1)) + 1 by omega]
      simp
    · rw [if_neg h1]
      by_cases h2 : t = i
      · subst h2
        rw [if_pos (by simp), getT_setT_eq _ _ _ ht]
        simp
      · rw [if_neg (by simp; omega), getT_setT_ne _ _ _ _ (by omega) ht (fun e => h2 e.symm)]

theorem frame_start {ρ : Ren} {args : List CV} {L : List Value} (h : reals ρ args = some L) {nt : Nat} (h1 : args.length ≤ nt) (h2 : args.length ≤ 256) (dfs : List Deferred) :
    FrRel ρ nt (layT .empty 0 args) { tmps := L.toArray ++ Array.replicate (nt - L.toArray.size) undef, defers := dfs } := by
  have hlen := reals_length h
  refine ⟨by simp; omega, fun t v ht e => ?_⟩
  rw [layT_get args .empty 0 t (by omega) ht] at e
  split at e
  · rename_i hlt
    obtain ⟨V, hV, hV'⟩ := reals_get h _ _ e
    refine ⟨V, hV, ?_⟩
    rw [Array.getElem?_append_left (by simp; omega)]
    simpa using hV'
  · rw [getT_empty t ht] at e
    cases e

def resRun (tmps : Array Value) (r : ResultVar) : Sem Value :=
  match r with
  | .tmp t => pure (tmps.getD t undef)
  | .cell a t => do loadVar t (← asAddr (tmps.getD a undef))

theorem res_one {r : ResultVar} {f : Tm → St → Option CV} (hr : resC P r = some f) {nt : Nat} {ρ : Ren} {tm : Tm} {S : St} {a : Act} {w : World} (hat : At P nt ρ tm S a w) {v : CV} (hv : f tm S = some v) :
    ∃ V, real ρ v = some V ∧ (resRun a.tmps r).run P w = .ok V w := by
  cases r with
  | tmp t =>
    simp only [resC, Option.some.injEq] at hr
    subst hr
    exact ⟨_, opd_real hat.fr hat.glob (.tmp t) v hv, rfl⟩
  | cell x t =>
    simp only [resC] at hr
    split at hr
    · rename_i i hi
      cases hr
      unfold loadR at hv
      split at hv
      · rename_i p hp
        have hA := opd_real hat.fr hat.glob (.tmp x) p hp
        obtain ⟨V, h1, _, y, h3, h4⟩ := loadC_run hat.rel.has hi hv hA
        refine ⟨V, h1, ?_⟩
        have h3' : a.tmps.getD x undef = .pointer (some y) := h3
        simp only [resRun, h3', asAddr, Sem.run_bind, Sem.run_pure, Result.andThen_ok, h4]
      · cases hv
    · cases hr

theorem results_list {nt : Nat} {ρ : Ren} {tm : Tm} {S : St} {a : Act} {w : World} (hat : At P nt ρ tm S a w) : ∀ (rs : List ResultVar) (l : List (Tm → St → Option CV)) (vs : List CV), resL P rs = some l → readL l tm S = some vs →
    ∃ L, reals ρ vs = some L ∧ (rs.mapM (resRun a.tmps)).run P w = .ok L w
  | [], l, vs, h, h' => by
    simp only [resL, Option.some.injEq] at h
    subst h
    simp only [readL, Option.some.injEq] at h'
    subst h'
    exact ⟨[], rfl, rfl⟩
  | r :: rs, l, vs, h, h' => by
    simp only [resL] at h
    split at h
    · rename_i f l' hf hl
      cases h
      simp only [readL] at h'
      split at h'
      · rename_i v hv
        split at h'
        · rename_i us hus
          cases h'
          obtain ⟨V, h1, h2⟩ := res_one hf hat hv
          obtain ⟨L, h3, h4⟩ := results_list hat rs l' us hl hus
          refine ⟨V :: L, reals_cons h1 h3, ?_⟩
          rw [List.mapM_cons]
          simp only [Sem.run_bind, h2, Result.andThen_ok, h4, Sem.run_pure]
        · cases h'
      · cases h'
    · cases h

theorem results_eq (fn : Func) (tmps : Array Value) : results fn tmps = ((fn.results.mapM (resRun tmps)) >>= fun vs => pure (if h : vs.size = 1 then vs[0] else .tuple vs)) := rfl

theorem results_run {nt : Nat} {ρ : Ren} {tm : Tm} {S : St} {a : Act} {w : World} (hat : At P nt ρ tm S a w) {fn : Func} {l : List (Tm → St → Option CV)} {vs : List CV} (h : resL P fn.results.toList = some l) (h' : readL l tm S = some vs) :
    ∃ V, real ρ (tupled vs) = some V ∧ (results fn a.tmps).run P w = .ok V w := by
  obtain ⟨L, h1, h2⟩ := results_list hat fn.results.toList l vs h h'
  have e : (results fn a.tmps).run P w = .ok (if h : L.toArray.size = 1 then L.toArray[0] else .tuple L.toArray) w := by
    rw [results_eq, Array.mapM_eq_mapM_toList]
    simp only [Sem.run_bind, Sem.run_map, Result.andThen_ok, h2, Sem.run_pure]
  rw [e]
  clear e h2 h' h
  cases vs with
  | nil =>
    simp only [reals, Option.some.injEq] at h1
    subst h1
    exact ⟨_, rfl, rfl⟩
  | cons v vs =>
    cases vs with
    | nil =>
      simp only [reals, Option.bind_eq_some_iff, Option.map_eq_some_iff, Option.some.injEq] at h1
      obtain ⟨V, hV, _, rfl, rfl⟩ := h1
      exact ⟨V, hV, rfl⟩
    | cons u vs =>
      have hlen := reals_length h1
      refine ⟨.tuple L.toArray, by simp [tupled, real, h1], ?_⟩
      rw [dif_neg (by simp only [List.size_toArray, hlen, List.length_cons]; omega)]

/-- Functions that are done otherwise: told by hand. -/
def PrimsOK (P : Program) (prims : Prims) : Prop :=
  ∀ (f : FuncId) (p : List CV → St → CRes), prims f = some p → ∀ (args : List CV) (S : St) (v : CV) (S' : St) (ρ : Ren) (w : World) (L : List Value), p args S = .ok v S' → Rel ρ S w → Glob P ρ → reals ρ args = some L →
    ∀ (o : Oper) (a : Act) (next : Act → World → Prop) (Q : Exit → Act → World → Prop),
      (∀ ρ' w' V, Stp ρ S w ρ' S' w' → real ρ' v = some V → next (a.put o.dst V) w') → o.upon P a next Q ((callFunc f L.toArray).run P w)

/-- Where every deferred call is idle, a function leaves as it would without them. -/
theorem leaves_idle {fn : Func} {tmps : Array Value} {R : Ending → World → Prop} {v : Value} {w : World} (hr : (results fn tmps).run P w = .ok v w) (hR : R (.returned v) w) : ∀ ds : List Deferred, (∀ d, d ∈ ds → IdleD P d) → Leaves P fn tmps R ds .returning w
  | [], _ => ⟨v, hr, hR⟩
  | d :: ds, h => by
    obtain ⟨fv, cap, f, args, e1, e2, e3⟩ := h d (by simp)
    refine ⟨by simp, fv, cap, f, args, e1, e2 w, (e3 w).mono fun e u' w' hh => ?_⟩
    obtain ⟨⟨v', rfl⟩, rfl, rfl⟩ := hh
    exact leaves_idle hr hR ds (fun d hd => h d (by simp [hd]))

/-- What a function's code does. -/
theorem fn_sound (hm : P.follows .mixedOrders = true) (hdraw : DrawOK P) {call : Call} (hcall : CallOK P call) {f : FuncId} {args : List CV} {S S' : St} {v : CV} (h : callK (fnC P f) call args S = .ok v S') {ρ : Ren} {w : World} {L : List Value}
    (hr : Rel ρ S w) (hg : Glob P ρ) (hL : reals ρ args = some L) :
    (∃ fn, P.funcs[f]? = some fn ∧ fn.body.isSome = true) ∧ Calls P f L.toArray w fun e w' => ∃ ρ' V, e = .returned V ∧ Stp ρ S w ρ' S' w' ∧ real ρ' v = some V := by
  unfold fnC at h
  split at h
  · rename_i fn hfn
    split at h
    · rename_i c hc
      split at h
      · rename_i rs hrs
        refine ⟨⟨fn, hfn, by simp [hc]⟩, ?_⟩
        simp only [callK] at h
        cases hb : (Nat.ble args.length fn.ntmps && Nat.ble args.length 256) with
        | false => rw [hb] at h; cases h
        | true =>
          rw [hb, cond_true] at h
          simp only [Bool.and_eq_true] at hb
          refine calls_of_wp_defers hfn hc ?_
          have hat : At P fn.ntmps ρ (layT .empty 0 args) S { tmps := L.toArray ++ Array.replicate (fn.ntmps - L.toArray.size) undef, defers := [] } w := ⟨hr, frame_start hL (ble_of hb.1) (ble_of hb.2) [], hg⟩
          generalize hq : runC (codeCC P fn.ntmps c .fin) call (layT .empty 0 args) S = q at h
          -- what the end wants
          have fin : ∀ (ρ' : Ren) (tm' : Tm) (S1 : St) (a' : Act) (w' : World), Stp ρ S w ρ' S1 w' → At P fn.ntmps ρ' tm' S1 a' w' → IdleExt P [] a'.defers → finish rs tm' S1 = .ok v S' →
              Leaves P fn a'.tmps (fun e w' => ∃ ρ' V, e = .returned V ∧ Stp ρ S w ρ' S' w' ∧ real ρ' v = some V) a'.defers .returning w' := by
            intro ρ' tm' S1 a' w' h1 h2 h3 h4
            unfold finish at h4
            split at h4
            · rename_i vs hvs
              cases h4
              obtain ⟨V, g1, g2⟩ := results_run h2 hrs hvs
              obtain ⟨m, hm1, hm2⟩ := h3
              rw [List.append_nil] at hm1
              rw [hm1]
              exact leaves_idle g2 ⟨ρ', V, rfl, h1, g1⟩ m hm2
            · cases h4
          have hne : q ≠ .fail := fun e => by rw [e] at h; cases h
          refine wp_mono (code_sound hm hdraw hcall (R := rounds) c .fin q (fun a' w' => ∀ e, (e = Exit.normal ∨ e = .ret) → bodyPostD P fn (fun e w' => ∃ ρ' V, e = .returned V ∧ Stp ρ S w ρ' S' w' ∧ real ρ' v = some V) e a' w')
            (bodyPostD P fn (fun e w' => ∃ ρ' V, e = .returned V ∧ Stp ρ S w ρ' S' w' ∧ real ρ' v = some V)) ρ _ S _ w hat hq hne (fun ρ' tm' S1 a' w' h1 h2 h3 h4 e he => ?_) (fun e a' w' he ha => ?_)) (fun e a' w' h' => ?_)
          · have h4 : Res.normal tm' S1 = q := h4
            subst h4
            have := fin ρ' tm' S1 a' w' h1 h2 h3 h
            rcases he with rfl | rfl <;> exact this
          · cases q with
            | fail => exact ha.elim
            | normal tm' S1 => exact (he ha.1).elim
            | exit i tm' S1 => cases h
            | ret tm' S1 =>
              obtain ⟨rfl, ρ', h1, h2, h3⟩ := ha
              exact fin ρ' tm' S1 a' w' h1 h2 h3 h
          · cases e <;> first | exact h' .normal (.inl rfl) | exact h'
      · cases h
    · cases h
  · cases h

theorem callF_ok (hm : P.follows .mixedOrders = true) (hdraw : DrawOK P) (hn : ∀ (f : FuncId) (fn : Func), P.funcs[f]? = some fn → fn.body.isSome = true → (fn.name == "runtime.NumGoroutine") = false) {prims : Prims} (hp : PrimsOK P prims) :
    ∀ n, CallOK P (callF P prims n)
  | 0 => by
    intro f args S v S' ρ w L h
    cases h
  | n + 1 => by
    intro f args S v S' ρ w L h hr hg hL o a next Q hK
    have ih := callF_ok hm hdraw hn hp n
    have e : callF P prims (n + 1) f args S = (match prims f with | some p => p args S | none => callK (fnC P f) (callF P prims n) args S) := rfl
    rw [e] at h
    cases hpf : prims f with
    | some p =>
      rw [hpf] at h
      exact hp f p hpf args S v S' ρ w L h hr hg hL o a next Q hK
    | none =>
      rw [hpf] at h
      obtain ⟨⟨fn, h1, h2⟩, h3⟩ := fn_sound hm hdraw ih h hr hg hL
      have hc : (callFunc f L.toArray).run P w = .ok (.enter f L.toArray) w := by
        have hnb : fn.body ≠ none := by cases hb : fn.body <;> simp_all
        have hnn : fn.name ≠ "runtime.NumGoroutine" := by simpa using hn f fn h1 h2
        simp [callFunc, h1, hnn, hnb]
      rw [hc, Oper.upon_enter]
      refine Calls.mono h3 (fun e' w' he => ?_)
      obtain ⟨ρ', V, rfl, g1, g2⟩ := he
      exact hK ρ' w' V g1 g2

end
end Go.Ev

namespace Go.Ev

/-! ### Sameness -/

theorem strSame_eq : ∀ (a b : List Nat), strSame a b = true → a = b
  | [], [], _ => rfl
  | [], _ :: _, h => by cases h
  | _ :: _, [], h => by cases h
  | x :: a, y :: b, h => by
    simp only [strSame, Bool.and_eq_true] at h
    rw [beq_of h.1, strSame_eq a b h.2]

theorem capEq_eq (a b : Cap) (h : capEq a b = true) : a = b := by
  cases a <;> cases b <;> simp only [capEq, Bool.false_eq_true, Bool.and_eq_true] at h
  · rw [beq_of h]
  · rw [beq_of h.1, beq_of h.2]

theorem cvEqL_eq {eq : CV → CV → Bool} (he : ∀ a b, eq a b = true → a = b) : ∀ (a b : List CV), cvEqL eq a b = true → a = b
  | [], [], _ => rfl
  | [], _ :: _, h => by cases h
  | _ :: _, [], h => by cases h
  | x :: a, y :: b, h => by
    simp only [cvEqL, Bool.and_eq_true] at h
    rw [he _ _ h.1, cvEqL_eq he a b h.2]

theorem intEq_true {a b : Int} (h : intEq a b = true) : a = b := by
  rw [intEq_eq] at h
  exact beq_iff_eq.1 h

theorem cvEq_eq : ∀ (n : Nat) (a b : CV), cvEq n a b = true → a = b
  | 0, a, b, h => by cases h
  | n + 1, a, b, h => by
    have ih := cvEq_eq n
    cases a <;> cases b <;> simp only [cvEq, Bool.false_eq_true, Bool.and_eq_true] at h
    · rw [beq_iff_eq.1 h]
    · rw [of_decide_eq_true h.1, intEq_true h.2]
    · rw [strSame_eq _ _ h]
    · rfl
    · rw [beq_of h.1, beq_of h.2]
    · rfl
    · rw [beq_of h.1.1.1, beq_of h.1.1.2, beq_of h.1.2, capEq_eq _ _ h.2]
    · rfl
    · rw [beq_of h]
    · rw [show _ = _ from beq_of h.1.1, cvEqL_eq ih _ _ h.1.2, cvEqL_eq ih _ _ h.2]
    · rfl
    · rw [show _ = _ from beq_of h.1, ih _ _ h.2]
    · rfl
    · rw [cvEqL_eq ih _ _ h]
    · rw [cvEqL_eq ih _ _ h]
    · rw [beq_of h]

theorem sameAt_some {v : CV} {f : St → Option CV} {S : St} (h : sameAt v f S = true) : f S = some v := by
  unfold sameAt at h
  split at h
  · rename_i u hu
    rw [hu, cvEq_eq 6 v u h]
  · cases h

/-! ### Masks -/

theorem bit_eq (m i : Nat) : bit m i = m.testBit i := by
  unfold bit
  have h1 : Nat.mod (Nat.shiftRight m i) 2 = (m >>> i) % 2 := rfl
  rw [h1, Nat.testBit_eq_decide_div_mod_eq, Nat.shiftRight_eq_div_pow]
  by_cases h : m / 2 ^ i % 2 = 1
  · simp [h]
  · simp only [h, decide_false]
    cases e : Nat.beq (m / 2 ^ i % 2) 1 with
    | false => rfl
    | true => exact absurd (beq_of e) h

theorem bit_lor (a b i : Nat) : bit (Nat.lor a b) i = (bit a i || bit b i) := by
  rw [bit_eq, bit_eq, bit_eq]
  exact Nat.testBit_or a b i

theorem bit_one (k i : Nat) : bit (Nat.shiftLeft 1 k) i = decide (k = i) := by
  rw [bit_eq]
  show (1 <<< k).testBit i = _
  rw [Nat.shiftLeft_eq, Nat.one_mul, Nat.testBit_two_pow]

theorem bit_zero (i : Nat) : bit 0 i = false := by
  rw [bit_eq]
  exact Nat.zero_testBit i

/-- The mask of the edges: those that bind, and what goes before them. -/
theorem edgesM_bit (done : List Nat) : ∀ (l : List Edge) (j : Nat), bit (edgesM done l) j = true → ∃ e ∈ l, Region.binds .any e = true ∧ (e.on = j ∨ bit ((done[e.on]?).getD 0) j = true)
  | [], j, h => by
    have : bit 0 j = true := h
    rw [bit_zero] at this
    cases this
  | e :: l, j, h => by
    simp only [edgesM] at h
    cases hb : Region.binds .any e with
    | false =>
      rw [hb, cond_false] at h
      obtain ⟨e', h1, h2⟩ := edgesM_bit done l j h
      exact ⟨e', by simp [h1], h2⟩
    | true =>
      rw [hb, cond_true, bit_lor, bit_lor, bit_one] at h
      simp only [Bool.or_eq_true, decide_eq_true_eq] at h
      rcases h with (h | h) | h
      · exact ⟨e, by simp, hb, .inl h⟩
      · exact ⟨e, by simp, hb, .inr h⟩
      · obtain ⟨e', h1, h2⟩ := edgesM_bit done l j h
        exact ⟨e', by simp [h1], h2⟩

theorem edgesM_of (done : List Nat) : ∀ (l : List Edge) (e : Edge) (j : Nat), e ∈ l → Region.binds .any e = true → (e.on = j ∨ bit ((done[e.on]?).getD 0) j = true) → bit (edgesM done l) j = true
  | e' :: l, e, j, h, hb, hj => by
    simp only [edgesM]
    rcases List.mem_cons.1 h with rfl | h
    · rw [hb, cond_true, bit_lor, bit_lor, bit_one]
      rcases hj with hj | hj
      · simp [hj]
      · simp [hj]
    · have ih := edgesM_of done l e j h hb hj
      cases hb' : Region.binds .any e' with
      | false => rw [cond_false]; exact ih
      | true => rw [cond_true, bit_lor, ih, Bool.or_true]

/-- The masks of all operations. -/
theorem predsL_spec : ∀ (l : List Oper) (done : List Nat), ∃ r, predsL done l = done ++ r ∧ r.length = l.length ∧ ∀ i o, l[i]? = some o → ∀ m, (predsL done l)[done.length + i]? = some m → m = edgesM ((predsL done l).take (done.length + i)) o.after.toList
  | [], done => ⟨[], by simp [predsL], rfl, fun i o h => by simp at h⟩
  | o :: l, done => by
    obtain ⟨r, h1, h2, h3⟩ := predsL_spec l (done ++ [edgesM done o.after.toList])
    refine ⟨edgesM done o.after.toList :: r, by simp [predsL, h1], by simp [h2], fun i o' ho m hm => ?_⟩
    have hlen : (done ++ [edgesM done o.after.toList]).length = done.length + 1 := by simp
    simp only [predsL] at hm ⊢
    cases i with
    | zero =>
      simp only [List.getElem?_cons_zero, Option.some.injEq] at ho
      subst ho
      rw [h1] at hm ⊢
      simp only [List.append_assoc, List.cons_append, List.nil_append, Nat.add_zero] at hm ⊢
      rw [List.getElem?_append_right (Nat.le_refl _)] at hm
      simp only [Nat.sub_self, List.getElem?_cons_zero, Option.some.injEq] at hm
      rw [← hm, List.take_left']
      rfl
    | succ i =>
      have ho' : l[i]? = some o' := by simpa using ho
      have hidx : done.length + (i + 1) = (done ++ [edgesM done o.after.toList]).length + i := by rw [hlen]; omega
      rw [hidx] at hm ⊢
      exact h3 i o' ho' m hm

section
variable {P : Program}

/-! ### What an operation looks at -/

def Agree (P : Program) (op : Op) (tm tm' : Tm) : Prop := ∀ x ∈ op.operands.toList, (opd P x).eval tm = (opd P x).eval tm'

def SameC (c : OpC) (tm tm' : Tm) : Prop :=
  match c with
  | .pure f => f tm = f tm'
  | .read f => ∀ S, f tm S = f tm' S
  | .new f => f tm = f tm'
  | .chain f => ∀ S, f tm S = f tm' S
  | .bad => True

theorem evalL_same {tm tm' : Tm} : ∀ (l : List Operand), (∀ x ∈ l, (opd P x).eval tm = (opd P x).eval tm') → evalL (opds P l) tm = evalL (opds P l) tm'
  | [], _ => rfl
  | x :: l, h => by
    rw [opds, evalL_cons, evalL_cons, h x (by simp), evalL_same l (fun y hy => h y (by simp [hy]))]

theorem evalPs_same {tm tm' : Tm} {place : Nat → Option (Nat × Nat)} : ∀ (l : List (Nat × Operand)) (ps : List (Nat × Nat × Opd)), placed P place l = some ps → (∀ x ∈ l.map (·.2), (opd P x).eval tm = (opd P x).eval tm') → evalPs ps tm = evalPs ps tm'
  | [], ps, h, _ => by simp [placed] at h; subst h; rfl
  | (i, x) :: l, ps, h, hh => by
    simp only [placed] at h
    split at h
    · rename_i o n l' h1 h2
      cases h
      simp only [evalPs]
      rw [hh x (by simp), evalPs_same l l' h2 (fun y hy => hh y (by simp only [List.map_cons, List.mem_cons]; exact .inr hy))]
    · cases h

theorem eval1_same {x : Opd} {f : CV → Option CV} {tm tm' : Tm} (h : x.eval tm = x.eval tm') : eval1 x f tm = eval1 x f tm' := by simp only [eval1, h]
theorem eval2_same {x y : Opd} {f : CV → CV → Option CV} {tm tm' : Tm} (h : x.eval tm = x.eval tm') (h' : y.eval tm = y.eval tm') : eval2 x y f tm = eval2 x y f tm' := by simp only [eval2, h, h']
theorem optNat_same {x : Option Operand} {tm tm' : Tm} (h : ∀ y ∈ x.toList, (opd P y).eval tm = (opd P y).eval tm') : optNat (x.map (opd P)) tm = optNat (x.map (opd P)) tm' := by
  cases x with
  | none => rfl
  | some x => simp only [optNat, Option.map_some, h x (by simp)]

theorem same_if {c : Bool} {X : OpC} {tm tm' : Tm} (h : SameC X tm tm') : SameC (bif c then X else .bad) tm tm' := by
  cases c with
  | true => exact h
  | false => trivial
theorem same_unless {c : Bool} {X : OpC} {tm tm' : Tm} (h : SameC X tm tm') : SameC (bif c then .bad else X) tm tm' := by
  cases c with
  | true => trivial
  | false => exact h
theorem same_ite {c : Bool} {X Y : OpC} {tm tm' : Tm} (h : SameC X tm tm') (h' : SameC Y tm tm') : SameC (bif c then X else Y) tm tm' := by
  cases c with
  | true => exact h
  | false => exact h'

theorem builtinC_same {b : Builtin} {ts : List TypeId} {args : List Operand} {tm tm' : Tm} (h : ∀ x ∈ args, (opd P x).eval tm = (opd P x).eval tm') : SameC (builtinC P b ts args) tm tm' := by
  unfold builtinC
  split
  · rename_i t x
    split
    · trivial
    · split
      · exact eval1_same (h _ (by simp))
      · exact eval1_same (h _ (by simp))
      · exact eval1_same (h _ (by simp))
      · intro S
        simp only [lenMap, h _ (List.mem_singleton.2 rfl)]
      · trivial
  · rename_i t u s x
    split
    · split
      · trivial
      · split
        · refine same_if fun S => ?_
          simp only [appendR, h s (by simp), h x (by simp)]
        · trivial
      · trivial
    · trivial
  · rename_i t x
    split
    · split
      · intro S
        simp only [clearR, h x (by simp)]
      · trivial
    · trivial
  · exact eval1_same (h _ (by simp))
  · rename_i t t' x n
    split
    · split
      · split
        · split
          · refine same_if fun S => ?_
            simp only [unsafeStringR, h x (by simp), h n (by simp)]
          · trivial
        · trivial
      · trivial
    · trivial
  · rename_i t u d x
    split
    · split
      · split
        · intro S
          simp only [copyR, h d (by simp), h x (by simp)]
        · trivial
      · trivial
    · trivial
  · exact eval2_same (h _ (by simp)) (h _ (by simp))
  · exact eval2_same (h _ (by simp)) (h _ (by simp))
  · rename_i x y z
    show max3 _ _ _ tm = max3 _ _ _ tm'
    simp only [max3, eval2_same (f := maxC) (h x (by simp)) (h y (by simp)), h z (by simp)]
  · trivial

theorem opC_same (op : Op) {tm tm' : Tm} (h : Agree P op tm tm') : SameC (opC P op) tm tm' := by
  unfold Agree at h
  cases op
  case move x => exact h x (by simp [Op.operands])
  case assign x => exact h x (by simp [Op.operands])
  case pick c x y =>
    show pickC _ _ _ tm = pickC _ _ _ tm'
    simp only [pickC, h c (by simp [Op.operands]), h x (by simp [Op.operands]), h y (by simp [Op.operands])]
  case alloc t =>
    simp only [opC]
    split
    · exact same_if rfl
    · trivial
  case box t x =>
    show boxC _ tm = boxC _ tm'
    simp only [boxC, h x (by simp [Op.operands])]
  case build t ps =>
    have hp : ∀ x ∈ ps.toList.map (·.2), (opd P x).eval tm = (opd P x).eval tm' := by simpa [Op.operands] using h
    simp only [opC]
    split
    · split
      · split
        · split
          · rename_i l hl
            show buildC _ _ tm = buildC _ _ tm'
            simp only [buildC, evalPs_same _ l hl hp]
          · trivial
        · trivial
      · split
        · split
          · rename_i l hl
            show buildC _ _ tm = buildC _ _ tm'
            simp only [buildC, evalPs_same _ l hl hp]
          · trivial
        · trivial
      · trivial
    · trivial
  case buildSlice t len ps =>
    have hp : ∀ x ∈ ps.toList.map (·.2), (opd P x).eval tm = (opd P x).eval tm' := by simpa [Op.operands] using h
    simp only [opC]
    split
    · split
      · split
        · split
          · rename_i l hl
            have key : ∀ zs, buildSliceC len zs l tm = buildSliceC len zs l tm' := fun zs => by simp only [buildSliceC, evalPs_same _ l hl hp]
            refine same_ite (key _) ?_
            split
            · exact same_if (key _)
            · trivial
          · trivial
        · trivial
      · trivial
    · trivial
  case load t a =>
    simp only [opC]
    split
    · intro S
      simp only [loadR, h a (by simp [Op.operands])]
    · trivial
  case store t a x =>
    simp only [opC]
    split
    · intro S
      simp only [storeR, h a (by simp [Op.operands]), h x (by simp [Op.operands])]
    · trivial
  case nilCheck x => exact eval1_same (h x (by simp [Op.operands]))
  case binOp op t x y t' =>
    have key : ∀ f, eval2 (opd P x) (opd P y) f tm = eval2 (opd P x) (opd P y) f tm' := fun f => eval2_same (h x (by simp [Op.operands])) (h y (by simp [Op.operands]))
    simp only [opC]
    split
    · split
      · exact key _
      · exact same_if (eval1_same (h x (by simp [Op.operands])))
      · exact same_unless (key _)
    · trivial
  case unOp op t x =>
    cases op
    case not => exact eval1_same (h x (by simp [Op.operands]))
    case neg => exact eval1_same (h x (by simp [Op.operands]))
    all_goals trivial
  case convert s t x =>
    simp only [opC]
    split
    · split
      · exact eval1_same (h x (by simp [Op.operands]))
      · exact eval1_same (h x (by simp [Op.operands]))
      · split
        · refine same_unless fun S => ?_
          simp only [toUnsafe, h x (by simp [Op.operands])]
        · trivial
      · split
        · refine same_unless fun S => ?_
          simp only [fromUnsafe, h x (by simp [Op.operands])]
        · trivial
      · split
        · split
          · intro S
            simp only [strToBytes, h x (by simp [Op.operands])]
          · trivial
        · trivial
      · split
        · split
          · intro S
            simp only [bytesToStr, h x (by simp [Op.operands])]
          · trivial
        · trivial
      · trivial
    · trivial
  case makeInterface t x =>
    simp only [opC]
    split
    · split
      · trivial
      · exact eval1_same (h x (by simp [Op.operands]))
    · trivial
  case makeFunc f fi ca =>
    cases f
    case func f =>
      show mkFunc _ _ _ tm = mkFunc _ _ _ tm'
      simp only [mkFunc, evalL_same fi.toList (fun x hx => h x (by simp only [Op.operands, Array.toList_append, List.mem_append]; exact .inl hx)), evalL_same ca.toList (fun x hx => h x (by simp only [Op.operands, Array.toList_append, List.mem_append]; exact .inr hx))]
    all_goals trivial
  case makeMap t r =>
    cases r
    case none => rfl
    case some => trivial
  case makeSlice t l c =>
    simp only [opC]
    split
    · split
      · split
        · refine same_unless ?_
          split
          · refine same_if ?_
            show mkSlice _ _ _ _ tm = mkSlice _ _ _ _ tm'
            simp only [mkSlice, h l (by simp [Op.operands]), h c (by simp [Op.operands])]
          · trivial
        · trivial
      · trivial
    · trivial
  case slice t x lo hi mx =>
    have key : ∀ k, sliceC k (opd P x) (lo.map (opd P)) (hi.map (opd P)) (mx.map (opd P)) tm = sliceC k (opd P x) (lo.map (opd P)) (hi.map (opd P)) (mx.map (opd P)) tm' := by
      intro k
      have h1 := h x (by simp [Op.operands])
      have h2 := optNat_same (x := lo) (fun y hy => h y (by simp only [Op.operands, Array.toList_append, List.mem_append]; exact .inl (.inl (.inr (by simpa using hy)))))
      have h3 := optNat_same (x := hi) (fun y hy => h y (by simp only [Op.operands, Array.toList_append, List.mem_append]; exact .inl (.inr (by simpa using hy))))
      have h4 := optNat_same (x := mx) (fun y hy => h y (by simp only [Op.operands, Array.toList_append, List.mem_append]; exact .inr (by simpa using hy)))
      simp only [sliceC, h1, h2, h3, h4]
    simp only [opC]
    split
    · split
      · exact key _
      · split
        · exact key _
        · trivial
      · split
        · exact key _
        · trivial
      · trivial
    · trivial
  case fieldAddr t x f =>
    simp only [opC]
    split
    · split
      · split
        · split
          · exact same_unless (eval1_same (h x (by simp [Op.operands])))
          · trivial
        · trivial
      · trivial
    · trivial
  case field t x f =>
    simp only [opC]
    split
    · split
      · split
        · split
          · exact eval1_same (h x (by simp [Op.operands]))
          · trivial
        · trivial
      · trivial
    · trivial
  case indexAddr t x ix =>
    have key : ∀ f, eval2 (opd P x) (opd P ix) f tm = eval2 (opd P x) (opd P ix) f tm' := fun f => eval2_same (h x (by simp [Op.operands])) (h ix (by simp [Op.operands]))
    simp only [opC]
    split
    · split
      · split
        · exact key _
        · trivial
      · split
        · exact key _
        · trivial
      · trivial
    · trivial
  case index t x ix =>
    have key : ∀ f, eval2 (opd P x) (opd P ix) f tm = eval2 (opd P x) (opd P ix) f tm' := fun f => eval2_same (h x (by simp [Op.operands])) (h ix (by simp [Op.operands]))
    simp only [opC]
    split
    · split
      · split
        · exact key _
        · trivial
      · exact key _
      · trivial
    · trivial
  case mapEntry t m k =>
    simp only [opC]
    split
    · split
      · split
        · intro S
          simp only [mapEntryR, h m (by simp [Op.operands]), h k (by simp [Op.operands])]
        · trivial
      · trivial
    · trivial
  case entryStore t m s x =>
    intro S
    simp only [entryStoreR, h m (by simp [Op.operands]), h s (by simp [Op.operands]), h x (by simp [Op.operands])]
  case lookup t x k ok =>
    simp only [opC]
    split
    · split
      · split
        · intro S
          simp only [lookupR, h x (by simp [Op.operands]), h k (by simp [Op.operands])]
        · trivial
      · trivial
    · trivial
  case mapUpdate t m k x =>
    simp only [opC]
    split
    · split
      · split
        · intro S
          simp only [mapUpdateR, h m (by simp [Op.operands]), h k (by simp [Op.operands]), h x (by simp [Op.operands])]
        · trivial
      · trivial
    · trivial
  case insert t m k x =>
    simp only [opC]
    split
    · split
      · split
        · intro S
          simp only [mapUpdateR, h m (by simp [Op.operands]), h k (by simp [Op.operands]), h x (by simp [Op.operands])]
        · trivial
      · trivial
    · trivial
  case range t x =>
    simp only [opC]
    split
    · split
      · show rangeStr _ tm = rangeStr _ tm'
        simp only [rangeStr, h x (by simp [Op.operands])]
      · intro S
        simp only [rangeMapR, h x (by simp [Op.operands])]
      · trivial
    · trivial
  case next it b =>
    cases b
    case true =>
      intro S
      simp only [nextStr, h it (by simp [Op.operands])]
    case false =>
      intro S
      simp only [nextMapR, h it (by simp [Op.operands])]
  case entry it =>
    intro S
    simp only [entryMapR, h it (by simp [Op.operands])]
  case extract t i => exact eval1_same (h t (by simp [Op.operands]))
  case call c =>
    have ha : ∀ x ∈ c.args.toList, (opd P x).eval tm = (opd P x).eval tm' := fun x hx => h x (by simp only [Op.operands, Call.operands, Array.toList_append, List.mem_append]; exact .inr hx)
    simp only [opC]
    split
    · rename_i f hc
      intro S
      simp only [callC, evalL_same c.args.toList ha, h f (by simp [Op.operands, Call.operands, hc])]
    · exact builtinC_same ha
    · trivial
  case defer c =>
    simp only [opC]
    split
    · rename_i f hc has
      intro S
      simp only [deferR, h f (by simp [Op.operands, Call.operands, hc])]
    · trivial
  all_goals trivial

end
end Go.Ev

namespace Go.Ev

structure Sub (A B : St) : Prop where
  get : ∀ b o, A.heap.get b = some o → B.heap.get b = some o
  next : A.next = B.next
  nk : A.nk = B.nk

theorem Rel.sub {ρ : Ren} {A B : St} {w : World} (h : Rel ρ B w) (hs : Sub A B) : Rel ρ A w :=
  ⟨fun b o hb => h.obj b o (hs.get b o hb), fun b b' X D D' hb hb' hw => h.inj b b' X D D' (hb.elim fun o ho => ⟨o, hs.get b o ho⟩) (hb'.elim fun o ho => ⟨o, hs.get b' o ho⟩) (hw.imp (fun ⟨o, g, g'⟩ => ⟨o, hs.get b o g, g'⟩) (fun ⟨o, g, g'⟩ => ⟨o, hs.get b' o g, g'⟩)),
    fun b hb => h.fresh b (by rw [← hs.next]; exact hb), fun i hi => h.freshk i (by rw [← hs.nk]; exact hi)⟩

theorem Has.sub {ρ : Ren} {A B : St} {w : World} (h : Has ρ B w) (hs : Sub A B) : Has ρ A w := fun b o hb => h b o (hs.get b o hb)

theorem Rel.lt {ρ : Ren} {S : St} {w : World} (h : Rel ρ S w) {b B D : Nat} (hb : S.has b) (e : ρ.b b = some (B, D)) : B < w.heap.size := by
  obtain ⟨o, ho⟩ := hb
  obtain ⟨C, E, O, e1, e2, _⟩ := h.obj b o ho
  rw [e] at e1
  cases e1
  exact (Array.getElem?_eq_some_iff.1 e2).1

/-- The same state to whoever looks. -/
structure StEq (A B : St) : Prop where
  get : ∀ b, A.heap.get b = B.heap.get b
  next : A.next = B.next
  nk : A.nk = B.nk

theorem StEq.sub {A B : St} (h : StEq A B) : Sub A B := ⟨fun b o hb => by rw [← h.get]; exact hb, h.next, h.nk⟩
theorem StEq.symm {A B : St} (h : StEq A B) : StEq B A := ⟨fun b => (h.get b).symm, h.next.symm, h.nk.symm⟩

theorem StpB.right {N : Nat} {ρ ρ' : Ren} {S S' S2 : St} {w w' : World} (h : StpB N ρ S w ρ' S' w') (e : StEq S' S2) : StpB N ρ S w ρ' S2 w' :=
  ⟨h.ext, h.rel.sub e.symm.sub, by rw [← e.next]; exact h.next, by rw [← e.nk]; exact h.nk, h.keep, h.size,
    fun b B D hb => h.dom b B D (hb.elim fun o ho => ⟨o, by rw [e.get]; exact ho⟩), h.os, h.tape, h.output, h.old, fun b B D hb => h.domW b B D (hb.elim fun o ho => ⟨o, by rw [e.get]; exact ho.1, ho.2⟩)⟩

/-- The other blocks stay. -/
theorem StpB.frame {N : Nat} {ρ ρ' : Ren} {A T S' T' : St} {w w' : World} (hr : Rel ρ T w) (hs : Sub A T) (h : StpB N ρ A w ρ' S' w')
    (hg : ∀ b o, T'.heap.get b = some o → S'.heap.get b = some o ∨ (T.heap.get b = some o ∧ A.heap.get b = none)) (hn : T'.next = S'.next) (hk : T'.nk = S'.nk) :
    StpB N ρ T w ρ' T' w' := by
  have hA := hr.sub hs
  -- a block beside
  have beside : ∀ b o, T.heap.get b = some o → A.heap.get b = none → ∃ B D O, ρ.b b = some (B, D) ∧ w'.heap[B]? = some O ∧ ObjRel ρ' D o O ∧ B < w.heap.size := by
    intro b o hb hno
    obtain ⟨B, D, O, e1, e2, e3⟩ := hr.obj b o hb
    have hlt := (Array.getElem?_eq_some_iff.1 e2).1
    refine ⟨B, D, O, e1, ?_, e3.mono h.ext, hlt⟩
    rw [h.keep B hlt (fun c E hc e => ?_)]
    · exact e2
    · obtain ⟨oc, hoc, hcw⟩ := hc
      have := hr.inj b c B D E ⟨o, hb⟩ ⟨oc, hs.get c oc hoc⟩ (.inr ⟨oc, hs.get c oc hoc, hcw⟩) e1 e
      subst this
      rw [hno] at hoc
      cases hoc
  have cross : ∀ b b' (B D D' : Nat), S'.has b → (∃ o, T.heap.get b' = some o ∧ A.heap.get b' = none) → S'.hasW b ∨ T.hasW b' → ρ'.b b = some (B, D) → ρ'.b b' = some (B, D') → False := by
    rintro b b' B D D' hb ⟨o', h1, h2⟩ hw e e'
    obtain ⟨B', D2, O', g1, g2, g3, g4⟩ := beside b' o' h1 h2
    have := h.ext.b _ _ g1
    rw [e'] at this
    cases this
    obtain ⟨b0, D0, ⟨o0, ho0⟩, e0, hw0⟩ : ∃ b0 D0, A.has b0 ∧ ρ.b b0 = some (B, D0) ∧ (T.hasW b0 ∨ T.hasW b') := by
      rcases hw with hw | hw
      · obtain ⟨b0, D0, ⟨o0, ho0, hw0⟩, e0⟩ := h.domW b B D hw e g4
        exact ⟨b0, D0, ⟨o0, ho0⟩, e0, .inl ⟨o0, hs.get _ _ ho0, hw0⟩⟩
      · obtain ⟨b0, D0, h0, e0⟩ := h.dom b B D hb e g4
        exact ⟨b0, D0, h0, e0, .inr hw⟩
    have := hr.inj b0 b' B D0 _ ⟨o0, hs.get _ _ ho0⟩ ⟨o', h1⟩ hw0 e0 g1
    subst this
    rw [h2] at ho0
    cases ho0
  refine ⟨h.ext, ⟨?_, ?_, fun b hb => h.rel.fresh b (by rw [← hn]; exact hb), fun i hi => h.rel.freshk i (by rw [← hk]; exact hi)⟩, by rw [hn, ← hs.next]; exact h.next, by rw [hk, ← hs.nk]; exact h.nk, ?_, h.size, ?_, h.os, h.tape, h.output, h.old, ?_⟩
  · intro b o hb
    rcases hg b o hb with hb | ⟨hb, hno⟩
    · exact h.rel.obj b o hb
    · obtain ⟨B, D, O, e1, e2, e3, _⟩ := beside b o hb hno
      exact ⟨B, D, O, h.ext.b _ _ e1, e2, e3⟩
  · rintro b b' B D D' ⟨o, hb⟩ ⟨o', hb'⟩ hw e e'
    have hw : o.wr = true ∨ o'.wr = true := by
      rcases hw with ⟨o2, g, g'⟩ | ⟨o2, g, g'⟩
      · rw [hb] at g; cases g; exact .inl g'
      · rw [hb'] at g; cases g; exact .inr g'
    rcases hg b o hb with h1 | ⟨h1, h1'⟩ <;> rcases hg b' o' hb' with h2 | ⟨h2, h2'⟩
    · exact h.rel.inj b b' B D D' ⟨o, h1⟩ ⟨o', h2⟩ (hw.imp (fun g => ⟨o, h1, g⟩) (fun g => ⟨o', h2, g⟩)) e e'
    · exact (cross b b' B D D' ⟨o, h1⟩ ⟨o', h2, h2'⟩ (hw.imp (fun g => ⟨o, h1, g⟩) (fun g => ⟨o', h2, g⟩)) e e').elim
    · exact (cross b' b B D' D ⟨o', h2⟩ ⟨o, h1, h1'⟩ (hw.symm.imp (fun g => ⟨o', h2, g⟩) (fun g => ⟨o, h1, g⟩)) e' e).elim
    · obtain ⟨B1, D1, _, g1, _⟩ := beside b o h1 h1'
      obtain ⟨B2, D2, _, g2, _⟩ := beside b' o' h2 h2'
      have e1 := h.ext.b _ _ g1
      have e2 := h.ext.b _ _ g2
      rw [e] at e1
      rw [e'] at e2
      cases e1
      cases e2
      exact hr.inj b b' B _ _ ⟨o, h1⟩ ⟨o', h2⟩ (hw.imp (fun g => ⟨o, h1, g⟩) (fun g => ⟨o', h2, g⟩)) g1 g2
  · intro x hx hno
    refine h.keep x hx (fun b D hb e => ?_)
    obtain ⟨o, ho, hw⟩ := hb
    exact hno b D ⟨o, hs.get _ _ ho, hw⟩ e
  · rintro b B D ⟨o, hb⟩ e hlt
    rcases hg b o hb with h1 | ⟨h1, h1'⟩
    · obtain ⟨b0, D0, ⟨o0, ho0⟩, e0⟩ := h.dom b B D ⟨o, h1⟩ e hlt
      exact ⟨b0, D0, ⟨o0, hs.get _ _ ho0⟩, e0⟩
    · obtain ⟨B1, D1, _, g1, _⟩ := beside b o h1 h1'
      have e1 := h.ext.b _ _ g1
      rw [e] at e1
      cases e1
      exact ⟨b, _, ⟨o, h1⟩, g1⟩
  · rintro b B D ⟨o, hb, hw⟩ e hlt
    rcases hg b o hb with h1 | ⟨h1, h1'⟩
    · obtain ⟨b0, D0, ⟨o0, ho0, hw0⟩, e0⟩ := h.domW b B D ⟨o, h1, hw⟩ e hlt
      exact ⟨b0, D0, ⟨o0, hs.get _ _ ho0, hw0⟩, e0⟩
    · obtain ⟨B1, D1, _, g1, _⟩ := beside b o h1 h1'
      have e1 := h.ext.b _ _ g1
      rw [e] at e1
      cases e1
      exact ⟨b, _, ⟨o, h1, hw⟩, g1⟩

/-- A new block under a name that was kept for it. -/
theorem StpB.newAt {N : Nat} {ρ : Ren} {T T' : St} {w w' : World} (h : Rel ρ T w) {r : Nat} (hr : r < T.next) (hN : N ≤ r) (hfree : ρ.b r = none) {O : Obj} {o : CObj} (ho : ObjRel ρ 0 o O)
    (hg : T'.heap.get r = some o) (hold : ∀ b, b ≠ r → ∀ o', T'.heap.get b = some o' → T.heap.get b = some o') (hn : T'.next = T.next) (hk : T'.nk = T.nk)
    (hh : w'.heap = w.heap.push O) (h1 : w'.os = w.os) (h2 : w'.tape = w.tape) (h3 : w'.output = w.output) :
    StpB N ρ T w (ρ.extb r (w.heap.size, 0)) T' w' := by
  have hle : ρ.Le (ρ.extb r (w.heap.size, 0)) := by
    refine ⟨fun i z hz => ?_, fun i z hz => hz, rfl⟩
    have : i ≠ r := fun e => by
      subst e
      rw [hfree] at hz
      cases hz
    simp [Ren.extb, this, hz]
  have hbo : ∀ i, i ≠ r → (ρ.extb r (w.heap.size, 0)).b i = ρ.b i := fun i hi => by simp [Ren.extb, hi]
  have hb : (ρ.extb r (w.heap.size, 0)).b r = some (w.heap.size, 0) := by simp [Ren.extb]
  refine ⟨hle, ⟨?_, ?_, ?_, fun i hi => h.freshk i (by rw [← hk]; exact hi)⟩, by omega, by omega, ?_, by rw [hh]; simp, ?_, h1, h2, h3, fun b hb => hbo b (by omega), ?_⟩
  · intro b o' hbo'
    by_cases e : b = r
    · subst e
      rw [hg] at hbo'
      cases hbo'
      exact ⟨_, 0, O, hb, by rw [hh]; simp, ho.mono hle⟩
    · obtain ⟨B, D, O', e1, e2, e3⟩ := h.obj b o' (hold b e o' hbo')
      refine ⟨B, D, O', hle.b _ _ e1, ?_, e3.mono hle⟩
      have := (Array.getElem?_eq_some_iff.1 e2).1
      rw [hh, Array.getElem?_push_lt this, Array.getElem?_eq_getElem this] at *
      exact e2
  · rintro b b' B D D' ⟨o1, hb1⟩ ⟨o2, hb2⟩ hw e1 e2
    by_cases i1 : b = r <;> by_cases i2 : b' = r
    · rw [i1, i2]
    · subst i1
      rw [hb] at e1
      cases e1
      rw [hbo _ i2] at e2
      have := h.lt ⟨o2, hold b' i2 o2 hb2⟩ e2
      omega
    · subst i2
      rw [hb] at e2
      cases e2
      rw [hbo _ i1] at e1
      have := h.lt ⟨o1, hold b i1 o1 hb1⟩ e1
      omega
    · rw [hbo _ i1] at e1
      rw [hbo _ i2] at e2
      exact h.inj b b' B D D' ⟨o1, hold b i1 o1 hb1⟩ ⟨o2, hold b' i2 o2 hb2⟩ (hw.imp (fun ⟨o, g, g'⟩ => ⟨o, hold b i1 o g, g'⟩) (fun ⟨o, g, g'⟩ => ⟨o, hold b' i2 o g, g'⟩)) e1 e2
  · intro b hb'
    rw [hbo b (by omega)]
    exact h.fresh b (by omega)
  · intro x hx _
    rw [hh, Array.getElem?_push_lt hx, Array.getElem?_eq_getElem hx]
  · rintro b B D ⟨o1, hb1⟩ e1 hB
    by_cases i1 : b = r
    · subst i1
      rw [hb] at e1
      cases e1
      omega
    · rw [hbo _ i1] at e1
      exact ⟨b, D, ⟨o1, hold b i1 o1 hb1⟩, e1⟩
  · rintro b B D ⟨o1, hb1, hw⟩ e1 hB
    by_cases i1 : b = r
    · subst i1
      rw [hb] at e1
      cases e1
      omega
    · rw [hbo _ i1] at e1
      exact ⟨b, D, ⟨o1, hold b i1 o1 hb1, hw⟩, e1⟩

/-! ### What is still to be laid -/

theorem addAll_nn : ∀ (l : List (Nat × Nat × CObj)) (S : St), (addAll l S).next = S.next ∧ (addAll l S).nk = S.nk
  | [], S => ⟨rfl, rfl⟩
  | (_, b, o) :: l, S => by simp only [addAll]; exact addAll_nn l _

/-- The entries lie at base and their place. -/
def Placed (base : Nat) (l : List (Nat × Nat × CObj)) : Prop := (l.map (·.1)).Nodup ∧ ∀ e ∈ l, e.2.1 = base + e.1 ∧ e.2.1 + 1 < 2 ^ big

theorem addAll_get {base : Nat} : ∀ (l : List (Nat × Nat × CObj)) (S : St), Placed base l → ∀ b,
    (∀ e ∈ l, e.2.1 = b → (addAll l S).heap.get b = some e.2.2) ∧ ((∀ e ∈ l, e.2.1 ≠ b) → (addAll l S).heap.get b = S.heap.get b)
  | [], S, _, b => ⟨fun e he => (List.not_mem_nil he).elim, fun _ => rfl⟩
  | (j, c, o) :: l, S, h, b => by
    obtain ⟨hnd, hp⟩ := h
    simp only [List.map_cons, List.nodup_cons] at hnd
    have hc := hp (j, c, o) (by simp)
    simp only at hc
    obtain ⟨i1, i2⟩ := addAll_get l ⟨S.heap.set big c (some o), S.next, S.nk⟩ ⟨hnd.2, fun e he => hp e (by simp [he])⟩ b
    refine ⟨fun e he heb => ?_, fun hno => ?_⟩
    · simp only [addAll]
      rcases List.mem_cons.1 he with rfl | he
      · simp only at heb
        subst heb
        rw [i2 (fun e he heq => ?_)]
        · exact Tr.get_set_eq _ _ _ _ hc.2
        · have := (hp e (by simp [he])).1
          exact hnd.1 (by
            have he' : e.1 = j := by omega
            rw [← he']
            exact List.mem_map_of_mem he)
      · exact i1 e he heb
    · simp only [addAll]
      rw [i2 (fun e he => hno e (by simp [he]))]
      have hne : c ≠ b := hno (j, c, o) (by simp)
      show (S.heap.set big c (some o)).get b = _
      rw [Tr.get_set_ne _ _ _ _ _ hne]

theorem splitP_spec (pre : Nat) : ∀ (l : List (Nat × Nat × CObj)), (splitP pre l).1 = l.filter (fun e => bit pre e.1) ∧ (splitP pre l).2 = l.filter (fun e => !bit pre e.1)
  | [] => ⟨rfl, rfl⟩
  | (i, b, o) :: l => by
    obtain ⟨h1, h2⟩ := splitP_spec pre l
    simp only [splitP]
    cases hb : bit pre i with
    | true => simp [hb, h1, h2]
    | false => simp [hb, h1, h2]

theorem Placed.filter {base : Nat} {l : List (Nat × Nat × CObj)} (h : Placed base l) (p : Nat × Nat × CObj → Bool) : Placed base (l.filter p) :=
  ⟨h.1.sublist (List.Sublist.map _ List.filter_sublist), fun e he => h.2 e (List.mem_filter.1 he).1⟩

/-- There is a state with these blocks beside. -/
theorem exists_state (S : St) (base : Nat) (p : Nat → Prop) (N : Nat → Option CObj) : ∀ n, base + n + 1 < 2 ^ big → (∀ j, j < n → p j → (N j).isSome = true) →
    ∃ T : St, T.next = S.next ∧ T.nk = S.nk ∧ (∀ j, j < n → p j → T.heap.get (base + j) = N j) ∧ (∀ b, (∀ j, j < n → p j → b ≠ base + j) → T.heap.get b = S.heap.get b)
  | 0, _, _ => ⟨S, rfl, rfl, fun j hj => by omega, fun _ _ => rfl⟩
  | n + 1, hn, hs => by
    obtain ⟨T, h1, h2, h3, h4⟩ := exists_state S base p N n (by omega) (fun j hj => hs j (by omega))
    by_cases hp : p n
    · refine ⟨⟨T.heap.set big (base + n) (N n), T.next, T.nk⟩, h1, h2, fun j hj hpj => ?_, fun b hb => ?_⟩
      · obtain ⟨o, ho⟩ := Option.isSome_iff_exists.1 (hs n (by omega) hp)
        rw [ho]
        by_cases e : j = n
        · subst e
          rw [ho]
          show (T.heap.set big (base + j) (some o)).get (base + j) = some o
          rw [Tr.get_set_eq _ _ _ _ (by omega)]
        · show (T.heap.set big (base + n) (some o)).get (base + j) = N j
          rw [Tr.get_set_ne _ _ _ _ _ (by omega)]
          exact h3 j (by omega) hpj
      · show (T.heap.set big (base + n) (N n)).get b = S.heap.get b
        rw [Tr.get_set_ne _ _ _ _ _ (fun e => hb n (by omega) hp e.symm)]
        exact h4 b (fun j hj hpj => hb j (by omega) hpj)
    · refine ⟨T, h1, h2, fun j hj hpj => ?_, fun b hb => h4 b (fun j hj hpj => hb j (by omega) hpj)⟩
      by_cases e : j = n
      · subst e; exact (hp hpj).elim
      · exact h3 j (by omega) hpj

end Go.Ev

namespace Go.Ev

noncomputable def stepD (base : Nat) (call : Call) (d : DOp) (x : DSt) : Option (CV × DSt) :=
  match wantedC d.g x.tm with
  | some true => (match dRun d base call x with
    | some (v, y) => some (v, ⟨putD d.dst v y.tm, y.S, y.hist, y.pend, y.recs⟩)
    | none => none)
  | some false => some (nothing, ⟨putD d.dst nothing x.tm, x.S, x.hist, x.pend, x.recs⟩)
  | none => none

theorem dOps_step (base : Nat) (call : Call) (d : DOp) (l : List DOp) (x : DSt) : dOps base call (d :: l) x = (stepD base call d x).bind fun p => dOps base call l p.2 := by
  simp only [dOps, stepD]
  cases wantedC d.g x.tm with
  | none => rfl
  | some b =>
    cases b with
    | false => rfl
    | true =>
      simp only
      cases dRun d base call x with
      | none => rfl
      | some p => rfl

theorem dOps_trace (base : Nat) (call : Call) : ∀ (ds : List DOp) (x xf : DSt), dOps base call ds x = some xf →
    ∃ (X : Nat → DSt) (v : Nat → CV), X 0 = x ∧ X ds.length = xf ∧ ∀ i d, ds[i]? = some d → stepD base call d (X i) = some (v i, X (i + 1))
  | [], x, xf, h => by
    simp only [dOps, Option.some.injEq] at h
    exact ⟨fun _ => x, fun _ => nothing, rfl, h, fun i d hd => by simp at hd⟩
  | d :: l, x, xf, h => by
    rw [dOps_step] at h
    simp only [Option.bind_eq_some_iff] at h
    obtain ⟨⟨u, y⟩, h1, h2⟩ := h
    obtain ⟨X, v, g1, g2, g3⟩ := dOps_trace base call l y xf h2
    refine ⟨fun i => Nat.casesOn i x X, fun i => Nat.casesOn i u v, rfl, g2, fun i e he => ?_⟩
    cases i with
    | zero =>
      simp only [List.getElem?_cons_zero, Option.some.injEq] at he
      subst he
      show stepD base call d x = some (u, X 0)
      rw [g1]
      exact h1
    | succ i => exact g3 i e (by simpa using he)

/-- The ways of a step. -/
theorem stepD_inv {base : Nat} {call : Call} {d : DOp} {x y : DSt} {v : CV} (h : stepD base call d x = some (v, y)) :
    (wantedC d.g x.tm = some false ∧ v = nothing ∧ y = ⟨putD d.dst nothing x.tm, x.S, x.hist, x.pend, x.recs⟩) ∨
    (wantedC d.g x.tm = some true ∧ (
      (∃ f, d.c = .pure f ∧ f x.tm = some v ∧ y = ⟨putD d.dst v x.tm, x.S, x.hist, x.pend, x.recs⟩) ∨
      (∃ f, d.c = .read f ∧ f x.tm (addAll (splitP d.pre x.pend).1 x.S) = some v ∧ allSame d.pre v (fun S => f x.tm (addAll (splitP d.pre x.pend).1 S)) x.hist = true ∧
        y = ⟨putD d.dst v x.tm, x.S, x.hist, x.pend, bif d.keep then ⟨d.i, (splitP d.pre x.pend).1, f x.tm, v⟩ :: x.recs else x.recs⟩) ∨
      (∃ f o mk, d.c = .new f ∧ f x.tm = some (o, mk) ∧ (v = mk (base + d.i) ∧ o.wr = true) ∧ y = ⟨putD d.dst v x.tm, x.S, x.hist, (d.i, base + d.i, o) :: x.pend, x.recs⟩) ∨
      (∃ f S, d.c = .chain f ∧ callRes call (f x.tm (addAll (splitP d.pre x.pend).1 x.S)) = .ok v S ∧ recheck d.pre S (dropAll d.pre x.recs) = true ∧
        y = ⟨putD d.dst v x.tm, S, (d.i, x.S) :: x.hist, (splitP d.pre x.pend).2, dropAll d.pre x.recs⟩))) := by
  unfold stepD at h
  split at h
  · rename_i hw
    refine .inr ⟨hw, ?_⟩
    split at h
    · rename_i u z hd
      simp only [Option.some.injEq, Prod.mk.injEq] at h
      obtain ⟨rfl, rfl⟩ := h
      unfold dRun at hd
      split at hd
      · rename_i f hc
        split at hd
        · rename_i w hf
          simp only [Option.some.injEq, Prod.mk.injEq] at hd
          obtain ⟨rfl, rfl⟩ := hd
          exact .inl ⟨f, hc, hf, rfl⟩
        · cases hd
      · rename_i f hc
        generalize hs : splitP d.pre x.pend = q at hd
        obtain ⟨mine, rest⟩ := q
        simp only at hd
        split at hd
        · rename_i w hf
          cases ha : allSame d.pre w (fun S => f x.tm (addAll mine S)) x.hist with
          | false => rw [ha] at hd; cases hd
          | true =>
            rw [ha, cond_true] at hd
            simp only [Option.some.injEq, Prod.mk.injEq] at hd
            obtain ⟨rfl, rfl⟩ := hd
            refine .inr (.inl ⟨f, hc, hf, ha, rfl⟩)
        · cases hd
      · rename_i f hc
        split at hd
        · rename_i o mk hf
          cases hwr : o.wr with
          | false => rw [hwr] at hd; cases hd
          | true =>
          rw [hwr, cond_true] at hd
          simp only [Option.some.injEq, Prod.mk.injEq] at hd
          obtain ⟨rfl, rfl⟩ := hd
          exact .inr (.inr (.inl ⟨f, o, mk, hc, hf, ⟨rfl, hwr⟩, rfl⟩))
        · cases hd
      · rename_i f hc
        generalize hs : splitP d.pre x.pend = q at hd
        obtain ⟨mine, rest⟩ := q
        simp only at hd
        split at hd
        · rename_i w S hf
          cases ha : recheck d.pre S (dropAll d.pre x.recs) with
          | false => rw [ha] at hd; cases hd
          | true =>
            rw [ha, cond_true] at hd
            simp only [Option.some.injEq, Prod.mk.injEq] at hd
            obtain ⟨rfl, rfl⟩ := hd
            exact .inr (.inr (.inr ⟨f, S, hc, hf, ha, rfl⟩))
        · cases hd
      · cases hd
    · cases h
  · rename_i hw
    simp only [Option.some.injEq, Prod.mk.injEq] at h
    obtain ⟨rfl, rfl⟩ := h
    exact .inl ⟨hw, rfl, rfl⟩
  · cases h

theorem allSame_mem {pre : Nat} {v : CV} {f : St → Option CV} : ∀ (l : List (Nat × St)), allSame pre v f l = true → ∀ c S, (c, S) ∈ l → bit pre c = false → f S = some v
  | (c', S') :: l, h, c, S, hm, hb => by
    simp only [allSame, Bool.and_eq_true, Bool.or_eq_true] at h
    rcases List.mem_cons.1 hm with e | hm
    · cases e
      rcases h.1 with h1 | h1
      · rw [hb] at h1; cases h1
      · exact sameAt_some h1
    · exact allSame_mem l h.2 c S hm hb

theorem recheck_mem {pre : Nat} {S : St} : ∀ (l : List Rec), recheck pre S l = true → ∀ r ∈ l, bit pre r.i = false → r.f (addAll r.pend S) = some r.v
  | r' :: l, h, r, hm, hb => by
    simp only [recheck, Bool.and_eq_true, Bool.or_eq_true] at h
    rcases List.mem_cons.1 hm with e | hm
    · subst e
      rcases h.1 with h1 | h1
      · rw [hb] at h1; cases h1
      · exact sameAt_some h1
    · exact recheck_mem l h.2 r hm hb

theorem dropAll_mem {pre : Nat} : ∀ (l : List Rec) (r : Rec), r ∈ l → ⟨r.i, (splitP pre r.pend).2, r.f, r.v⟩ ∈ dropAll pre l
  | r' :: l, r, hm => by
    simp only [dropAll]
    rcases List.mem_cons.1 hm with e | hm
    · subst e; simp
    · exact List.mem_cons_of_mem _ (dropAll_mem l r hm)

/-- The way through the region. -/
structure Trace (base : Nat) (call : Call) (n : Nat) (d : Nat → DOp) (X : Nat → DSt) (v : Nat → CV) : Prop where
  step : ∀ i, i < n → stepD base call (d i) (X i) = some (v i, X (i + 1))
  idx : ∀ i, i < n → (d i).i = i
  pend0 : (X 0).pend = []
  small : base + n + 1 < 2 ^ big
  low : ∀ c, c < n → ∀ j, bit (d c).pre j = true → j < c
  keep : ∀ i, i < n → (∃ c, c < n ∧ i < c ∧ isChain (d c).c = true ∧ bit (d c).pre i = false) → (d i).keep = true

section
variable {base : Nat} {call : Call} {n : Nat} {d : Nat → DOp} {X : Nat → DSt} {v : Nat → CV}

def Wan (d : Nat → DOp) (X : Nat → DSt) (i : Nat) : Prop := wantedC (d i).g (X i).tm = some true

/-- What a new block holds. -/
def NO (base : Nat) (d : Nat → DOp) (X : Nat → DSt) (v : Nat → CV) (j : Nat) (o : CObj) : Prop :=
  ∃ f mk, (d j).c = .new f ∧ Wan d X j ∧ f (X j).tm = some (o, mk) ∧ v j = mk (base + j) ∧ o.wr = true

/-- No operation of the chain before m waits for j. -/
def Un (d : Nat → DOp) (X : Nat → DSt) (m j : Nat) : Prop := ∀ c, c < m → isChain (d c).c = true → Wan d X c → bit (d c).pre j = false

theorem NO.inj {j : Nat} {o o' : CObj} (h : NO base d X v j o) (h' : NO base d X v j o') : o = o' := by
  obtain ⟨f, mk, h1, _, h3, _⟩ := h
  obtain ⟨f', mk', g1, _, g3, _⟩ := h'
  rw [h1] at g1
  cases g1
  rw [h3] at g3
  cases g3
  rfl

variable (t : Trace base call n d X v)
include t

/-- A step that is not one of the chain. -/
theorem Trace.calm {i : Nat} (hi : i < n) (h : isChain (d i).c = false ∨ ¬ Wan d X i) : (X (i + 1)).S = (X i).S ∧ (X (i + 1)).hist = (X i).hist ∧
    ((X (i + 1)).pend = (X i).pend ∨ ∃ o, NO base d X v i o ∧ (X (i + 1)).pend = (i, base + i, o) :: (X i).pend) ∧ (∀ r ∈ (X i).recs, r ∈ (X (i + 1)).recs) := by
  have hs := stepD_inv (t.step i hi)
  rcases hs with ⟨_, _, e⟩ | ⟨hw, ⟨f, hc, hf, e⟩ | ⟨f, hc, hf, ha, e⟩ | ⟨f, o, mk, hc, hf, hv, e⟩ | ⟨f, S, hc, hf, ha, e⟩⟩
  · rw [e]; exact ⟨rfl, rfl, .inl rfl, fun r hr => hr⟩
  · rw [e]; exact ⟨rfl, rfl, .inl rfl, fun r hr => hr⟩
  · rw [e]
    refine ⟨rfl, rfl, .inl rfl, fun r hr => ?_⟩
    show r ∈ (bif (d i).keep then _ else _)
    cases (d i).keep with
    | true => exact List.mem_cons_of_mem _ hr
    | false => exact hr
  · rw [e]
    rw [t.idx i hi] at hv ⊢
    exact ⟨rfl, rfl, .inr ⟨o, ⟨f, mk, hc, hw, hf, hv⟩, rfl⟩, fun r hr => hr⟩
  · rcases h with h | h
    · rw [hc] at h; cases h
    · exact (h hw).elim

/-- A step of the chain. -/
theorem Trace.chain {i : Nat} (hi : i < n) (h : isChain (d i).c = true) (hw : Wan d X i) : ∃ f, (d i).c = .chain f ∧
    callRes call (f (X i).tm (addAll (splitP (d i).pre (X i).pend).1 (X i).S)) = .ok (v i) (X (i + 1)).S ∧ (X (i + 1)).hist = (i, (X i).S) :: (X i).hist ∧
    (X (i + 1)).pend = (splitP (d i).pre (X i).pend).2 ∧ (X (i + 1)).recs = dropAll (d i).pre (X i).recs ∧ recheck (d i).pre (X (i + 1)).S (X (i + 1)).recs = true := by
  have hs := stepD_inv (t.step i hi)
  rcases hs with ⟨hw', _, _⟩ | ⟨_, ⟨f, hc, _, _⟩ | ⟨f, hc, _, _, _⟩ | ⟨f, o, mk, hc, _, _, _⟩ | ⟨f, S, hc, hf, ha, e⟩⟩
  · unfold Wan at hw; rw [hw] at hw'; cases hw'
  · rw [hc] at h; cases h
  · rw [hc] at h; cases h
  · rw [hc] at h; cases h
  · rw [e]
    refine ⟨f, hc, hf, ?_, rfl, rfl, ha⟩
    rw [t.idx i hi]

theorem Trace.still {m : Nat} : ∀ (i : Nat), m ≤ i → i ≤ n → (∀ c, m ≤ c → c < i → isChain (d c).c = false ∨ ¬ Wan d X c) → (X m).S = (X i).S
  | 0, h1, h2, h => by
    have : m = 0 := by omega
    subst this; rfl
  | i + 1, h1, h2, h => by
    by_cases e : m = i + 1
    · subst e; rfl
    · rw [(t.calm (i := i) (by omega) (h i (by omega) (by omega))).1]
      exact Trace.still i (by omega) (by omega) (fun c a b => h c a (by omega))

theorem Trace.pend : ∀ (m : Nat), m ≤ n → Placed base (X m).pend ∧ ∀ e : Nat × Nat × CObj, e ∈ (X m).pend ↔ e.1 < m ∧ e.2.1 = base + e.1 ∧ NO base d X v e.1 e.2.2 ∧ Un d X m e.1
  | 0, _ => by
    rw [t.pend0]
    exact ⟨⟨by simp, fun e he => (List.not_mem_nil he).elim⟩, fun e => ⟨fun he => (List.not_mem_nil he).elim, fun h => by omega⟩⟩
  | m + 1, hm => by
    obtain ⟨h1, h2⟩ := Trace.pend m (by omega)
    by_cases hch : isChain (d m).c = true ∧ Wan d X m
    · obtain ⟨f, hc, _, _, hp, _, _⟩ := t.chain (i := m) (by omega) hch.1 hch.2
      rw [hp, (splitP_spec _ _).2]
      refine ⟨h1.filter _, fun e => ?_⟩
      rw [List.mem_filter, h2 e]
      constructor
      · rintro ⟨⟨a, b, c, u⟩, hb⟩
        refine ⟨by omega, b, c, fun k hk hkc hkw => ?_⟩
        by_cases ek : k = m
        · subst ek; simpa using hb
        · exact u k (by omega) hkc hkw
      · rintro ⟨a, b, c, u⟩
        have hne : e.1 ≠ m := fun ee => by
          obtain ⟨f', _, g1, _⟩ := c
          rw [ee, hc] at g1
          cases g1
        exact ⟨⟨by omega, b, c, fun k hk => u k (by omega)⟩, by simpa using u m (by omega) hch.1 hch.2⟩
    · have hcalm : isChain (d m).c = false ∨ ¬ Wan d X m := by
        by_cases hx : isChain (d m).c = true
        · exact .inr (fun hw => hch ⟨hx, hw⟩)
        · exact .inl (by simpa using hx)
      have hun : ∀ j, Un d X (m + 1) j ↔ Un d X m j := by
        intro j
        constructor
        · intro u k hk; exact u k (by omega)
        · intro u k hk hkc hkw
          by_cases ek : k = m
          · subst ek; exact (hch ⟨hkc, hkw⟩).elim
          · exact u k (by omega) hkc hkw
      obtain ⟨_, _, hp, _⟩ := t.calm (i := m) (by omega) hcalm
      rcases hp with hp | ⟨o, hno, hp⟩
      · rw [hp]
        refine ⟨h1, fun e => ?_⟩
        rw [h2 e, hun]
        constructor
        · rintro ⟨a, r⟩; exact ⟨by omega, r⟩
        · rintro ⟨a, b, c, u⟩
          refine ⟨?_, b, c, u⟩
          rcases Nat.lt_or_ge e.1 m with h | h
          · exact h
          · -- an operation that makes a block and is wanted adds it
            have ee : e.1 = m := by omega
            exfalso
            obtain ⟨f, mk, g1, g2, g3, g4⟩ := c
            rw [ee] at g1 g2 g3
            have hs := stepD_inv (t.step m (by omega))
            rcases hs with ⟨hw', _, _⟩ | ⟨_, ⟨f', hc, _, _⟩ | ⟨f', hc, _, _, _⟩ | ⟨f', o, mk', hc, _, _, e'⟩ | ⟨f', S, hc, _, _, _⟩⟩
            · unfold Wan at g2; rw [g2] at hw'; cases hw'
            · rw [hc] at g1; cases g1
            · rw [hc] at g1; cases g1
            · rw [e'] at hp
              have := congrArg List.length hp
              simp at this
            · rw [hc] at g1; cases g1
      · rw [hp]
        refine ⟨⟨?_, fun e he => ?_⟩, fun e => ?_⟩
        · simp only [List.map_cons, List.nodup_cons]
          refine ⟨fun hmem => ?_, h1.1⟩
          obtain ⟨e, he, hee⟩ := List.mem_map.1 hmem
          have := ((h2 e).1 he).1
          omega
        · rcases List.mem_cons.1 he with rfl | he
          · exact ⟨rfl, by have := t.small; simp only; omega⟩
          · exact h1.2 e he
        · rw [List.mem_cons, h2 e, hun]
          constructor
          · rintro (rfl | ⟨a, r⟩)
            · refine ⟨by simp, rfl, hno, fun k hk hkc hkw => ?_⟩
              cases hb : bit (d k).pre m with
              | false => rfl
              | true => have := t.low k (by omega) m hb; omega
            · exact ⟨by omega, r⟩
          · rintro ⟨a, b, c, u⟩
            rcases Nat.lt_or_ge e.1 m with h | h
            · exact .inr ⟨h, b, c, u⟩
            · have ee : e.1 = m := by omega
              obtain ⟨e1, e2, e3⟩ := e
              simp only at ee b c
              subst ee
              have := NO.inj c hno
              subst this
              rw [b]
              exact .inl rfl

theorem Trace.hist {m : Nat} : ∀ (i : Nat), m ≤ i → i ≤ n → (X m).S = (X i).S ∨ ∃ c, m ≤ c ∧ c < i ∧ isChain (d c).c = true ∧ (c, (X m).S) ∈ (X i).hist
  | 0, h1, _ => by
    have : m = 0 := by omega
    subst this; exact .inl rfl
  | i + 1, h1, h2 => by
    by_cases e : m = i + 1
    · subst e; exact .inl rfl
    · have ih : (X m).S = (X i).S ∨ ∃ c, m ≤ c ∧ c < i ∧ isChain (d c).c = true ∧ (c, (X m).S) ∈ (X i).hist := Trace.hist i (by omega) (by omega)
      by_cases hch : isChain (d i).c = true ∧ Wan d X i
      · obtain ⟨_, _, _, hh, _⟩ := t.chain (i := i) (by omega) hch.1 hch.2
        rw [hh]
        rcases ih with ih | ⟨c, a, b, hc, hm⟩
        · exact .inr ⟨i, by omega, by omega, hch.1, by rw [ih]; simp⟩
        · exact .inr ⟨c, a, by omega, hc, List.mem_cons_of_mem _ hm⟩
      · have hcalm : isChain (d i).c = false ∨ ¬ Wan d X i := by
          by_cases hx : isChain (d i).c = true
          · exact .inr (fun hw => hch ⟨hx, hw⟩)
          · exact .inl (by simpa using hx)
        obtain ⟨g1, g2, _⟩ := t.calm (i := i) (by omega) hcalm
        rw [g1, g2]
        rcases ih with ih | ⟨c, a, b, hc, hm⟩
        · exact .inl ih
        · exact .inr ⟨c, a, by omega, hc, hm⟩

/-- What may be beside the chain's state for a read. -/
def Mine (base n : Nat) (d : Nat → DOp) (X : Nat → DSt) (v : Nat → CV) (m i : Nat) (p : List (Nat × Nat × CObj)) : Prop :=
  Placed base p ∧ ∀ e ∈ p, e.1 < n ∧ e.2.1 = base + e.1 ∧ NO base d X v e.1 e.2.2 ∧ Un d X m e.1 ∧ bit (d i).pre e.1 = true

theorem Trace.mine {i m : Nat} (hi : i < n) (hm : m ≤ i) : Mine base n d X v m i (splitP (d i).pre (X i).pend).1 := by
  obtain ⟨h1, h2⟩ := t.pend i (by omega)
  rw [(splitP_spec _ _).1]
  refine ⟨h1.filter _, fun e he => ?_⟩
  rw [List.mem_filter, h2 e] at he
  obtain ⟨⟨a, b, c, u⟩, hb⟩ := he
  exact ⟨by omega, b, c, fun k hk => u k (Nat.lt_of_lt_of_le hk hm), hb⟩

/-- A read yields the same wherever it may stand. -/
theorem Trace.read {i : Nat} (hi : i < n) {f : Tm → St → Option CV} (hc : (d i).c = .read f) (hw : Wan d X i) {m : Nat} (hm : m ≤ n)
    (h : (m ≤ i ∧ ∀ c, m ≤ c → c < i → isChain (d c).c = true → bit (d i).pre c = false) ∨ (i < m ∧ ∀ c, i < c → c < m → isChain (d c).c = true → bit (d c).pre i = false)) :
    ∃ p, Mine base n d X v m i p ∧ f (X i).tm (addAll p (X m).S) = some (v i) := by
  have hs := stepD_inv (t.step i hi)
  have hsi : f (X i).tm (addAll (splitP (d i).pre (X i).pend).1 (X i).S) = some (v i) ∧ allSame (d i).pre (v i) (fun S => f (X i).tm (addAll (splitP (d i).pre (X i).pend).1 S)) (X i).hist = true ∧
      X (i + 1) = ⟨putD (d i).dst (v i) (X i).tm, (X i).S, (X i).hist, (X i).pend, bif (d i).keep then ⟨(d i).i, (splitP (d i).pre (X i).pend).1, f (X i).tm, v i⟩ :: (X i).recs else (X i).recs⟩ := by
    rcases hs with ⟨hw', _, _⟩ | ⟨_, ⟨f', hc', _, _⟩ | ⟨f', hc', h1, h2, h3⟩ | ⟨f', o, mk', hc', _, _, _⟩ | ⟨f', S, hc', _, _, _⟩⟩
    · unfold Wan at hw; rw [hw] at hw'; cases hw'
    · rw [hc] at hc'; cases hc'
    · rw [hc] at hc'; cases hc'; exact ⟨h1, h2, h3⟩
    · rw [hc] at hc'; cases hc'
    · rw [hc] at hc'; cases hc'
  obtain ⟨s1, s2, s3⟩ := hsi
  rcases h with ⟨hmi, hno⟩ | ⟨him, hno⟩
  · refine ⟨_, t.mine hi hmi, ?_⟩
    rcases t.hist i hmi (by omega) with e | ⟨c, a, b, hcc, hmem⟩
    · rw [e]; exact s1
    · exact allSame_mem _ s2 c _ hmem (hno c a b hcc)
  · -- later
    have key : ∀ m, i < m → m ≤ n → (∀ c, i < c → c < m → isChain (d c).c = true → bit (d c).pre i = false) →
        ∃ p, Placed base p ∧ (∀ e ∈ p, e ∈ (X m).pend ∧ bit (d i).pre e.1 = true) ∧ f (X i).tm (addAll p (X m).S) = some (v i) ∧
          ((∃ c, c < n ∧ m ≤ c ∧ isChain (d c).c = true ∧ bit (d c).pre i = false) → (⟨i, p, f (X i).tm, v i⟩ : Rec) ∈ (X m).recs) := by
      intro m
      induction m with
      | zero => intro h; omega
      | succ m ih =>
        intro h1 h2 h3
        by_cases e : m = i
        · subst e
          rw [s3]
          obtain ⟨g1, _⟩ := t.pend m (by omega)
          rw [(splitP_spec _ _).1] at s1 ⊢
          refine ⟨_, g1.filter _, fun e he => ?_, s1, fun ⟨c, c1, c2, c3, c4⟩ => ?_⟩
          · exact List.mem_filter.1 he
          · have := t.keep m hi ⟨c, c1, by omega, c3, c4⟩
            rw [this, t.idx m hi]
            simp
        · obtain ⟨p, p1, p2, p3, p4⟩ := ih (by omega) (by omega) (fun c a b => h3 c a (by omega))
          by_cases hch : isChain (d m).c = true ∧ Wan d X m
          · obtain ⟨_, _, _, _, q1, q2, q3⟩ := t.chain (i := m) (by omega) hch.1 hch.2
            have hb := h3 m (by omega) (by omega) hch.1
            have hrec := p4 ⟨m, by omega, Nat.le_refl _, hch.1, hb⟩
            have hrec' := dropAll_mem (pre := (d m).pre) _ _ hrec
            rw [← q2] at hrec'
            have hsame := recheck_mem _ q3 _ hrec' hb
            simp only at hsame
            refine ⟨(splitP (d m).pre p).2, ?_, fun e he => ?_, hsame, fun _ => hrec'⟩
            · rw [(splitP_spec _ _).2]; exact p1.filter _
            · rw [(splitP_spec _ _).2] at he
              have he := List.mem_filter.1 he
              have := p2 e he.1
              rw [q1, (splitP_spec _ _).2]
              exact ⟨List.mem_filter.2 ⟨this.1, he.2⟩, this.2⟩
          · have hcalm : isChain (d m).c = false ∨ ¬ Wan d X m := by
              by_cases hx : isChain (d m).c = true
              · exact .inr (fun hw => hch ⟨hx, hw⟩)
              · exact .inl (by simpa using hx)
            obtain ⟨g1, _, g3, g4⟩ := t.calm (i := m) (by omega) hcalm
            refine ⟨p, p1, fun e he => ?_, by rw [g1]; exact p3, fun ⟨c, c1, c2, c3, c4⟩ => g4 _ (p4 ⟨c, c1, by omega, c3, c4⟩)⟩
            have := p2 e he
            refine ⟨?_, this.2⟩
            rcases g3 with g3 | ⟨o, _, g3⟩
            · rw [g3]; exact this.1
            · rw [g3]; exact List.mem_cons_of_mem _ this.1
    obtain ⟨p, p1, p2, p3, _⟩ := key m him hm hno
    refine ⟨p, ⟨p1, fun e he => ?_⟩, p3⟩
    obtain ⟨_, g2⟩ := t.pend m hm
    obtain ⟨a, b⟩ := p2 e he
    obtain ⟨a1, a2, a3, a4⟩ := (g2 e).1 a
    exact ⟨by omega, a2, a3, a4, b⟩

end
end Go.Ev
