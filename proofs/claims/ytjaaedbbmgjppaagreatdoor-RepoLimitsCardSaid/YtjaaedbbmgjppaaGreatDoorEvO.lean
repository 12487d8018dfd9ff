/-
  Every operation of the evaluator is sound. The evaluator's statements are sound: operations in their order, conditions, blocks, loops. The evaluator's code and calls are sound. The evaluator's calls are sound.
-/
import Derived.Test.YtjaaedbbmgjppaaGreatDoorEvN
import Derived.LoopN
import Derived.Orders
set_option linter.all false

namespace Go.Ev

def OpOK (P : Program) (o : Oper) : OpC → Prop
  | .pure f => PureOK P o f
  | .read f => ReadOK P o f
  | .new f => NewOK P o f
  | .chain f => ChainOK P o f
  | .bad => True

section
variable {P : Program} {o : Oper}

theorem ok_if {c : Bool} {X : OpC} (h : c = true → OpOK P o X) : OpOK P o (bif c then X else .bad) := by
  cases c with
  | true => exact h rfl
  | false => trivial
theorem ok_unless {c : Bool} {X : OpC} (h : c = false → OpOK P o X) : OpOK P o (bif c then .bad else X) := by
  cases c with
  | true => trivial
  | false => exact h rfl
theorem ok_ite {c : Bool} {X Y : OpC} (h : c = true → OpOK P o X) (h' : c = false → OpOK P o Y) : OpOK P o (bif c then X else Y) := by
  cases c with
  | true => exact h rfl
  | false => exact h' rfl

theorem nat_beq_no {n m : Nat} (h : Nat.beq n m = false) : n ≠ m := by
  intro e
  subst e
  rw [Nat.beq_refl] at h
  cases h

theorem builtinC_ok {c : Go.Call} {b : Builtin} (hc : c.callee = .builtin b) (ho : o.op = .call c) : OpOK P o (builtinC P b c.argTypes.toList c.args.toList) := by
  unfold builtinC
  split
  · rename_i t x hts has
    split
    · trivial
    · rename_i i hi
      split
      · rename_i hd
        exact pure_len (k := .str) hc hts has hi (by rw [hd]; trivial) ho
      · rename_i hd
        exact pure_len (k := .sl) hc hts has hi (by rw [hd]; trivial) ho
      · rename_i n e hd
        exact pure_len (k := .arr n) hc hts has hi (by rw [hd]; rfl) ho
      · rename_i hd
        exact read_lenMap hc hts has hi hd ho
      · trivial
  · rename_i t u s x hts has
    split
    · rename_i i j hi hj
      split
      · trivial
      · rename_i d e hd hn
        split
        · rename_i ei z hei hz
          refine ok_if fun hb => ?_
          simp only [Bool.and_eq_true] at hb
          exact chain_append hc hts has hi ‹_› hj (fun k hk => by first | exact hn k hk | exact hd k hk) hei hz (beq_of hb.1) (blt_of hb.2) ho
        · trivial
      · trivial
    · trivial
  · rename_i x y has
    exact pure_min hc has ho
  · rename_i x y has
    exact pure_max hc has ho
  · trivial

theorem opC_ok (P : Program) (o : Oper) : OpOK P o (opC P o.op) := by
  cases ho : o.op
  case move x => exact pure_move ho
  case assign x => exact pure_assign ho
  case pick c x y => exact pure_pick ho
  case alloc t =>
    simp only [opC]
    split
    · rename_i z hz
      exact ok_if fun h => new_alloc hz (blt_of h) ho
    · trivial
  case box t x => exact new_box ho
  case build t ps =>
    simp only [opC]
    split
    · rename_i i z hi hz
      split
      · rename_i fields hd
        split
        · rename_i pl hpl
          split
          · rename_i l hl
            exact pure_buildStruct hi hz hd hpl hl ho
          · trivial
        · trivial
      · rename_i n e hd
        split
        · rename_i ei hei
          split
          · rename_i l hl
            exact pure_buildArr hi hz hd hei hl ho
          · trivial
        · trivial
      · trivial
    · trivial
  case buildSlice t len ps =>
    simp only [opC]
    split
    · rename_i i hi
      split
      · rename_i e hd
        split
        · rename_i ei hei
          split
          · rename_i l hl
            refine ok_ite (fun h0 => ?_) (fun h0 => ?_)
            · exact new_buildSlice hi hd hei hl (.inl ⟨beq_of h0, rfl⟩) ho
            · split
              · rename_i z hz
                refine ok_if fun h => ?_
                simp only [Bool.and_eq_true] at h
                exact new_buildSlice hi hd hei hl (.inr ⟨nat_beq_no h0, ble_of h.1, z, hz, beq_of h.2, rfl⟩) ho
              · trivial
          · trivial
        · trivial
      · trivial
    · trivial
  case load t a =>
    simp only [opC]
    split
    · rename_i i hi
      exact read_load hi ho
    · trivial
  case store t a x =>
    simp only [opC]
    split
    · rename_i i hi
      exact chain_store hi ho
    · trivial
  case nilCheck x => exact pure_nilCheck ho
  case binOp op t x y t' =>
    simp only [opC]
    split
    · rename_i i hi
      split
      · rename_i k f hd hf
        exact pure_binInt hf ho
      · refine ok_unless fun h => ?_
        refine pure_binC (fun he j hj hagg => ?_) ho
        rw [hi] at hj
        cases hj
        rw [he, hagg] at h
        simpa using h
    · trivial
  case unOp op t x =>
    cases op
    case not => exact pure_not ho
    case neg => exact pure_neg ho
    all_goals trivial
  case convert s t x =>
    simp only [opC]
    split
    · rename_i i j hi hj
      split
      · rename_i hd hd'
        exact pure_convInt hi hj hd hd' ho
      · rename_i hd hd'
        exact pure_convStr hi hj hd hd' ho
      · rename_i e hd hd'
        split
        · rename_i k hk
          split
          · rename_i hk'
            exact read_bytesToStr hi hj hd hd' hk hk' ho
          · trivial
        · trivial
      · trivial
    · trivial
  case makeInterface t x =>
    simp only [opC]
    split
    · rename_i i hi
      split
      · trivial
      · rename_i hd
        exact pure_mkIface hi (fun ms h => hd ms h) ho
    · trivial
  case makeFunc f fi ca =>
    cases f
    case func f => exact pure_mkFunc ho
    all_goals trivial
  case makeMap t r =>
    cases r
    case none => exact new_makeMap ho
    case some => trivial
  case makeSlice t l c =>
    simp only [opC]
    split
    · rename_i i hi
      split
      · rename_i e hd
        split
        · rename_i ei hei
          refine ok_unless fun h0 => ?_
          split
          · rename_i z hz
            exact ok_if fun h => chain_makeSlice hi hd hei hz (beq_of h) (nat_beq_no h0) ho
          · trivial
        · trivial
      · trivial
    · trivial
  case slice t x lo hi mx =>
    simp only [opC]
    split
    · rename_i i hi
      split
      · rename_i hd
        exact pure_sliceStr hi hd ho
      · rename_i e hd
        split
        · rename_i ei hei
          exact pure_sliceSl hi hd hei ho
        · trivial
      · rename_i n e hd
        split
        · rename_i ei hei
          exact pure_sliceArr hi hd hei ho
        · trivial
      · trivial
    · trivial
  case fieldAddr t x f =>
    simp only [opC]
    split
    · rename_i i hi
      split
      · rename_i fields hd
        split
        · rename_i fd hfd
          split
          · rename_i fi hfi
            exact ok_unless fun h => pure_fieldAddr hi hd hfd hfi (nat_beq_no h) ho
          · trivial
        · trivial
      · trivial
    · trivial
  case field t x f =>
    simp only [opC]
    split
    · rename_i i hi
      split
      · rename_i fields hd
        split
        · rename_i fd hfd
          split
          · rename_i fi hfi
            exact pure_field hi hd hfd hfi ho
          · trivial
        · trivial
      · trivial
    · trivial
  case indexAddr t x ix =>
    simp only [opC]
    split
    · rename_i i hi
      split
      · rename_i n e hd
        split
        · rename_i ei hei
          exact pure_indexAddrArr hi hd hei ho
        · trivial
      · rename_i e hd
        split
        · rename_i ei hei
          exact pure_indexAddrSl hi hd hei ho
        · trivial
      · trivial
    · trivial
  case index t x ix =>
    simp only [opC]
    split
    · rename_i i hi
      split
      · rename_i n e hd
        split
        · rename_i ei hei
          exact pure_indexArr hi hd hei ho
        · trivial
      · rename_i hd
        exact pure_indexStr hi hd ho
      · trivial
    · trivial
  case lookup t x k ok =>
    simp only [opC]
    split
    · rename_i i hi
      split
      · rename_i kt et hd
        split
        · rename_i ki z hki hz
          exact read_lookup hi hd hki hz ho
        · trivial
      · trivial
    · trivial
  case mapUpdate t m k x =>
    simp only [opC]
    split
    · rename_i i hi
      split
      · rename_i kt et hd
        split
        · rename_i ki hki
          exact chain_mapUpdate hi hd hki (.inl ho)
        · trivial
      · trivial
    · trivial
  case insert t m k x =>
    simp only [opC]
    split
    · rename_i i hi
      split
      · rename_i kt et hd
        split
        · rename_i ki hki
          exact chain_mapUpdate hi hd hki (.inr ho)
        · trivial
      · trivial
    · trivial
  case range t x =>
    simp only [opC]
    split
    · rename_i i hi
      split
      · rename_i hd
        exact new_rangeStr hi hd ho
      · trivial
    · trivial
  case next it b =>
    cases b
    case true => exact chain_nextStr ho
    case false => trivial
  case extract t i => exact pure_extract ho
  case call c =>
    simp only [opC]
    split
    · rename_i f hc
      exact chain_callC hc ho
    · rename_i b hc
      exact builtinC_ok hc ho
    · trivial
  all_goals trivial

end
end Go.Ev

namespace Go.Ev

/-- What a call does, as the evaluator has it. -/
def CallOK (P : Program) (call : Call) : Prop :=
  ∀ (f : FuncId) (args : List CV) (S : St) (v : CV) (S' : St) (ρ : Ren) (w : World) (L : List Value), call f args S = .ok v S' → Rel ρ S w → Glob P ρ → reals ρ args = some L →
    ∀ (o : Oper) (a : Act) (next : Act → World → Prop) (Q : Exit → Act → World → Prop),
      (∀ ρ' w' V, Stp ρ S w ρ' S' w' → real ρ' v = some V → next (a.put o.dst V) w') → o.upon P a next Q ((callFunc f L.toArray).run P w)

section
variable {P : Program}

theorem chain_wp {o : Oper} {f : Tm → St → Option (ORes × St)} (hc : ChainOK P o f) {call : Call} (hcall : CallOK P call) {tm : Tm} {S S' : St} {v : CV} (hrun : callRes call (f tm S) = .ok v S')
    {ρ : Ren} {nt : Nat} {a : Act} {w : World} (hf : FrRel ρ nt tm a) (hg : Glob P ρ) (hr : Rel ρ S w) {K : Act → World → Prop} {Q : Exit → Act → World → Prop}
    (hK : ∀ ρ' w' V, Stp ρ S w ρ' S' w' → real ρ' v = some V → K (a.put o.dst V) w') : o.wp P a w K Q := by
  unfold Oper.wp
  cases hfs : f tm S with
  | none => rw [hfs] at hrun; simp [callRes] at hrun
  | some q =>
    obtain ⟨r, S1⟩ := q
    have := hc ρ nt tm a r S S1 w hf hg hr hfs
    rw [hfs] at hrun
    cases r with
    | val u =>
      obtain ⟨ρ', w', V, h1, h2, h3⟩ := this
      simp only [callRes, CRes.ok.injEq] at hrun
      obtain ⟨rfl, rfl⟩ := hrun
      rw [h3]
      exact hK ρ' w' V h1 h2
    | undef =>
      obtain ⟨ρ', w', h1, h3⟩ := this
      simp only [callRes, CRes.ok.injEq] at hrun
      obtain ⟨rfl, rfl⟩ := hrun
      rw [h3]
      exact hK ρ' w' undef h1 rfl
    | call g args =>
      obtain ⟨rfl, L, hL, h3⟩ := this
      simp only [callRes] at hrun
      rw [h3]
      exact hcall g args _ v S' ρ w L hrun hr hg hL o a K Q hK

theorem pure_wp {o : Oper} {f : Tm → Option CV} (hc : PureOK P o f) {tm : Tm} {S : St} {v : CV} (hrun : f tm = some v)
    {ρ : Ren} {nt : Nat} {a : Act} {w : World} (hf : FrRel ρ nt tm a) (hg : Glob P ρ) (hr : Rel ρ S w) {K : Act → World → Prop} {Q : Exit → Act → World → Prop}
    (hK : ∀ ρ' w' V, Stp ρ S w ρ' S w' → real ρ' v = some V → K (a.put o.dst V) w') : o.wp P a w K Q := by
  unfold Oper.wp
  obtain ⟨V, h1, h2⟩ := hc ρ nt tm a v hf hg hrun
  rw [h2 w]
  exact hK ρ w V (Stp.refl hr) h1

theorem read_wp {o : Oper} {f : Tm → St → Option CV} (hc : ReadOK P o f) {tm : Tm} {S : St} {v : CV} (hrun : f tm S = some v)
    {ρ : Ren} {nt : Nat} {a : Act} {w : World} (hf : FrRel ρ nt tm a) (hg : Glob P ρ) (hr : Rel ρ S w) {K : Act → World → Prop} {Q : Exit → Act → World → Prop}
    (hK : ∀ ρ' w' V, Stp ρ S w ρ' S w' → real ρ' v = some V → K (a.put o.dst V) w') : o.wp P a w K Q := by
  unfold Oper.wp
  obtain ⟨V, h1, h2⟩ := hc ρ nt tm a v S w hf hg hr.has hrun
  rw [h2]
  exact hK ρ w V (Stp.refl hr) h1

theorem new_wp {o : Oper} {f : Tm → Option (CObj × (Nat → CV))} (hc : NewOK P o f) {tm : Tm} {S S' : St} {obj : CObj} {mk : Nat → CV} {b : Nat} (hrun : f tm = some (obj, mk)) (hal : alloc S obj = some (b, S'))
    {ρ : Ren} {nt : Nat} {a : Act} {w : World} (hf : FrRel ρ nt tm a) (hg : Glob P ρ) (hr : Rel ρ S w) {K : Act → World → Prop} {Q : Exit → Act → World → Prop}
    (hK : ∀ ρ' w' V, Stp ρ S w ρ' S' w' → real ρ' (mk b) = some V → K (a.put o.dst V) w') : o.wp P a w K Q := by
  unfold Oper.wp
  obtain ⟨O, hO, h2⟩ := hc ρ nt tm a obj mk hf hg hrun
  obtain ⟨V, h3, h4⟩ := h2 w
  obtain ⟨hp, nx, nk⟩ := S
  simp only [alloc] at hal
  cases hb : Nat.blt nx lim with
  | false => rw [hb] at hal; cases hal
  | true =>
    rw [hb, cond_true] at hal
    cases hal
    rw [h3]
    have hst := Stp.alloc (S := ⟨hp, _, nk⟩) (w' := { w with heap := w.heap.push O }) hr hO (blt_of hb) rfl rfl rfl rfl
    exact hK _ _ V hst (h4 _ _ (by simp [Ren.extb]))

/-! ### Guards -/

theorem yielded_of {ρ : Ren} {nt : Nat} {tm : Tm} {a : Act} (hf : FrRel ρ nt tm a) {ops : Array Oper} {j d : Nat} {oj : Oper} (hj : ops.toList[j]? = some oj) (hd : oj.dst = some d) {v : CV} (hv : (tmpO d).eval tm = some v) :
    yielded ops a.tmps j = (match v with | .bool b => some b | _ => none) := by
  rw [tmpO_eval] at hv
  split at hv
  · rename_i hlt
    obtain ⟨V, h1, h2⟩ := hf.val d v hlt hv
    have hj' : ops[j]? = some oj := by simpa using hj
    have h2' : a.tmps[(d : Nat)]? = some V := h2
    simp only [yielded, hj', Option.bind_some, hd]
    rw [h2']
    cases v <;> simp only [real, Option.some.injEq, Option.map_eq_some_iff, Option.bind_eq_some_iff] at h1
    all_goals (first | (subst h1; rfl) | (obtain ⟨_, _, rfl⟩ := h1; rfl) | (obtain ⟨a, _, rfl⟩ := h1; cases a <;> rfl) | (obtain ⟨_, _, _, _, rfl⟩ := h1; rfl))
  · cases hv

theorem wanted_of {ρ : Ren} {nt : Nat} {tm : Tm} {a : Act} (hf : FrRel ρ nt tm a) {ops : Array Oper} {o : Oper} {b : Bool} (hw : wantedC (guC ops.toList o) tm = some b) :
    Region.wanted o (yielded ops a.tmps) = b := by
  unfold guC at hw
  cases hg : o.guard with
  | none =>
    simp only [guardOf, hg] at hw
    simp only [wantedC, Option.some.injEq] at hw
    subst hw
    simp [Region.wanted, hg]
  | some p =>
    obtain ⟨j, want⟩ := p
    simp only [guardOf, hg] at hw
    cases hj : ops.toList[j]? with
    | none => rw [hj] at hw; simp [wantedC] at hw
    | some oj =>
      rw [hj] at hw
      simp only at hw
      cases hd : oj.dst with
      | none => rw [hd] at hw; simp [wantedC] at hw
      | some d =>
        rw [hd] at hw
        simp only [wantedC] at hw
        split at hw
        · rename_i c hv
          simp only [Option.some.injEq] at hw
          subst hw
          have := yielded_of hf hj hd hv
          simp only [Region.wanted, hg, this]
          cases c <;> cases want <;> rfl
        · rename_i v hn hv
          simp only [Option.some.injEq] at hw
          subst hw
          have := yielded_of hf hj hd hv
          simp only [Region.wanted, hg, this]
          cases v <;> first | rfl | exact (hn _ rfl).elim
        · cases hw

/-! ### The equations of runC -/

theorem runN_pure (R : Nat) (f : Tm → Option CV) (d : Dst) (next : CC) (call : Call) (tm : Tm) (S : St) :
    runN R (.pure f d next) call tm S = (match f tm with | none => .fail | some v => runN R next call (putD d v tm) S) := by
  show Option.rec (motive := fun _ => Res) _ _ (f tm) = _
  cases f tm <;> rfl
theorem runN_read (R : Nat) (f : Tm → St → Option CV) (d : Dst) (next : CC) (call : Call) (tm : Tm) (S : St) :
    runN R (.read f d next) call tm S = (match f tm S with | none => .fail | some v => runN R next call (putD d v tm) S) := by
  show Option.rec (motive := fun _ => Res) _ _ (f tm S) = _
  cases f tm S <;> rfl
theorem runN_new (R : Nat) (f : Tm → Option (CObj × (Nat → CV))) (d : Dst) (next : CC) (call : Call) (tm : Tm) (S : St) :
    runN R (.new f d next) call tm S = (match f tm with | none => .fail | some (o, mk) => (match alloc S o with | none => .fail | some (b, S) => runN R next call (putD d (mk b) tm) S)) := by
  show Option.rec (motive := fun _ => Res) _ _ (f tm) = _
  cases f tm with
  | none => rfl
  | some p =>
    obtain ⟨o, mk⟩ := p
    show Option.rec (motive := fun _ => Res) _ _ (alloc S o) = _
    simp only
    cases alloc S o with
    | none => rfl
    | some q => rfl
theorem runN_chain (R : Nat) (f : Tm → St → Option (ORes × St)) (d : Dst) (next : CC) (call : Call) (tm : Tm) (S : St) :
    runN R (.chain f d next) call tm S = (match callRes call (f tm S) with | .fail => .fail | .ok v S => runN R next call (putD d v tm) S) := by
  show CRes.rec (motive := fun _ => Res) _ _ (callRes call (f tm S)) = _
  cases callRes call (f tm S) <;> rfl
theorem runN_undef (R : Nat) (d : Dst) (next : CC) (call : Call) (tm : Tm) (S : St) : runN R (.undef d next) call tm S = runN R next call (putD d nothing tm) S := rfl
theorem runN_guard (R : Nat) (x : Opd) (want : Bool) (yes no : CC) (call : Call) (tm : Tm) (S : St) :
    runN R (.guard x want yes no) call tm S = (match wantedC (.on x want) tm with | none => .fail | some true => runN R yes call tm S | some false => runN R no call tm S) := by
  show (match x.eval tm with
      | some (.bool b) => bif b == want then runN R yes call tm S else runN R no call tm S
      | some _ => runN R no call tm S
      | none => Res.fail) = _
  have e : wantedC (.on x want) tm = (match x.eval tm with | some (.bool b) => some (b == want) | some _ => some false | none => none) := rfl
  rw [e]
  generalize x.eval tm = q
  cases q with
  | none => rfl
  | some v =>
    cases v with
    | bool b => cases b <;> cases want <;> rfl
    | _ => rfl
theorem runN_cond (R : Nat) (x : Opd) (yes no : CC) (call : Call) (tm : Tm) (S : St) :
    runN R (.cond x yes no) call tm S = (match x.eval tm with | some (.bool b) => (match b with | true => runN R yes call tm S | false => runN R no call tm S) | _ => .fail) := by
  show Option.rec (motive := fun _ => Res) _ _ (x.eval tm) = _
  cases x.eval tm with
  | none => rfl
  | some v =>
    cases v with
    | bool b => cases b <;> rfl
    | _ => rfl
theorem runN_block (R : Nat) (id : Nat) (body next : CC) (call : Call) (tm : Tm) (S : St) :
    runN R (.block id body next) call tm S = (match runN R body call tm S with
      | .fail => .fail
      | .normal tm S => runN R next call tm S
      | .exit i tm S => (match Nat.beq i id with | true => runN R next call tm S | false => .exit i tm S)
      | .ret tm S => .ret tm S) := by
  show Res.rec (motive := fun _ => Res) _ _ _ _ (runN R body call tm S) = _
  cases runN R body call tm S with
  | fail => rfl
  | normal tm S => rfl
  | exit i tm S =>
    show Bool.rec (motive := fun _ => Res) _ _ (Nat.beq i id) = _
    simp only
    cases Nat.beq i id <;> rfl
  | ret tm S => rfl

/-- n rounds of a loop at most. -/
noncomputable def roundsC (R : Nat) (body : CC) (call : Call) : Nat → Tm → St → Res
  | 0, _, _ => .fail
  | n + 1, tm, S => (match runN R body call tm S with
    | .fail => .fail
    | .normal tm S => roundsC R body call n tm S
    | .exit i tm S => .exit i tm S
    | .ret tm S => .ret tm S)

theorem runN_loop (R : Nat) (body : CC) (call : Call) (tm : Tm) (S : St) : runN R (.loop body) call tm S = roundsC R body call R tm S := by
  have key : ∀ (n : Nat) (tm : Tm) (S : St), Nat.rec (motive := fun _ => Tm → St → Res) (fun _ _ => .fail)
      (fun _ again tm S => Res.rec (motive := fun _ => Res) .fail (fun tm S => again tm S) (fun i tm S => .exit i tm S) (fun tm S => .ret tm S) (runN R body call tm S)) n tm S = roundsC R body call n tm S := by
    intro n
    induction n with
    | zero => intro tm S; rfl
    | succ n ih =>
      intro tm S
      show Res.rec (motive := fun _ => Res) _ _ _ _ (runN R body call tm S) = roundsC R body call (n + 1) tm S
      rw [roundsC]
      cases runN R body call tm S with
      | normal tm S => exact ih tm S
      | _ => rfl
  exact key R tm S

/-! ### Regions in their order -/

/-- Related to what was. -/
structure At (P : Program) (nt : Nat) (ρ : Ren) (tm : Tm) (S : St) (a : Act) (w : World) : Prop where
  rel : Rel ρ S w
  fr : FrRel ρ nt tm a
  glob : Glob P ρ

theorem At.step {nt : Nat} {ρ ρ' : Ren} {tm : Tm} {S S' : St} {a : Act} {w w' : World} (h : At P nt ρ tm S a w) (hs : Stp ρ S w ρ' S' w') {dst : Option Tmp} {d : Dst} (hd : dstOf nt dst = some d) {v : CV} {V : Value} (hv : real ρ' v = some V) :
    At P nt ρ' (putD d v tm) S' (a.put dst V) w' :=
  ⟨hs.rel, (h.fr.mono hs.ext).put hd hv, h.glob.mono hs.ext⟩

theorem ops_sound {call : Call} (hcall : CallOK P call) {nt : Nat} {ops : Array Oper} {R : Nat} {next : CC} {r : Res} (hr : r ≠ .fail) {K : Act → World → Prop} {Q : Exit → Act → World → Prop} :
    ∀ (l : List Oper) (i : Nat), ops.toList.drop i = l → ∀ (ρ : Ren) (tm : Tm) (S : St) (a : Act) (w : World), At P nt ρ tm S a w → runN R (opsCC P nt ops.toList l next) call tm S = r →
      (∀ ρ' tm' S' a' w', Stp ρ S w ρ' S' w' → At P nt ρ' tm' S' a' w' → a'.defers = a.defers → runN R next call tm' S' = r → K a' w') →
      wpOps P ops (Exit.then K Q) (List.range' i l.length) a w
  | [], i, hl, ρ, tm, S, a, w, hat, hrun, hK => by
    simp only [List.length_nil, List.range'_zero, wpOps, Exit.then]
    exact hK ρ tm S a w (Stp.refl hat.rel) hat rfl hrun
  | o :: l, i, hl, ρ, tm, S, a, w, hat, hrun, hK => by
    have ho : ops[i]? = some o := by
      have : ops.toList[i]? = some o := by
        have h := congrArg (fun m => m[0]?) hl
        simpa using h
      simpa using this
    have hl' : ops.toList.drop (i + 1) = l := by
      have h := congrArg (List.drop 1) hl
      simpa [List.drop_drop, Nat.add_comm] using h
    simp only [List.length_cons, List.range'_succ, wpOps, ho]
    simp only [opsCC] at hrun
    split at hrun
    · rename_i d hd
      -- the rest, after a step
      have rest : ∀ (v : CV) (S1 : St), runN R (opsCC P nt ops.toList l next) call (putD d v tm) S1 = r → ∀ ρ' w' V, Stp ρ S w ρ' S1 w' → real ρ' v = some V → wpOps P ops (Exit.then K Q) (List.range' (i + 1) l.length) (a.put o.dst V) w' := by
        intro v S1 hrun' ρ' w' V hs hv
        refine ops_sound hcall hr l (i + 1) hl' ρ' _ S1 _ w' (hat.step hs hd hv) hrun' (fun ρ'' tm'' S'' a'' w'' h1 h2 h3 h4 => ?_)
        exact hK ρ'' tm'' S'' a'' w'' (hs.trans h1) h2 (h3.trans (put_defers _ _ _)) h4
      -- the operation itself
      have run : runN R (opCC (opC P o.op) d (opsCC P nt ops.toList l next)) call tm S = r → o.wp P a w (wpOps P ops (Exit.then K Q) (List.range' (i + 1) l.length)) (Exit.then K Q) := by
        intro hrun
        have hok := opC_ok P o
        cases hc : opC P o.op with
        | bad => rw [hc] at hrun; exact absurd hrun.symm hr
        | pure f =>
          rw [hc] at hrun hok
          simp only [opCC, runN_pure] at hrun
          split at hrun
          · exact absurd hrun.symm hr
          · rename_i v hv
            exact pure_wp hok hv hat.fr hat.glob hat.rel (rest v S hrun)
        | read f =>
          rw [hc] at hrun hok
          simp only [opCC, runN_read] at hrun
          split at hrun
          · exact absurd hrun.symm hr
          · rename_i v hv
            exact read_wp hok hv hat.fr hat.glob hat.rel (rest v S hrun)
        | new f =>
          rw [hc] at hrun hok
          simp only [opCC, runN_new] at hrun
          split at hrun
          · exact absurd hrun.symm hr
          · rename_i obj mk hv
            split at hrun
            · exact absurd hrun.symm hr
            · rename_i b S1 hal
              exact new_wp hok hv hal hat.fr hat.glob hat.rel (rest (mk b) S1 hrun)
        | chain f =>
          rw [hc] at hrun hok
          simp only [opCC, runN_chain] at hrun
          split at hrun
          · exact absurd hrun.symm hr
          · rename_i v S1 hv
            exact chain_wp hok hcall hv hat.fr hat.glob hat.rel (rest v S1 hrun)
      -- whether it is wanted
      cases hg : guC ops.toList o with
      | bad => rw [hg] at hrun; exact absurd hrun.symm hr
      | free =>
        rw [hg] at hrun
        simp only [guCC] at hrun
        have := wanted_of hat.fr (ops := ops) (o := o) (b := true) (by rw [hg]; rfl)
        rw [this, if_pos rfl]
        exact .inl (run hrun)
      | on x want =>
        rw [hg] at hrun
        simp only [guCC, runN_guard] at hrun
        split at hrun
        · exact absurd hrun.symm hr
        · rename_i hw
          have := wanted_of hat.fr (ops := ops) (o := o) (b := true) (by rw [hg]; exact hw)
          rw [this, if_pos rfl]
          exact .inl (run hrun)
        · rename_i hw
          have := wanted_of hat.fr (ops := ops) (o := o) (b := false) (by rw [hg]; exact hw)
          rw [this]
          simp only [Bool.false_eq_true, if_false]
          rw [runN_undef] at hrun
          exact rest nothing S hrun ρ w undef (Stp.refl hat.rel) rfl
    · exact absurd hrun.symm hr

end
end Go.Ev

namespace Go.Ev

theorem Stp.same {ρ ρ' : Ren} {S S' : St} {w w2 w' : World} (h : Stp ρ S w2 ρ' S' w') (e : w2.heap = w.heap) (e1 : w2.os = w.os) (e2 : w2.tape = w.tape) (e3 : w2.output = w.output) : Stp ρ S w ρ' S' w' :=
  ⟨h.ext, h.rel, h.next, h.nk, fun x hx hn => by rw [h.keep x (by rw [e]; exact hx) hn, e], by rw [← e]; exact h.size, fun b B D hb hB hlt => h.dom b B D hb hB (by rw [e]; exact hlt), h.os.trans e1, h.tape.trans e2, h.output.trans e3, h.old⟩

/-- Regions that draw their order are sound. -/
def DrawOK (P : Program) : Prop :=
  ∀ (call : Call), CallOK P call → ∀ (nt : Nat) (ops : Array Oper) (K : Act → World → Prop) (Q : Exit → Act → World → Prop) (r : Res) (k : Tm → St → Res) (ρ : Ren) (tm : Tm) (S : St) (a : Act) (w : World),
    At P nt ρ tm S a w → drawRun (drawOf P nt ops.toList) call tm S k = r → r ≠ .fail →
    (∀ ρ' tm' S' a' w', Stp ρ S w ρ' S' w' → At P nt ρ' tm' S' a' w' → a'.defers = a.defers → k tm' S' = r → K a' w') →
    wpAny P .any ops (Exit.then K Q) ops.size (Array.replicate ops.size false) a w

/-- What has come about. -/
def After (P : Program) (nt : Nat) (ρ : Ren) (S : St) (w : World) (dfs : List Deferred) (r : Res) (e : Exit) (a : Act) (w' : World) : Prop :=
  match r with
  | .fail => False
  | .normal tm S' => e = .normal ∧ ∃ ρ', Stp ρ S w ρ' S' w' ∧ At P nt ρ' tm S' a w' ∧ a.defers = dfs
  | .exit id tm S' => e = .exit id ∧ ∃ ρ', Stp ρ S w ρ' S' w' ∧ At P nt ρ' tm S' a w' ∧ a.defers = dfs
  | .ret tm S' => e = .ret ∧ ∃ ρ', Stp ρ S w ρ' S' w' ∧ At P nt ρ' tm S' a w' ∧ a.defers = dfs

theorem After.from {P : Program} {nt : Nat} {ρ ρ1 : Ren} {S S1 : St} {w w1 w' : World} {d1 dfs : List Deferred} {r : Res} {e : Exit} {a : Act} (h : After P nt ρ1 S1 w1 d1 r e a w') (hs : Stp ρ S w ρ1 S1 w1) (hd : d1 = dfs) : After P nt ρ S w dfs r e a w' := by
  subst hd
  cases r with
  | fail => exact h
  | normal tm S' => obtain ⟨h1, ρ', h2, h3⟩ := h; exact ⟨h1, ρ', hs.trans h2, h3⟩
  | exit id tm S' => obtain ⟨h1, ρ', h2, h3⟩ := h; exact ⟨h1, ρ', hs.trans h2, h3⟩
  | ret tm S' => obtain ⟨h1, ρ', h2, h3⟩ := h; exact ⟨h1, ρ', hs.trans h2, h3⟩

section
variable {P : Program}

theorem code_sound (hm : P.follows .mixedOrders = true) (hdraw : DrawOK P) {call : Call} (hcall : CallOK P call) {nt R : Nat} (c : Code) : ∀ (next : CC) (r : Res) (K : Act → World → Prop) (Q : Exit → Act → World → Prop) (ρ : Ren) (tm : Tm) (S : St) (a : Act) (w : World),
    At P nt ρ tm S a w → runN R (codeCC P nt c next) call tm S = r → r ≠ .fail →
    (∀ ρ' tm' S' a' w', Stp ρ S w ρ' S' w' → At P nt ρ' tm' S' a' w' → a'.defers = a.defers → runN R next call tm' S' = r → K a' w') →
    (∀ e a' w', e ≠ .normal → After P nt ρ S w a.defers r e a' w' → Q e a' w') → c.wp P (Exit.then K Q) a w := by
  induction c with
  | skip =>
    intro next r K Q ρ tm S a w hat hrun hr hK hQ
    exact wp_skip (hK ρ tm S a w (Stp.refl hat.rel) hat rfl hrun)
  | label l =>
    intro next r K Q ρ tm S a w hat hrun hr hK hQ
    exact wp_label (hK ρ tm S a w (Stp.refl hat.rel) hat rfl hrun)
  | exit id =>
    intro next r K Q ρ tm S a w hat hrun hr hK hQ
    have hrun : Res.exit id tm S = r := hrun
    subst hrun
    exact wp_exit (hQ _ a w (by simp) ⟨rfl, ρ, Stp.refl hat.rel, hat, rfl⟩)
  | ret =>
    intro next r K Q ρ tm S a w hat hrun hr hK hQ
    have hrun : Res.ret tm S = r := hrun
    subst hrun
    exact wp_ret (hQ _ a w (by simp) ⟨rfl, ρ, Stp.refl hat.rel, hat, rfl⟩)
  | seq x y ihx ihy =>
    intro next r K Q ρ tm S a w hat hrun hr hK hQ
    refine wp_seq (ihx (codeCC P nt y next) r (y.wp P (Exit.then K Q)) (Exit.then K Q) ρ tm S a w hat hrun hr (fun ρ' tm' S' a' w' h1 h2 h3 h4 => ?_) (fun e a' w' he h => ?_))
    · refine ihy next r K Q ρ' tm' S' a' w' h2 h4 hr (fun ρ2 tm2 S2 a2 w2 g1 g2 g3 g4 => hK ρ2 tm2 S2 a2 w2 (h1.trans g1) g2 (g3.trans h3) g4) (fun e a2 w2 he h => hQ e a2 w2 he (h.from h1 h3))
    · have := hQ e a' w' he h
      cases e <;> first | exact (he rfl).elim | exact this
  | cond x yes no ihy ihn =>
    intro next r K Q ρ tm S a w hat hrun hr hK hQ
    simp only [codeCC, runN_cond] at hrun
    cases ht : (opd P x).eval tm with
    | none => rw [ht] at hrun; exact absurd hrun.symm hr
    | some u =>
      rw [ht] at hrun
      cases u with
      | bool t =>
        have hx := opd_real hat.fr hat.glob x _ ht
        simp only [real, Option.some.injEq] at hx
        cases t with
        | true => exact wp_cond_true hx.symm (ihy next r K Q ρ tm S a w hat hrun hr hK hQ)
        | false => exact wp_cond_false hx.symm (ihn next r K Q ρ tm S a w hat hrun hr hK hQ)
      | _ => exact absurd hrun.symm hr
  | block id body ih =>
    intro next r K Q ρ tm S a w hat hrun hr hK hQ
    simp only [codeCC, runN_block] at hrun
    refine wp_block ?_
    refine wp_mono (ih .fin (runN R (codeCC P nt body .fin) call tm S) K (Exit.inBlock id (Exit.then K Q)) ρ tm S a w hat rfl (fun e => by rw [e] at hrun; exact hr hrun.symm) (fun ρ' tm' S' a' w' h1 h2 h3 h4 => ?_) (fun e a' w' he h => ?_)) (fun e a' w' h => ?_)
    · have h4 : Res.normal tm' S' = _ := h4
      rw [← h4] at hrun
      exact hK ρ' tm' S' a' w' h1 h2 h3 hrun
    · generalize runN R (codeCC P nt body .fin) call tm S = q at hrun h
      cases q with
      | fail => exact h.elim
      | normal tm' S' => exact (he h.1).elim
      | exit i tm' S' =>
        obtain ⟨rfl, ρ', h1, h2, h3⟩ := h
        simp only at hrun
        simp only [Exit.inBlock]
        split at hrun
        · rename_i hb
          rw [if_pos (beq_of hb)]
          exact hK ρ' tm' S' a' w' h1 h2 h3 hrun
        · rename_i hb
          rw [if_neg (nat_beq_no hb)]
          subst hrun
          exact hQ _ a' w' he ⟨rfl, ρ', h1, h2, h3⟩
      | ret tm' S' =>
        obtain ⟨rfl, ρ', h1, h2, h3⟩ := h
        subst hrun
        exact hQ _ a' w' he ⟨rfl, ρ', h1, h2, h3⟩
    · cases e <;> exact h
  | loop body ih =>
    intro next r K Q ρ tm S a w hat hrun hr hK hQ
    simp only [codeCC, runN_loop] at hrun
    have key : ∀ (n : Nat) (ρ1 : Ren) (tm1 : Tm) (S1 : St) (a1 : Act) (w1 : World), Stp ρ S w ρ1 S1 w1 → At P nt ρ1 tm1 S1 a1 w1 → a1.defers = a.defers → roundsC R (codeCC P nt body .fin) call n tm1 S1 = r → Code.rounds P body (Exit.then K Q) n a1 w1 := by
      intro n
      induction n with
      | zero => intro ρ1 tm1 S1 a1 w1 _ _ _ h; exact absurd h.symm hr
      | succ n ihn =>
        intro ρ1 tm1 S1 a1 w1 hs1 hat1 hd1 h
        rw [rounds_succ]
        rw [roundsC] at h
        refine ih .fin (runN R (codeCC P nt body .fin) call tm1 S1) _ _ ρ1 tm1 S1 a1 w1 hat1 rfl (fun e => by rw [e] at h; exact hr h.symm) (fun ρ' tm' S' a' w' h1 h2 h3 h4 => ?_) (fun e a' w' he h' => ?_)
        · have h4 : Res.normal tm' S' = _ := h4
          rw [← h4] at h
          exact ihn ρ' tm' S' a' w' (hs1.trans h1) h2 (h3.trans hd1) h
        · generalize runN R (codeCC P nt body .fin) call tm1 S1 = q at h h'
          cases q with
          | fail => exact h'.elim
          | normal tm' S' => exact (he h'.1).elim
          | exit i tm' S' =>
            obtain ⟨rfl, ρ', h1, h2, h3⟩ := h'
            subst h
            exact hQ _ a' w' he ⟨rfl, ρ', hs1.trans h1, h2, h3.trans hd1⟩
          | ret tm' S' =>
            obtain ⟨rfl, ρ', h1, h2, h3⟩ := h'
            subst h
            exact hQ _ a' w' he ⟨rfl, ρ', hs1.trans h1, h2, h3.trans hd1⟩
    exact wp_loop_rounds R (key R ρ tm S a w (Stp.refl hat.rel) hat rfl hrun)
  | region id ops draws =>
    intro next r K Q ρ tm S a w hat hrun hr hK hQ
    cases draws with
    | false =>
      refine wp_region ?_
      have := ops_sound hcall (R := R) (ops := ops) (next := next) hr (K := K) (Q := Q) ops.toList 0 rfl ρ tm S a w hat hrun hK
      rwa [Array.length_toList, ← List.range_eq_range'] at this
    | true =>
      refine wp_region_any hm ?_
      have hat' : At P nt ρ tm S a { w with drawn := w.drawn + 1 } := ⟨hat.rel.heap rfl, hat.fr, hat.glob⟩
      exact hdraw call hcall nt ops K Q r (fun tm S => runN R next call tm S) ρ tm S a _ hat' hrun hr (fun ρ' tm' S' a' w' h1 h2 h3 h4 => hK ρ' tm' S' a' w' (h1.same rfl rfl rfl rfl) h2 h3 h4)
  | _ =>
    intro next r K Q ρ tm S a w hat hrun hr hK hQ
    exact absurd hrun.symm hr

end
end Go.Ev

namespace Go.Ev

section
variable {P : Program}

theorem layT_get : ∀ (vs : List CV) (tm : Tm) (i t : Nat), i + vs.length ≤ 256 → t < 256 → getT t (layT tm i vs) = if i ≤ t ∧ t < i + vs.length then vs[t - i]? else getT t tm
  | [], tm, i, t, h, ht => by
    rw [if_neg (by simp only [List.length_nil]; omega)]
    rfl
  | v :: vs, tm, i, t, h, ht => by
    simp only [List.length_cons] at h
    simp only [layT]
    rw [layT_get vs _ (i + 1) t (by omega) ht]
    by_cases h1 : i + 1 ≤ t ∧ t < i + 1 + vs.length
    · rw [if_pos h1, if_pos (by simp; omega)]
      rw [show t - i = (t - (i + 1)) + 1 by omega]
      simp
    · rw [if_neg h1]
      by_cases h2 : t = i
      · subst h2
        rw [if_pos (by simp), getT_setT_eq _ _ _ ht]
        simp
      · rw [if_neg (by simp; omega), getT_setT_ne _ _ _ _ (by omega) ht (fun e => h2 e.symm)]

theorem frame_start {ρ : Ren} {args : List CV} {L : List Value} (h : reals ρ args = some L) {nt : Nat} (h1 : args.length ≤ nt) (h2 : args.length ≤ 256) (dfs : List Deferred) :
    FrRel ρ nt (layT .empty 0 args) { tmps := L.toArray ++ Array.replicate (nt - L.toArray.size) undef, defers := dfs } := by
  have hlen := reals_length h
  refine ⟨by simp; omega, fun t v ht e => ?_⟩
  rw [layT_get args .empty 0 t (by omega) ht] at e
  split at e
  · rename_i hlt
    obtain ⟨V, hV, hV'⟩ := reals_get h _ _ e
    refine ⟨V, hV, ?_⟩
    rw [Array.getElem?_append_left (by simp; omega)]
    simpa using hV'
  · rw [getT_empty t ht] at e
    cases e

def resRun (tmps : Array Value) (r : ResultVar) : Sem Value :=
  match r with
  | .tmp t => pure (tmps.getD t undef)
  | .cell a t => do loadVar t (← asAddr (tmps.getD a undef))

theorem res_one {r : ResultVar} {f : Tm → St → Option CV} (hr : resC P r = some f) {nt : Nat} {ρ : Ren} {tm : Tm} {S : St} {a : Act} {w : World} (hat : At P nt ρ tm S a w) {v : CV} (hv : f tm S = some v) :
    ∃ V, real ρ v = some V ∧ (resRun a.tmps r).run P w = .ok V w := by
  cases r with
  | tmp t =>
    simp only [resC, Option.some.injEq] at hr
    subst hr
    exact ⟨_, opd_real hat.fr hat.glob (.tmp t) v hv, rfl⟩
  | cell x t =>
    simp only [resC] at hr
    split at hr
    · rename_i i hi
      cases hr
      unfold loadR at hv
      split at hv
      · rename_i p hp
        have hA := opd_real hat.fr hat.glob (.tmp x) p hp
        obtain ⟨V, h1, _, y, h3, h4⟩ := loadC_run hat.rel.has hi hv hA
        refine ⟨V, h1, ?_⟩
        have h3' : a.tmps.getD x undef = .pointer (some y) := h3
        simp only [resRun, h3', asAddr, Sem.run_bind, Sem.run_pure, Result.andThen_ok, h4]
      · cases hv
    · cases hr

theorem results_list {nt : Nat} {ρ : Ren} {tm : Tm} {S : St} {a : Act} {w : World} (hat : At P nt ρ tm S a w) : ∀ (rs : List ResultVar) (l : List (Tm → St → Option CV)) (vs : List CV), resL P rs = some l → readL l tm S = some vs →
    ∃ L, reals ρ vs = some L ∧ (rs.mapM (resRun a.tmps)).run P w = .ok L w
  | [], l, vs, h, h' => by
    simp only [resL, Option.some.injEq] at h
    subst h
    simp only [readL, Option.some.injEq] at h'
    subst h'
    exact ⟨[], rfl, rfl⟩
  | r :: rs, l, vs, h, h' => by
    simp only [resL] at h
    split at h
    · rename_i f l' hf hl
      cases h
      simp only [readL] at h'
      split at h'
      · rename_i v hv
        split at h'
        · rename_i us hus
          cases h'
          obtain ⟨V, h1, h2⟩ := res_one hf hat hv
          obtain ⟨L, h3, h4⟩ := results_list hat rs l' us hl hus
          refine ⟨V :: L, reals_cons h1 h3, ?_⟩
          rw [List.mapM_cons]
          simp only [Sem.run_bind, h2, Result.andThen_ok, h4, Sem.run_pure]
        · cases h'
      · cases h'
    · cases h

theorem results_eq (fn : Func) (tmps : Array Value) : results fn tmps = ((fn.results.mapM (resRun tmps)) >>= fun vs => pure (if h : vs.size = 1 then vs[0] else .tuple vs)) := rfl

theorem results_run {nt : Nat} {ρ : Ren} {tm : Tm} {S : St} {a : Act} {w : World} (hat : At P nt ρ tm S a w) {fn : Func} {l : List (Tm → St → Option CV)} {vs : List CV} (h : resL P fn.results.toList = some l) (h' : readL l tm S = some vs) :
    ∃ V, real ρ (tupled vs) = some V ∧ (results fn a.tmps).run P w = .ok V w := by
  obtain ⟨L, h1, h2⟩ := results_list hat fn.results.toList l vs h h'
  have e : (results fn a.tmps).run P w = .ok (if h : L.toArray.size = 1 then L.toArray[0] else .tuple L.toArray) w := by
    rw [results_eq, Array.mapM_eq_mapM_toList]
    simp only [Sem.run_bind, Sem.run_map, Result.andThen_ok, h2, Sem.run_pure]
  rw [e]
  clear e h2 h' h
  cases vs with
  | nil =>
    simp only [reals, Option.some.injEq] at h1
    subst h1
    exact ⟨_, rfl, rfl⟩
  | cons v vs =>
    cases vs with
    | nil =>
      simp only [reals, Option.bind_eq_some_iff, Option.map_eq_some_iff, Option.some.injEq] at h1
      obtain ⟨V, hV, _, rfl, rfl⟩ := h1
      exact ⟨V, hV, rfl⟩
    | cons u vs =>
      have hlen := reals_length h1
      refine ⟨.tuple L.toArray, by simp [tupled, real, h1], ?_⟩
      rw [dif_neg (by simp only [List.size_toArray, hlen, List.length_cons]; omega)]

/-- Functions that are done otherwise: told by hand. -/
def PrimsOK (P : Program) (prims : Prims) : Prop :=
  ∀ (f : FuncId) (p : List CV → St → CRes), prims f = some p → ∀ (args : List CV) (S : St) (v : CV) (S' : St) (ρ : Ren) (w : World) (L : List Value), p args S = .ok v S' → Rel ρ S w → Glob P ρ → reals ρ args = some L →
    ∀ (o : Oper) (a : Act) (next : Act → World → Prop) (Q : Exit → Act → World → Prop),
      (∀ ρ' w' V, Stp ρ S w ρ' S' w' → real ρ' v = some V → next (a.put o.dst V) w') → o.upon P a next Q ((callFunc f L.toArray).run P w)

/-- What a function's code does. -/
theorem fn_sound (hm : P.follows .mixedOrders = true) (hdraw : DrawOK P) {call : Call} (hcall : CallOK P call) {f : FuncId} {args : List CV} {S S' : St} {v : CV} (h : callK (fnC P f) call args S = .ok v S') {ρ : Ren} {w : World} {L : List Value}
    (hr : Rel ρ S w) (hg : Glob P ρ) (hL : reals ρ args = some L) :
    (∃ fn, P.funcs[f]? = some fn ∧ fn.body.isSome = true) ∧ Calls P f L.toArray w fun e w' => ∃ ρ' V, e = .returned V ∧ Stp ρ S w ρ' S' w' ∧ real ρ' v = some V := by
  unfold fnC at h
  split at h
  · rename_i fn hfn
    split at h
    · rename_i c hc
      split at h
      · rename_i rs hrs
        refine ⟨⟨fn, hfn, by simp [hc]⟩, ?_⟩
        simp only [callK] at h
        cases hb : (Nat.ble args.length fn.ntmps && Nat.ble args.length 256) with
        | false => rw [hb] at h; cases h
        | true =>
          rw [hb, cond_true] at h
          simp only [Bool.and_eq_true] at hb
          refine calls_of_wp hfn hc ?_
          have hat : At P fn.ntmps ρ (layT .empty 0 args) S { tmps := L.toArray ++ Array.replicate (fn.ntmps - L.toArray.size) undef, defers := [] } w := ⟨hr, frame_start hL (ble_of hb.1) (ble_of hb.2) [], hg⟩
          generalize hq : runC (codeCC P fn.ntmps c .fin) call (layT .empty 0 args) S = q at h
          -- what the end wants
          have fin : ∀ (ρ' : Ren) (tm' : Tm) (S1 : St) (a' : Act) (w' : World), Stp ρ S w ρ' S1 w' → At P fn.ntmps ρ' tm' S1 a' w' → a'.defers = [] → finish rs tm' S1 = .ok v S' →
              a'.defers = [] ∧ ∃ V, (results fn a'.tmps).run P w' = .ok V w' ∧ ∃ ρ' V', Ending.returned V = .returned V' ∧ Stp ρ S w ρ' S' w' ∧ real ρ' v = some V' := by
            intro ρ' tm' S1 a' w' h1 h2 h3 h4
            unfold finish at h4
            split at h4
            · rename_i vs hvs
              cases h4
              obtain ⟨V, g1, g2⟩ := results_run h2 hrs hvs
              exact ⟨h3, V, g2, ρ', V, rfl, h1, g1⟩
            · cases h4
          have hne : q ≠ .fail := fun e => by rw [e] at h; cases h
          refine wp_mono (code_sound hm hdraw hcall (R := rounds) c .fin q (fun a' w' => ∀ e, (e = Exit.normal ∨ e = .ret) → bodyPost P fn (fun e w' => ∃ ρ' V, e = .returned V ∧ Stp ρ S w ρ' S' w' ∧ real ρ' v = some V) e a' w')
            (bodyPost P fn (fun e w' => ∃ ρ' V, e = .returned V ∧ Stp ρ S w ρ' S' w' ∧ real ρ' v = some V)) ρ _ S _ w hat hq hne (fun ρ' tm' S1 a' w' h1 h2 h3 h4 e he => ?_) (fun e a' w' he ha => ?_)) (fun e a' w' h' => ?_)
          · have h4 : Res.normal tm' S1 = q := h4
            subst h4
            have := fin ρ' tm' S1 a' w' h1 h2 h3 h
            rcases he with rfl | rfl <;> exact this
          · cases q with
            | fail => exact ha.elim
            | normal tm' S1 => exact (he ha.1).elim
            | exit i tm' S1 => cases h
            | ret tm' S1 =>
              obtain ⟨rfl, ρ', h1, h2, h3⟩ := ha
              exact fin ρ' tm' S1 a' w' h1 h2 h3 h
          · cases e <;> first | exact h' .normal (.inl rfl) | exact h'
      · cases h
    · cases h
  · cases h

theorem callF_ok (hm : P.follows .mixedOrders = true) (hdraw : DrawOK P) (hn : ∀ (f : FuncId) (fn : Func), P.funcs[f]? = some fn → fn.body.isSome = true → (fn.name == "runtime.NumGoroutine") = false) {prims : Prims} (hp : PrimsOK P prims) :
    ∀ n, CallOK P (callF P prims n)
  | 0 => by
    intro f args S v S' ρ w L h
    cases h
  | n + 1 => by
    intro f args S v S' ρ w L h hr hg hL o a next Q hK
    have ih := callF_ok hm hdraw hn hp n
    have e : callF P prims (n + 1) f args S = (match prims f with | some p => p args S | none => callK (fnC P f) (callF P prims n) args S) := rfl
    rw [e] at h
    cases hpf : prims f with
    | some p =>
      rw [hpf] at h
      exact hp f p hpf args S v S' ρ w L h hr hg hL o a next Q hK
    | none =>
      rw [hpf] at h
      obtain ⟨⟨fn, h1, h2⟩, h3⟩ := fn_sound hm hdraw ih h hr hg hL
      have hc : (callFunc f L.toArray).run P w = .ok (.enter f L.toArray) w := by
        have hnb : fn.body ≠ none := by cases hb : fn.body <;> simp_all
        have hnn : fn.name ≠ "runtime.NumGoroutine" := by simpa using hn f fn h1 h2
        simp [callFunc, h1, hnn, hnb]
      rw [hc, Oper.upon_enter]
      refine Calls.mono h3 (fun e' w' he => ?_)
      obtain ⟨ρ', V, rfl, g1, g2⟩ := he
      exact hK ρ' w' V g1 g2

end
end Go.Ev
