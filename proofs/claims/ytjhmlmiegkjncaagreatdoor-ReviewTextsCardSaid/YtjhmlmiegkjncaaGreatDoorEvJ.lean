/-
  An interface value compared with nil. A deferred call that only asks whether there is a panic. Operations that read memory. Bytes made a string. Operations that make memory, and those that write it.
-/
import Derived.Test.YtjhmlmiegkjncaaGreatDoorEvI
import Derived.Recover
import Derived.Laws.BytesArg
set_option linter.all false

namespace Go.Ev

section
variable {P : Program} {o : Oper}

theorem equalIn_nil {D : Nat} {t : TypeId} {ms : Array (String × TypeId)} (hun : P.underlying t = some (.interface ms)) (w : World) : (Op.equalIn (D + 1) t .nilIface .nilIface).run P w = .ok true w := by
  simp [Op.equalIn, run_underlying hun]
theorem equalIn_some {D : Nat} {t t1 : TypeId} {v1 : Value} {ms : Array (String × TypeId)} (hun : P.underlying t = some (.interface ms)) (w : World) : (Op.equalIn (D + 1) t (.iface t1 v1) .nilIface).run P w = .ok false w := by
  simp [Op.equalIn, run_underlying hun]

theorem pure_ifNilR {op : BinOp} {t t' : TypeId} {x y : Operand} {i : TyE} {ms : Array (String × TypeId)} (ht : tyOf P t = some i) (hi : i.desc = .interface ms) (hy : isNiliConst y = true) (ho : o.op = .binOp op t x y t') :
    PureOK P o (eval1 (opd P x) (ifNil op)) := by
  intro ρ nt tm a v hf hg h
  obtain ⟨u, hu, h⟩ := eval1_some h
  have hx := opd_real hf hg x u hu
  have hun : P.underlying t = some i.desc := by obtain ⟨_, _, h2, _⟩ := tyOf_some ht; exact h2
  rw [hi] at hun
  have hY : a.eval y = .nilIface := by
    cases y <;> simp only [isNiliConst, Bool.false_eq_true] at hy
    rename_i c
    cases c <;> simp only [Bool.false_eq_true] at hy
    rfl
  have fin : ∀ (X : Value) (b : Bool), a.eval x = X → (X = .nilIface ∨ ∃ t1 v1, X = .iface t1 v1) → (∀ w, (Op.equal t X .nilIface).run P w = .ok b w) →
      nilRes op b = some v → ∃ V, real ρ v = some V ∧ ∀ w, (execOp a.eval o).run P w = .ok (.value V) w := by
    intro X b hX hsh he hv
    have guard : ∀ w, (eqGuard op t x y X .nilIface).run P w = .ok () w := by
      intro w
      unfold eqGuard
      cases y <;> simp only [isNiliConst, Bool.false_eq_true] at hy
      rcases hsh with rfl | ⟨t1, v1, rfl⟩
      · cases op <;> simp
      · cases op <;> simp
    have n1 : ∀ k n, X ≠ .int k n := by rcases hsh with rfl | ⟨t1, v1, rfl⟩ <;> simp
    cases op <;> simp only [nilRes, reduceCtorEq, Option.some.injEq] at hv
    all_goals
      subst hv
      refine ⟨_, rfl, fun w => ?_⟩
      rcases hsh with rfl | ⟨t1, v1, rfl⟩ <;>
      simp only [execOp, ho, hX, hY, Sem.run_bind, guard w, Result.andThen_ok, binOp, he w, Sem.run_pure]
  cases u <;> simp only [ifNil, reduceCtorEq] at h
  case nili =>
    simp only [real, Option.some.injEq] at hx
    exact fin _ true hx.symm (.inl rfl) (fun w => equalIn_nil (D := 9999) hun w) h
  case iface t1 v1 =>
    simp only [real, Option.map_eq_some_iff] at hx
    obtain ⟨z, hz, hx⟩ := hx
    exact fin _ false hx.symm (.inr ⟨_, _, rfl⟩) (fun w => equalIn_some (D := 9999) hun w) h

end
end Go.Ev

namespace Go.Ev

section
variable {P : Program}

theorem put_size (a : Act) (dst : Option Tmp) (V : Value) : (a.put dst V).tmps.size = a.tmps.size := by cases dst <;> simp [Act.put]
theorem put_eval (a : Act) (d : Tmp) (V : Value) (h : d < a.tmps.size) : (a.put (some d) V).eval (.tmp d) = V := by
  simp only [Act.eval, Act.put]
  rw [Array.getD_eq_getD_getElem?, Array.getElem?_setIfInBounds_self_of_lt h]
  rfl

theorem wanted_none {o : Oper} (h : o.guard = none) (y : Nat → Option Bool) : Region.wanted o y = true := by
  unfold Region.wanted
  rw [h]

theorem run_neq_nil {o : Oper} {ty yt : TypeId} {x y : Operand} {ms : Array (String × TypeId)} (hun : P.underlying ty = some (.interface ms)) (hy : isNiliConst y = true) (ho : o.op = .binOp .neq ty x y yt) {a : Act} (hx : a.eval x = .nilIface) (w : World) :
    (execOp a.eval o).run P w = .ok (.value (.bool false)) w := by
  cases y <;> simp only [isNiliConst, Bool.false_eq_true] at hy
  rename_i c
  cases c <;> simp only [Bool.false_eq_true] at hy
  have he : (Op.equal ty .nilIface .nilIface).run P w = .ok true w := equalIn_nil (D := 9999) hun w
  have hg : (eqGuard .neq ty x (.const .nilIface) .nilIface .nilIface).run P w = .ok () w := by
    unfold eqGuard
    simp
  have hY : a.eval (.const .nilIface) = .nilIface := rfl
  simp only [execOp, ho, hx, hY, Sem.run_bind, hg, Result.andThen_ok, binOp, he, Sem.run_pure]
  rfl

theorem idle_sound {f : FuncId} (h : idleFn P f = true) (args : Array Value) (w : World) :
    CallsD P f args .returning w (fun e u' w' => (∃ v, e = .returned v) ∧ u' = .returning ∧ w' = w) ∧ ∀ args w, (callFunc f args).run P w = .ok (.enter f args) w := by
  unfold idleFn at h
  split at h
  · rename_i fn hfn
    split at h
    · rename_i c hc
      split at h
      · rename_i ty hty
        split at h
        · rename_i i hi
          simp only [Bool.and_eq_true] at h
          obtain ⟨⟨h1, h2⟩, h3⟩ := h
          have hname : fn.name ≠ "runtime.NumGoroutine" := by simpa using h3
          have hres : fn.results = #[] := by simpa using h2
          have hun : ∃ ms, P.underlying ty = some (.interface ms) := by
            obtain ⟨_, _, g, _⟩ := tyOf_some hi
            cases hd : i.desc <;> rw [hd] at h1 g <;> simp only [isIfaceD, Bool.false_eq_true] at h1
            exact ⟨_, g⟩
          obtain ⟨ms, hun⟩ := hun
          refine ⟨?_, fun args w => by simp [callFunc, hfn, hname, hc]⟩
          unfold idleCode at hty
          split at hty
          · rename_i i0 ops0 i1 ops1 t c2
            split at hty
            · rename_i o0 o1 o2 o3 e0 e1
              have e0 : ops0 = #[o0, o1] := by apply Array.ext'; simpa using e0
              have e1 : ops1 = #[o2, o3] := by apply Array.ext'; simpa using e1
              subst e0 e1
              unfold idleOps at hty
              split at hty
              · rename_i g0 g1 g2 g3
                split at hty
                · rename_i d0 cl d1 x1 d2 x2 d3 ty' x3 y yt q1 q2 q3 q4 q5 q6 q7 q8
                  cases hb : (isRecoverC cl.callee && Nat.beq x1 d0 && Nat.beq x2 d1 && Nat.beq x3 d2 && Nat.beq t d3 && isNiliConst y && Nat.blt d0 fn.ntmps && Nat.blt d1 fn.ntmps && Nat.blt d2 fn.ntmps && Nat.blt d3 fn.ntmps) with
                  | false => rw [hb] at hty; cases hty
                  | true =>
                    rw [hb, cond_true] at hty
                    cases hty
                    simp only [Bool.and_eq_true] at hb
                    obtain ⟨⟨⟨⟨⟨⟨⟨⟨⟨b1, b2⟩, b3⟩, b4⟩, b5⟩, b6⟩, b7⟩, b8⟩, b9⟩, b10⟩ := hb
                    obtain rfl := beq_of b2
                    obtain rfl := beq_of b3
                    obtain rfl := beq_of b4
                    obtain rfl := beq_of b5
                    have b7 := blt_of b7
                    have b8 := blt_of b8
                    have b9 := blt_of b9
                    have b10 := blt_of b10
                    have hcal : cl.callee = .builtin .recover := by
                      cases hq : cl.callee <;> rw [hq] at b1 <;> simp only [isRecoverC, Bool.false_eq_true] at b1
                      rename_i bb
                      cases bb <;> simp only [Bool.false_eq_true] at b1
                      rfl
                    refine callsD_of_wpS hfn hc fun c₀ cs hu => ?_
                    generalize ha : ({ tmps := args ++ Array.replicate (fn.ntmps - args.size) undef, defers := [] } : Act) = a
                    have hsz : fn.ntmps ≤ a.tmps.size := by rw [← ha]; simp; omega
                    have hdf : a.defers = [] := by rw [← ha]
                    have hrec : recoverD (c₀ :: cs) = none := by
                      unfold recoverD
                      simp only [hu]
                    have r0 : (execOp a.eval o0).run P w = .ok .recover w := by
                      simp [execOp, q2, resolve, hcal, invoke, builtin]
                    refine wpS_seq (wpS_region ?_)
                    simp only [List.size_toArray, List.length_cons, List.length_nil, Nat.zero_add, Nat.reduceAdd, List.range_eq_range', List.range'_succ, List.range'_zero, wpOpsS, List.getElem?_toArray, List.getElem?_cons_zero, List.getElem?_cons_succ, wanted_none g0, wanted_none g1, if_true, r0, hrec, q1]
                    have z1 : fn.ntmps ≤ (a.put (some x1) Value.nilIface).tmps.size := by rw [put_size]; exact hsz
                    have r1 : (execOp (a.put (some x1) Value.nilIface).eval o1).run P w = .ok (.value .nilIface) w := by
                      have := put_eval a x1 .nilIface (Nat.lt_of_lt_of_le b7 hsz)
                      simp [execOp, q4, this]
                    rw [r1]
                    simp only [Oper.upon_value, q3]
                    generalize ha1 : (a.put (some x1) Value.nilIface).put (some x2) Value.nilIface = a1
                    have hx2 : a1.eval (.tmp x2) = .nilIface := by rw [← ha1]; exact put_eval _ _ _ (Nat.lt_of_lt_of_le b8 z1)
                    have z2 : fn.ntmps ≤ a1.tmps.size := by rw [← ha1, put_size]; exact z1
                    have d2 : a1.defers = [] := by rw [← ha1, put_defers, put_defers]; exact hdf
                    show Code.wpS P _ _ a1 (c₀ :: cs) w
                    refine wpS_seq (wpS_region ?_)
                    have r2 : (execOp a1.eval o2).run P w = .ok (.value .nilIface) w := by
                      simp [execOp, q6, hx2]
                    simp only [List.size_toArray, List.length_cons, List.length_nil, Nat.zero_add, Nat.reduceAdd, List.range_eq_range', List.range'_succ, List.range'_zero, wpOpsS, List.getElem?_toArray, List.getElem?_cons_zero, List.getElem?_cons_succ, wanted_none g2, wanted_none g3, if_true, r2, Oper.upon_value, q5]
                    generalize ha2 : a1.put (some x3) Value.nilIface = a2
                    have hx3 : a2.eval (.tmp x3) = .nilIface := by rw [← ha2]; exact put_eval _ _ _ (Nat.lt_of_lt_of_le b9 z2)
                    have z3 : fn.ntmps ≤ a2.tmps.size := by rw [← ha2, put_size]; exact z2
                    have d3 : a2.defers = [] := by rw [← ha2, put_defers]; exact d2
                    rw [run_neq_nil hun b6 q8 hx3 w]
                    simp only [Oper.upon_value, q7]
                    generalize ha3 : a2.put (some t) (Value.bool false) = a3
                    have ht : a3.eval (.tmp t) = .bool false := by rw [← ha3]; exact put_eval _ _ _ (Nat.lt_of_lt_of_le b10 z3)
                    have d4 : a3.defers = [] := by rw [← ha3, put_defers]; exact d3
                    show Code.wpS P _ _ a3 (c₀ :: cs) w
                    refine wpS_cond ht ?_
                    simp only [Bool.false_eq_true, if_false]
                    refine wpS_of_wp (wp_skip ?_)
                    have hr : (results fn a3.tmps).run P w = .ok (.tuple #[]) w := by
                      unfold results
                      rw [hres]
                      simp
                    exact ⟨d4, .returning, by rw [← hu], _, hr, ⟨_, rfl⟩, rfl, rfl⟩
                · cases hty
              · cases hty
            · cases hty
          · cases hty
        · cases h
      · cases h
    · cases h
  · cases h

end
end Go.Ev

namespace Go.Ev

/-- Whatever the state holds lies in the world. -/
def Has (ρ : Ren) (S : St) (w : World) : Prop :=
  ∀ b o, S.heap.get b = some o → ∃ B D O, ρ.b b = some (B, D) ∧ w.heap[B]? = some O ∧ ObjRel ρ D o O

theorem getN_some : ∀ {c : Tr CV} {n i : Nat} {l : List CV}, getN c i n = some l → l.length = n ∧ ∀ j, j < n → c.get (i + j) = l[j]?
  | c, 0, i, l, h => by simp [getN] at h; subst h; exact ⟨rfl, fun j hj => by omega⟩
  | c, n + 1, i, l, h => by
    simp only [getN] at h
    split at h
    · cases h
    · rename_i v hv
      split at h
      · cases h
      · rename_i vs hvs
        cases h
        obtain ⟨h1, h2⟩ := getN_some hvs
        refine ⟨by simp [h1], fun j hj => ?_⟩
        cases j with
        | zero => simpa using hv
        | succ j =>
          have := h2 j (by omega)
          rw [show i + (j + 1) = i + 1 + j by omega, this]
          simp

section
variable {P : Program} {ρ : Ren} {S : St} {w : World}

/-- One cell. -/
theorem row_cell (h : Has ρ S w) {b : Nat} {c : Tr CV} {sh hi : Nat} {wr : Bool} {id sz ty : Nat} (hb : S.heap.get b = some (.row c sh hi wr id sz ty)) :
    ∃ B D cs t fz, ρ.b b = some (B, D) ∧ w.heap[B]? = some (.cells cs t fz) ∧
      ∀ i, i < hi → ∃ v V, c.get (i + sh) = some v ∧ real ρ v = some V ∧ w.cell? ⟨B, i + D, none⟩ = some V ∧ (wr = true → w.frozen? ⟨B, i + D, none⟩ = false) := by
  obtain ⟨B, D, O, h1, h2, h3⟩ := h b _ hb
  cases O with
  | cells cs t fz =>
    refine ⟨B, D, cs, t, fz, h1, h2, fun i hi' => ?_⟩
    obtain ⟨v, V, e1, e2, e3, e4⟩ := h3.1 i hi'
    refine ⟨v, V, e1, e2, by simp [World.cell?, h2, e3], fun hw => ?_⟩
    have := e4 hw
    obtain ⟨lo, up⟩ := fz
    simp only [World.frozen?, h2]
    simp only [not_and] at this
    by_cases hl : lo ≤ i + D
    · have := this hl
      simp [hl]; omega
    · simp [hl]
  | _ => exact h3.elim

theorem loadN_run (h : Has ρ S w) {b o n : Nat} {l : List CV} (hl : loadN S b o n = some l) :
    ∃ B D L, ρ.b b = some (B, D) ∧ reals ρ l = some L ∧ L.length = n ∧ l.length = n ∧ (loadCells ⟨B, o + D, none⟩ n).run P w = .ok L.toArray w := by
  unfold loadN at hl
  split at hl
  · rename_i c sh hi wr id sz ty hb
    cases hc : Nat.ble (o + n) hi with
    | false => rw [hc] at hl; cases hl
    | true =>
      rw [hc, cond_true] at hl
      have hc := ble_of hc
      obtain ⟨B, D, cs, t, fz, h1, h2, h3⟩ := row_cell h hb
      obtain ⟨g1, g2⟩ := getN_some hl
      have hex : ∀ (m : Nat) (l' : List CV), l'.length = m → (∀ j, j < m → ∃ V, ∀ v, l'[j]? = some v → real ρ v = some V) → ∃ L, reals ρ l' = some L := by
        intro m
        induction m with
        | zero => intro l' hl' _; cases l' <;> simp at hl'; exact ⟨[], rfl⟩
        | succ m ih =>
          intro l' hl' hh
          cases l' with
          | nil => simp at hl'
          | cons v l' =>
            obtain ⟨V, hV⟩ := hh 0 (by omega)
            have hv := hV v (by simp)
            obtain ⟨L, hL⟩ := ih l' (by simpa using hl') (fun j hj => by obtain ⟨V, hV⟩ := hh (j + 1) (by omega); exact ⟨V, fun v hv => hV v (by simpa using hv)⟩)
            exact ⟨V :: L, reals_cons hv hL⟩
      obtain ⟨L, hL⟩ := hex n l g1 (fun j hj => by
        obtain ⟨v, V, e1, e2, _⟩ := h3 (o + j) (by omega)
        refine ⟨V, fun u hu => ?_⟩
        have := g2 j hj
        rw [show o + sh + j = o + j + sh by omega, e1, hu] at this
        cases this
        exact e2)
      have hlen := reals_length hL
      refine ⟨B, D, L, h1, hL, by omega, g1, ?_⟩
      have := run_loadCells_list (P := P) w ⟨B, o + D, none⟩ L (fun j V hj => by
        have hjn : j < n := by
          rcases Nat.lt_or_ge j L.length with h | h
          · omega
          · simp [List.getElem?_eq_none h] at hj
        obtain ⟨v, V', e1, e2, e3, _⟩ := h3 (o + j) (by omega)
        have := g2 j hjn
        rw [show o + sh + j = o + j + sh by omega, e1] at this
        obtain ⟨U, hU, hU'⟩ := reals_get hL j v this.symm
        rw [hj] at hU'
        cases hU'
        rw [e2] at hU
        cases hU
        rw [add_addr, show o + D + j = o + j + D by omega]
        exact e3)
      rw [show L.length = n by omega] at this
      exact this
  · cases hl

theorem load1_run (h : Has ρ S w) {b o : Nat} {v : CV} (hl : load1 S b o = some v) :
    ∃ B D V, ρ.b b = some (B, D) ∧ real ρ v = some V ∧ w.cell? ⟨B, o + D, none⟩ = some V := by
  unfold load1 at hl
  split at hl
  · rename_i c sh hi wr id sz ty hb
    cases hc : Nat.blt o hi with
    | false => rw [hc] at hl; cases hl
    | true =>
      rw [hc, cond_true] at hl
      obtain ⟨B, D, cs, t, fz, h1, h2, h3⟩ := row_cell h hb
      obtain ⟨u, V, e1, e2, e3, _⟩ := h3 o (blt_of hc)
      rw [e1] at hl
      cases hl
      exact ⟨B, D, V, h1, e2, e3⟩
  · cases hl

/-- A load at a type. -/
theorem loadC_run (h : Has ρ S w) {t : TypeId} {i : TyE} (ht : tyOf P t = some i) {p v : CV} (hl : loadC i.size (isAggD i.desc) p S = some v) {A : Value} (hp : real ρ p = some A) :
    ∃ V, real ρ v = some V ∧ (Instr.loadAt t A).run P w = .ok V w ∧ ∃ x, A = .pointer (some x) ∧ (loadVar t x).run P w = .ok V w := by
  unfold loadC at hl
  split at hl
  · rename_i b o
    simp only [real, Option.map_eq_some_iff] at hp
    obtain ⟨⟨B, D⟩, hb, rfl⟩ := hp
    have key : ∃ V, real ρ v = some V ∧ (loadVar t ⟨B, o + D, none⟩).run P w = .ok V w := by
      cases ha : isAggD i.desc with
      | true =>
        rw [ha, cond_true] at hl
        split at hl
        · rename_i l hn
          cases hl
          obtain ⟨B', D', L, e1, e2, e3, e4, e5⟩ := loadN_run (P := P) h hn
          rw [hb] at e1
          cases e1
          refine ⟨.agg L.toArray, by simp [real, e2], ?_⟩
          simp [loadVar, run_isAgg' ht w, ha, run_sizeOf' ht w, e5]
        · cases hl
      | false =>
        rw [ha, cond_false] at hl
        obtain ⟨B', D', V, e1, e2, e3⟩ := load1_run h hl
        rw [hb] at e1
        cases e1
        refine ⟨V, e2, ?_⟩
        simp [loadVar, run_isAgg' ht w, ha, e3]
    obtain ⟨V, hV, hV'⟩ := key
    exact ⟨V, hV, by simp [Instr.loadAt, Instr.sureAddr, hV'], _, rfl, hV'⟩
  · cases hl
end

/-- An operation that reads memory yields what the evaluator says. -/
def ReadOK (P : Program) (o : Oper) (f : Tm → St → Option CV) : Prop :=
  ∀ (ρ : Ren) (nt : Nat) (tm : Tm) (a : Act) (v : CV) (S : St) (w : World), FrRel ρ nt tm a → Glob P ρ → Has ρ S w → f tm S = some v →
    ∃ V, real ρ v = some V ∧ (execOp a.eval o).run P w = .ok (.value V) w

section
variable {P : Program} {o : Oper}

theorem read_load {t : TypeId} {x : Operand} {i : TyE} (ht : tyOf P t = some i) (ho : o.op = .load t x) : ReadOK P o (loadR i.size (isAggD i.desc) (opd P x)) := by
  intro ρ nt tm a v S w hf hg hh h
  unfold loadR at h
  split at h
  · rename_i p hp
    obtain ⟨V, hV, hV', _⟩ := loadC_run hh ht h (opd_real hf hg x p hp)
    exact ⟨V, hV, by simp [execOp, ho, hV']⟩
  · cases h

/-! Maps. -/

/-- How a key is compared with an entry's: at once, or by asking. -/
def KSame (P : Program) (kt : TypeId) (d : TypeDesc) (K K' : Value) (r : Bool) : Prop :=
  Instr.sameNow d K K' = some r ∨ ((∀ A B, Instr.sameNow d A B = none) ∧ ∀ w, (Op.equal kt K K').run P w = .ok r w)

/-- The entry at i is the first one with this key. -/
def HitAt (P : Program) (kt : TypeId) (d : TypeDesc) (K : Value) (L : List MapEntry) (i : Nat) (V : Value) : Prop :=
  ∃ x, L[i]? = some x ∧ x.val = V ∧ KSame P kt d K x.key true ∧ ∀ j, j < i → ∀ y, L[j]? = some y → KSame P kt d K y.key false

theorem HitAt.zero {kt : TypeId} {d : TypeDesc} {K : Value} {x : MapEntry} {L : List MapEntry} (h : KSame P kt d K x.key true) : HitAt P kt d K (x :: L) 0 x.val :=
  ⟨x, rfl, rfl, h, fun j hj => by omega⟩

theorem HitAt.succ {kt : TypeId} {d : TypeDesc} {K V : Value} {y : MapEntry} {L : List MapEntry} {i : Nat} (hy : KSame P kt d K y.key false) (h : HitAt P kt d K L i V) : HitAt P kt d K (y :: L) (i + 1) V := by
  obtain ⟨x, h1, h2, h3, h4⟩ := h
  refine ⟨x, by simpa using h1, h2, h3, fun j hj z hz => ?_⟩
  cases j with
  | zero => simp only [List.getElem?_cons_zero, Option.some.injEq] at hz; subst hz; exact hy
  | succ j => exact h4 j (by omega) z (by simpa using hz)

theorem mute_no {kt : TypeId} {d : TypeDesc} {K K' : Value} {r : Bool} (h : KSame P kt d K K' r) (hm : ∀ A B, Instr.sameNow d A B = none) : ∀ w, (Op.equal kt K K').run P w = .ok r w := by
  rcases h with h | ⟨_, h⟩
  · rw [hm] at h; cases h
  · exact h

theorem loud_no {kt : TypeId} {d : TypeDesc} {K K' : Value} {r : Bool} (h : KSame P kt d K K' r) (hm : ¬ ∀ A B, Instr.sameNow d A B = none) : Instr.sameNow d K K' = some r := by
  rcases h with h | ⟨h, _⟩
  · exact h
  · exact absurd h hm

theorem HitAt.run {kt : TypeId} {d : TypeDesc} {K V : Value} (hun : ∀ w, (underlying kt).run P w = .ok d w) : ∀ {L : List MapEntry} {i : Nat}, HitAt P kt d K L i V → ∀ w, (Instr.findKey kt K L).run P w = .ok (some (i, V)) w := by
  intro L i h w
  by_cases hm : ∀ A B, Instr.sameNow d A B = none
  · have ask : ∀ (L : List MapEntry) (i n : Nat), HitAt P kt d K L i V → (Instr.findAsking kt K L n).run P w = .ok (some (n + i, V)) w := by
      intro L
      induction L with
      | nil => rintro i n ⟨x, h1, _⟩; simp at h1
      | cons y L ih =>
        rintro i n ⟨x, h1, h2, h3, h4⟩
        cases i with
        | zero =>
          simp only [List.getElem?_cons_zero, Option.some.injEq] at h1
          subst h1
          have := mute_no h3 hm w
          simp [Instr.findAsking, this, h2]
        | succ i =>
          have := mute_no (h4 0 (by omega) y rfl) hm w
          have ih := ih i (n + 1) ⟨x, by simpa using h1, h2, h3, fun j hj z hz => h4 (j + 1) (by omega) z (by simpa using hz)⟩
          simp only [Instr.findAsking, Sem.run_bind, this, Result.andThen_ok, Bool.false_eq_true, if_false]
          rw [ih, show n + 1 + i = n + (i + 1) by omega]
    have e : Instr.findNow d K L 0 = none := by
      obtain ⟨x, h1, _⟩ := h
      cases L with
      | nil => simp at h1
      | cons y L => simp [Instr.findNow, hm]
    have := ask L i 0 h
    rw [Nat.zero_add] at this
    simp only [Instr.findKey, Sem.run_bind, hun, Result.andThen_ok, e]
    exact this
  · have now : ∀ (L : List MapEntry) (i n : Nat), HitAt P kt d K L i V → Instr.findNow d K L n = some (some (n + i, V)) := by
      intro L
      induction L with
      | nil => rintro i n ⟨x, h1, _⟩; simp at h1
      | cons y L ih =>
        rintro i n ⟨x, h1, h2, h3, h4⟩
        cases i with
        | zero =>
          simp only [List.getElem?_cons_zero, Option.some.injEq] at h1
          subst h1
          simp [Instr.findNow, loud_no h3 hm, h2]
        | succ i =>
          have := loud_no (h4 0 (by omega) y rfl) hm
          have ih := ih i (n + 1) ⟨x, by simpa using h1, h2, h3, fun j hj z hz => h4 (j + 1) (by omega) z (by simpa using hz)⟩
          simp only [Instr.findNow, this]
          rw [ih, show n + 1 + i = n + (i + 1) by omega]
    have := now L i 0 h
    rw [Nat.zero_add] at this
    simp only [Instr.findKey, Sem.run_bind, hun, Result.andThen_ok, this]
    rfl

/-- No entry has this key. -/
def Misses (P : Program) (kt : TypeId) (d : TypeDesc) (K : Value) (L : List MapEntry) : Prop := ∀ x, x ∈ L → KSame P kt d K x.key false

theorem Misses.run {kt : TypeId} {d : TypeDesc} {K : Value} (hun : ∀ w, (underlying kt).run P w = .ok d w) {L : List MapEntry} (h : Misses P kt d K L) : ∀ w, (Instr.findKey kt K L).run P w = .ok none w := by
  intro w
  by_cases hm : ∀ A B, Instr.sameNow d A B = none
  · have ask : ∀ (L : List MapEntry) (n : Nat), Misses P kt d K L → (Instr.findAsking kt K L n).run P w = .ok none w := by
      intro L
      induction L with
      | nil => intro n _; rfl
      | cons y L ih =>
        intro n h
        have := mute_no (h y List.mem_cons_self) hm w
        simp only [Instr.findAsking, Sem.run_bind, this, Result.andThen_ok, Bool.false_eq_true, if_false]
        exact ih (n + 1) (fun z hz => h z (List.mem_cons_of_mem _ hz))
    cases L with
    | nil => simp [Instr.findKey, hun, Instr.findNow]
    | cons y L =>
      have e : Instr.findNow d K (y :: L) 0 = none := by simp [Instr.findNow, hm]
      simp only [Instr.findKey, Sem.run_bind, hun, Result.andThen_ok, e]
      exact ask _ 0 h
  · have now : ∀ (L : List MapEntry) (n : Nat), Misses P kt d K L → Instr.findNow d K L n = some none := by
      intro L
      induction L with
      | nil => intro n _; rfl
      | cons y L ih =>
        intro n h
        simp only [Instr.findNow, loud_no (h y List.mem_cons_self) hm]
        exact ih (n + 1) (fun z hz => h z (List.mem_cons_of_mem _ hz))
    simp only [Instr.findKey, Sem.run_bind, hun, Result.andThen_ok, now L 0 h]
    rfl

/-! Keys. -/

theorem keyEqC_some {ρ : Ren} {d : TypeDesc} {k k' : CV} {K K' : Value} (hp : plainOne d k = true) {r : Bool} (h : keyEqC k k' = some r) (hK : real ρ k = some K) (hK' : real ρ k' = some K') :
    Instr.sameNow d K K' = some r := by
  cases k <;> cases k' <;> simp only [keyEqC, reduceCtorEq] at h
  · cases d <;> simp only [plainOne, Bool.false_eq_true] at hp
    simp only [real, Option.some.injEq] at hK hK'
    subst hK; subst hK'
    simpa [Instr.sameNow] using h
  · cases d <;> simp only [plainOne, Bool.false_eq_true] at hp
    simp only [real, Option.some.injEq] at hK hK'
    subst hK; subst hK'
    split at h
    · rename_i hk
      simp only [Instr.sameNow, hk, if_true]
      rw [← intEq_eq]
      exact h
    · cases h
  · cases d <;> simp only [plainOne, Bool.false_eq_true] at hp
    simp only [real, Option.some.injEq] at hK hK'
    subst hK; subst hK'
    simp only [Instr.sameNow]
    rw [bytes_beq, strReal_data, strReal_data, strEq_eq _ _ _ h]

theorem keyEq_flat {d : TypeDesc} {k k' : CV} (hp : plainOne d k = true) : keyEq k k' = keyEqC k k' := by
  cases k <;> first | rfl | (cases d <;> simp [plainOne] at hp)

theorem plainParts_at {xs0 : List CV} : ∀ (l : List (Nat × Nat × Bool × EqT)) (i : Nat) (xs : List CV), plainParts i l xs = true → xs0.drop i = xs →
    ∀ off size agg e, (off, size, agg, e) ∈ l → size = 1 ∧ agg = false ∧ ∃ x, xs0[off]? = some x ∧ plainCell e x = true
  | [], _, _, _, _, _, _, _, _, h => by cases h
  | (o, s, g, e') :: l, i, [], hp, _, off, size, agg, e, h => by simp [plainParts] at hp
  | (o, s, g, e') :: l, i, x :: xs, hp, hd, off, size, agg, e, h => by
    simp only [plainParts, Bool.and_eq_true, Bool.not_eq_true'] at hp
    obtain ⟨⟨⟨⟨h1, h2⟩, h3⟩, h4⟩, h5⟩ := hp
    rcases List.mem_cons.1 h with he | he
    · cases he
      obtain rfl := beq_of h1
      exact ⟨beq_of h2, h3, x, by have := congrArg (fun m => m[0]?) hd; simpa using this, h4⟩
    · exact plainParts_at l (i + 1) xs h5 (by have := congrArg (List.drop 1) hd; simpa using this) off size agg e he

theorem eqAt_plain {e : EqT} {x y : CV} (hp : plainCell e x = true) {r : Bool} (h : keyEqC x y = some r) : eqAt e x y = some r := by
  cases e <;> cases x <;> simp only [plainCell, Bool.false_eq_true] at hp <;> cases y <;> simp only [keyEqC, reduceCtorEq] at h <;> simpa only [eqAt] using h

theorem eqParts_flat {xs0 ys0 : List CV} : ∀ (l : List (Nat × Nat × Bool × EqT)) (i : Nat) (xs ys : List CV) (r : Bool), plainParts i l xs = true → xs0.drop i = xs → ys0.drop i = ys → keyEqL xs ys = some r → eqParts l xs0 ys0 = some r
  | [], i, [], ys, r, _, _, _, h => by
    rw [eqParts_nil]
    cases ys with
    | nil => simpa [keyEqL] using h
    | cons => simp [keyEqL] at h
  | [], i, x :: xs, ys, r, hp, _, _, h => by simp [plainParts] at hp
  | _ :: _, i, [], ys, r, hp, _, _, h => by simp [plainParts] at hp
  | (o, s, g, e) :: l, i, x :: xs, [], r, hp, hx, hy, h => by simp [keyEqL] at h
  | (o, s, g, e) :: l, i, x :: xs, y :: ys, r, hp, hx, hy, h => by
    simp only [plainParts, Bool.and_eq_true, Bool.not_eq_true'] at hp
    obtain ⟨⟨⟨⟨h1, h2⟩, h3⟩, h4⟩, h5⟩ := hp
    obtain rfl := beq_of h1
    obtain rfl := beq_of h2
    subst h3
    have gx : xs0[o]? = some x := by have := congrArg (fun m => m[0]?) hx; simpa using this
    have gy : ys0[o]? = some y := by have := congrArg (fun m => m[0]?) hy; simpa using this
    rw [eqParts_cons]
    simp only [partC, cond_false, gx, gy]
    simp only [keyEqL] at h
    have tx : xs0.drop (o + 1) = xs := by have := congrArg (List.drop 1) hx; simpa using this
    have ty : ys0.drop (o + 1) = ys := by have := congrArg (List.drop 1) hy; simpa using this
    split at h
    · rename_i hk
      rw [eqAt_plain h4 hk]
      exact eqParts_flat l (o + 1) xs ys r h5 tx ty h
    · rename_i hk
      rw [eqAt_plain h4 hk]
      exact h
    · cases h

theorem keyEq_some {ρ : Ren} {kt : TypeId} {ki : TyE} (hk : tyOf P kt = some ki) {k k' : CV} {K K' : Value} (hp : plainKey (keyTy P kt ki.desc) k = true) {r : Bool} (h : keyEq k k' = some r) (hK : real ρ k = some K) (hK' : real ρ k' = some K') :
    KSame P kt ki.desc K K' r := by
  unfold keyTy at hp
  split at hp
  · rename_i fields hd
    split at hp
    · rename_i l hl
      cases k <;> simp only [plainKey, Bool.false_eq_true] at hp
      rename_i xs
      right
      refine ⟨fun A B => by rw [hd]; rfl, fun w => ?_⟩
      cases k' <;> simp only [keyEq, keyEqC, reduceCtorEq] at h
      rename_i ys
      cases hb : Nat.beq xs.length ys.length with
      | false => rw [hb] at h; cases h
      | true =>
        rw [hb, cond_true] at h
        have := eqParts_flat l 0 xs ys r hp rfl rfl h
        exact eqAt_run 8 Op.maxDepth (by decide) kt (.agg xs) (.agg ys) K K' r (by rw [hl]; simp only [eqAt]; exact this) hK hK' w
    · simp [plainKey] at hp
  · rename_i an aq hd
    split at hp
    · rename_i l hl
      cases k <;> simp only [plainKey, Bool.false_eq_true] at hp
      rename_i xs
      right
      refine ⟨fun A B => by rw [hd]; rfl, fun w => ?_⟩
      cases k' <;> simp only [keyEq, keyEqC, reduceCtorEq] at h
      rename_i ys
      cases hb : Nat.beq xs.length ys.length with
      | false => rw [hb] at h; cases h
      | true =>
        rw [hb, cond_true] at h
        have := eqParts_flat l 0 xs ys r hp rfl rfl h
        exact eqAt_run 8 Op.maxDepth (by decide) kt (.agg xs) (.agg ys) K K' r (by rw [hl]; simp only [eqAt]; exact this) hK hK' w
    · simp [plainKey] at hp
  · simp only [plainKey] at hp
    rw [keyEq_flat hp] at h
    exact .inl (keyEqC_some hp h hK hK')

theorem forIn_quiet {fs : List Field} {g : Field → PUnit → Sem (ForInStep PUnit)} {w : World} (h : ∀ f, f ∈ fs → (g f ⟨⟩).run P w = .ok (.yield ⟨⟩) w) : (forIn fs ⟨⟩ g).run P w = .ok ⟨⟩ w := by
  induction fs with
  | nil => rfl
  | cons f fs ih =>
    rw [List.forIn_cons]
    simp only [Sem.run_bind, h f List.mem_cons_self, Result.andThen_ok]
    exact ih (fun f' hf => h f' (List.mem_cons_of_mem _ hf))

theorem eqTy_struct {t : TypeId} {ki : TyE} {fields : Array Field} (hk : tyOf P t = some ki) (hd : ki.desc = .struct fields) (d : Nat) :
    eqTy P (d + 1) t = if P.stoodInHeld t then .no else .parts ((fields.toList.filter (·.name ≠ "_")).map (eqPart P d)) := by
  rw [eqTy]
  simp only [hk, hd]
  rfl
theorem eqTy_array {t q : TypeId} {ki : TyE} {n : Nat} (hk : tyOf P t = some ki) (hd : ki.desc = .array n q) (d : Nat) :
    eqTy P (d + 1) t = (match tyOf P q with | some j => .parts ((List.range n).map (eqElem P d q j)) | none => .no) := by
  rw [eqTy]
  simp only [hk, hd]
  rfl

theorem forIn_quietN {is : List Nat} {g : Nat → PUnit → Sem (ForInStep PUnit)} {w : World} (h : ∀ i, i ∈ is → (g i ⟨⟩).run P w = .ok (.yield ⟨⟩) w) : (forIn is ⟨⟩ g).run P w = .ok ⟨⟩ w := by
  induction is with
  | nil => rfl
  | cons i is ih =>
    rw [List.forIn_cons]
    simp only [Sem.run_bind, h i List.mem_cons_self, Result.andThen_ok]
    exact ih (fun i' hi => h i' (List.mem_cons_of_mem _ hi))

theorem cell_check {ρ : Ren} {d n : Nat} {t : TypeId} {x : CV} {K : Value} (hp : plainCell (eqTy P d t) x = true) (hK : real ρ x = some K) (e : Bool) (w : World) : (Instr.checkKey e (n + 1) t K).run P w = .ok () w := by
  cases d with
  | zero => cases x <;> simp [eqTy, plainCell] at hp
  | succ d =>
    simp only [eqTy] at hp
    cases ht : tyOf P t with
    | none => rw [ht] at hp; cases x <;> simp [plainCell] at hp
    | some i =>
      rw [ht] at hp
      simp only at hp
      have hun := run_underlying' ht w
      unfold Instr.checkKey
      simp only [Sem.run_bind, hun, Result.andThen_ok]
      cases hd : i.desc <;> rw [hd] at hp <;> simp only at hp
      case bool => cases x <;> simp only [plainCell, Bool.false_eq_true] at hp <;> simp only [real, Option.some.injEq] at hK <;> subst hK <;> rfl
      case int => cases x <;> simp only [plainCell, Bool.false_eq_true] at hp <;> simp only [real, Option.some.injEq] at hK <;> subst hK <;> rfl
      case string => cases x <;> simp only [plainCell, Bool.false_eq_true] at hp <;> simp only [real, Option.some.injEq] at hK <;> subst hK <;> rfl
      all_goals (exfalso; revert hp; first | (cases x <;> simp [plainCell]; done) | (split <;> cases x <;> simp [plainCell]))

/-- A key of a plain type. -/
theorem plain_check {ρ : Ren} {kt : TypeId} {ki : TyE} (hk : tyOf P kt = some ki) {k : CV} {K : Value} (hp : plainKey (keyTy P kt ki.desc) k = true) (hK : real ρ k = some K) (e : Bool) (w : World) :
    (Instr.checkKey e 10000 kt K).run P w = .ok () w := by
  have hun := run_underlying' hk w
  unfold keyTy at hp
  split at hp
  · rename_i fields hd
    split at hp
    · rename_i l hl
      cases k <;> simp only [plainKey, Bool.false_eq_true] at hp
      rename_i xs
      simp only [real, Option.map_eq_some_iff] at hK
      obtain ⟨LX, hX, rfl⟩ := hK
      unfold Instr.checkKey
      simp only [Sem.run_bind, hun, hd, Result.andThen_ok]
      rw [← Array.forIn_toList]
      have hl' : ∃ d', l = (fields.toList.filter (·.name ≠ "_")).map (eqPart P d') := by
        rw [eqTy_struct hk hd] at hl
        split at hl
        · cases hl
        · exact ⟨7, (EqT.parts.inj hl).symm⟩
      obtain ⟨d', hl'⟩ := hl'
      have quiet : ∀ f, f ∈ fields.toList → f.name ≠ "_" → ∃ V, (part f.type LX.toArray f.offset).run P w = .ok V w ∧ (Instr.checkKey e 9999 f.type V).run P w = .ok () w := by
        intro f hf hn
        have hm : eqPart P d' f ∈ l := by rw [hl']; exact List.mem_map.2 ⟨f, List.mem_filter.2 ⟨hf, by simpa using hn⟩, rfl⟩
        obtain ⟨q1, q2, x, q3, q4⟩ := plainParts_at l 0 xs hp rfl _ _ _ _ hm
        cases hj : tyOf P f.type with
        | none => rw [hj] at q1; cases q1
        | some j =>
          rw [hj] at q1 q2
          simp only at q1 q2
          obtain ⟨V, hV, hV'⟩ := run_part hj hX (off := f.offset) (v := x) (by rw [q1, q2]; simpa [partC] using q3)
          exact ⟨V, hV' w, cell_check q4 hV e w⟩
      rw [forIn_quiet (P := P) (w := w) fun f hf => ?_]
      · rfl
      by_cases hn : f.name ≠ "_"
      · obtain ⟨V, h1, h2⟩ := quiet f hf hn
        rw [if_pos hn]
        simp [h1, h2]
      · rw [if_neg hn]
        simp
    · simp [plainKey] at hp
  · rename_i an aq hd
    split at hp
    · rename_i l hl
      cases k <;> simp only [plainKey, Bool.false_eq_true] at hp
      rename_i xs
      simp only [real, Option.map_eq_some_iff] at hK
      obtain ⟨LX, hX, rfl⟩ := hK
      rw [eqTy_array hk hd] at hl
      cases hj : tyOf P aq with
      | none => rw [hj] at hl; cases hl
      | some j =>
        rw [hj] at hl
        have hl := EqT.parts.inj hl
        have hsz := run_sizeOf' hj w
        unfold Instr.checkKey
        simp only [Sem.run_bind, hun, hd, Result.andThen_ok]
        rw [Std.Legacy.Range.forIn_eq_forIn_range', ← List.range_eq_range']
        simp only [Std.Legacy.Range.size, Nat.sub_zero, Nat.add_sub_cancel, Nat.div_one]
        rw [forIn_quietN (P := P) (w := w) fun i hi => ?_]
        · rfl
        have hm : (i * j.size, j.size, isAggD j.desc, eqTy P 7 aq) ∈ l := by rw [← hl]; exact List.mem_map.2 ⟨i, hi, rfl⟩
        obtain ⟨q1, q2, x, q3, q4⟩ := plainParts_at l 0 xs hp rfl _ _ _ _ hm
        obtain ⟨V, hV, hV'⟩ := run_part hj hX (off := i * j.size) (v := x) (by rw [q1, q2]; rw [q1] at q3; simpa [partC] using q3)
        have h2 := cell_check q4 hV e (n := 9998) w
        simp [hsz, hV', h2]
    · simp [plainKey] at hp
  · rename_i hns hna
    simp only [plainKey] at hp
    unfold Instr.checkKey
    simp only [Sem.run_bind, hun, Result.andThen_ok]
    cases hd : ki.desc <;> rw [hd] at hp <;> cases k <;> simp only [plainOne, Bool.false_eq_true] at hp <;> simp only [real, Option.some.injEq] at hK <;> subst hK <;> rfl

/-- The entries of a map, told. -/
def Ents (ρ : Ren) (es : List (CV × CV × Nat)) (l : List (Value × Value × Nat)) : Prop :=
  l.length = es.length ∧ ∀ (i : Nat) (e : CV × CV × Nat), es[i]? = some e → ∃ e' : Value × Value × Nat, l[i]? = some e' ∧ real ρ e.1 = some e'.1 ∧ real ρ e.2.1 = some e'.2.1 ∧ e.2.2 = e'.2.2

theorem Ents.tail {ρ : Ren} {e : CV × CV × Nat} {es : List (CV × CV × Nat)} {l : List (Value × Value × Nat)} (h : Ents ρ (e :: es) l) :
    ∃ e' l', l = e' :: l' ∧ real ρ e.1 = some e'.1 ∧ real ρ e.2.1 = some e'.2.1 ∧ e.2.2 = e'.2.2 ∧ Ents ρ es l' := by
  obtain ⟨h1, h2⟩ := h
  cases l with
  | nil => simp at h1
  | cons e' l' =>
    obtain ⟨x, hx, a, b, c⟩ := h2 0 e rfl
    simp only [List.getElem?_cons_zero, Option.some.injEq] at hx
    subst hx
    exact ⟨e', l', rfl, a, b, c, by simpa using h1, fun i x hx => by simpa using h2 (i + 1) x (by simpa using hx)⟩

def entryOf (e : Value × Value × Nat) : MapEntry := ⟨e.1, e.2.1, e.2.2⟩

theorem find_run {ρ : Ren} {kt : TypeId} {ki : TyE} (hk : tyOf P kt = some ki) {k : CV} {K : Value} (hp : plainKey (keyTy P kt ki.desc) k = true) (hK : real ρ k = some K) : ∀ (es : List (CV × CV × Nat)) (l : List (Value × Value × Nat)) (r : Option CV),
    find k es = some r → Ents ρ es l →
    (r = none ∧ Misses P kt ki.desc K (l.map entryOf)) ∨
    (∃ v V i, r = some v ∧ real ρ v = some V ∧ HitAt P kt ki.desc K (l.map entryOf) i V ∧ i < l.length)
  | [], l, r, h, he => by
    simp only [find, Option.some.injEq] at h
    subst h
    have : l = [] := List.length_eq_zero_iff.1 he.1
    subst this
    exact .inl ⟨rfl, fun x hx => by cases hx⟩
  | (k', v, b) :: es, l, r, h, he => by
    obtain ⟨e', l', rfl, a1, a2, a3, he'⟩ := he.tail
    simp only [find] at h
    split at h
    · rename_i hq
      cases h
      exact .inr ⟨v, _, 0, rfl, a2, HitAt.zero (keyEq_some hk hp hq hK a1), by simp⟩
    · rename_i hq
      have hs := keyEq_some hk hp hq hK a1
      rcases find_run hk hp hK es l' r h he' with ⟨e1, e2⟩ | ⟨u, U, i, e1, e2, e3, e4⟩
      · refine .inl ⟨e1, fun x hx => ?_⟩
        rcases List.mem_cons.1 hx with rfl | hx
        · exact hs
        · exact e2 x hx
      · exact .inr ⟨u, U, i + 1, e1, e2, HitAt.succ hs e3, by simp; omega⟩
    · cases h

theorem findKey_run {ρ : Ren} {kt : TypeId} {ki : TyE} (hk : tyOf P kt = some ki) {k : CV} {K : Value} (hp : plainKey (keyTy P kt ki.desc) k = true) (hK : real ρ k = some K) {es : List (CV × CV × Nat)} {l : List (Value × Value × Nat)} {r : Option CV}
    (h : find k es = some r) (he : Ents ρ es l) (w : World) :
    (r = none ∧ (Instr.findKey kt K (l.map entryOf)).run P w = .ok none w) ∨
    (∃ v V i, r = some v ∧ real ρ v = some V ∧ (Instr.findKey kt K (l.map entryOf)).run P w = .ok (some (i, V)) w ∧ i < l.length) := by
  have hun := fun w => run_underlying' (P := P) hk w
  rcases find_run hk hp hK es l r h he with ⟨e1, e2⟩ | ⟨v, V, i, e1, e2, e3, e4⟩
  · exact .inl ⟨e1, e2.run hun w⟩
  · exact .inr ⟨v, V, i, e1, e2, e3.run hun w, e4⟩

theorem map_obj {ρ : Ren} {S : St} {w : World} (h : Has ρ S w) {r : Nat} {es : List (CV × CV × Nat)} {clock : Nat} (hr : S.heap.get r = some (.map es clock)) :
    ∃ R l, ρ.b r = some (R, 0) ∧ w.heap[R]? = some (.map (l.map entryOf).toArray clock) ∧ Ents ρ es l := by
  obtain ⟨B, D, O, h1, h2, h3⟩ := h r _ hr
  cases O with
  | map es' clock' =>
    obtain ⟨rfl, rfl, l, e1, e2, e3⟩ := h3
    refine ⟨B, l, h1, ?_, e2, e3⟩
    rw [h2]
    congr 2
    apply Array.ext'
    simp only [e1]
    rfl
  | _ => exact h3.elim

theorem strEq_true : ∀ (a b : List Nat), strEq a b = some true → a = b
  | [], [], _ => rfl
  | [], _ :: _, h => by simp [strEq] at h
  | _ :: _, [], h => by simp [strEq] at h
  | a :: x, b :: y, h => by
    simp only [strEq] at h
    cases hb : Nat.beq a b with
    | true =>
      rw [hb, cond_true] at h
      rw [beq_of hb, strEq_true x y h]
    | false =>
      rw [hb, cond_false] at h
      cases hc : (Nat.blt a 256 && Nat.blt b 256) with
      | true => rw [hc, cond_true] at h; cases h
      | false => rw [hc, cond_false] at h; cases h

theorem keyEqC_eq {k k' : CV} (h : keyEqC k k' = some true) : k = k' := by
  cases k <;> cases k' <;> simp only [keyEqC, reduceCtorEq] at h
  · simp only [Option.some.injEq, beq_iff_eq] at h
    rw [h]
  · split at h
    · rename_i hk
      rw [intEq_eq] at h
      simp only [Option.some.injEq, beq_iff_eq] at h
      rw [hk, h]
    · cases h
  · rw [strEq_true _ _ h]

theorem keyEqL_eq : ∀ {xs ys : List CV}, keyEqL xs ys = some true → xs = ys
  | [], [], _ => rfl
  | [], _ :: _, h => by simp [keyEqL] at h
  | _ :: _, [], h => by simp [keyEqL] at h
  | x :: xs, y :: ys, h => by
    simp only [keyEqL] at h
    split at h
    · rename_i hk
      rw [keyEqC_eq hk, keyEqL_eq h]
    · cases h
    · cases h

theorem keyEq_eq {k k' : CV} (h : keyEq k k' = some true) : k = k' := by
  unfold keyEq at h
  split at h
  · rename_i xs ys
    cases hb : Nat.beq xs.length ys.length with
    | false => rw [hb] at h; cases h
    | true => rw [hb, cond_true] at h; rw [keyEqL_eq h]
  · exact keyEqC_eq h

theorem find_all {k : CV} : ∀ (es : List (CV × CV × Nat)), find k es = some none → ∀ e, e ∈ es → keyEq k e.1 = some false
  | [], _, e, he => by cases he
  | (k', v', n) :: es, h, e, he => by
    simp only [find] at h
    split at h
    · cases h
    · rename_i hk
      rcases List.mem_cons.1 he with rfl | he
      · exact hk
      · exact find_all es h e he
    · cases h

theorem find_one {k v : CV} : ∀ (es : List (CV × CV × Nat)), keysApart es = true → find k es = some (some v) → (∃ e, e ∈ es ∧ keyEq k e.1 = some true) ∧ ∀ e, e ∈ es → keyEq k e.1 = some false ∨ (keyEq k e.1 = some true ∧ e.2.1 = v)
  | [], _, h => by simp [find] at h
  | (k', v', n) :: es, ha, h => by
    simp only [keysApart, Bool.and_eq_true] at ha
    simp only [find] at h
    split at h
    · rename_i hk
      cases h
      refine ⟨⟨_, List.mem_cons_self, hk⟩, fun e he => ?_⟩
      rcases List.mem_cons.1 he with rfl | he
      · exact .inr ⟨hk, rfl⟩
      · left
        have := List.all_eq_true.1 ha.1 e he
        rw [keyEq_eq hk]
        split at this
        · rename_i b hb
          simp only [Bool.not_eq_true'] at this
          rw [hb, this]
        · cases this
    · rename_i hk
      obtain ⟨⟨e, e1, e2⟩, h2⟩ := find_one es ha.2 h
      refine ⟨⟨e, List.mem_cons_of_mem _ e1, e2⟩, fun e he => ?_⟩
      rcases List.mem_cons.1 he with rfl | he
      · exact .inl hk
      · exact h2 e he
    · cases h

theorem hit_one {kt : TypeId} {d : TypeDesc} {K V : Value} : ∀ (L : List MapEntry), (∀ x, x ∈ L → KSame P kt d K x.key false ∨ (KSame P kt d K x.key true ∧ x.val = V)) → (∃ x, x ∈ L ∧ KSame P kt d K x.key true ∧ ¬ KSame P kt d K x.key false) → ∃ i, HitAt P kt d K L i V
  | [], _, ⟨x, hx, _⟩ => by cases hx
  | y :: L, h, ⟨x, hx, hx2, hx3⟩ => by
    rcases h y List.mem_cons_self with hy | ⟨hy, hv⟩
    · rcases List.mem_cons.1 hx with rfl | hx
      · exact absurd hy hx3
      · obtain ⟨i, hi⟩ := hit_one L (fun z hz => h z (List.mem_cons_of_mem _ hz)) ⟨x, hx, hx2, hx3⟩
        exact ⟨i + 1, hi.succ hy⟩
    · exact ⟨0, by rw [← hv]; exact HitAt.zero hy⟩

theorem ksame_one {kt : TypeId} {d : TypeDesc} {K K' : Value} (w : World) (h : KSame P kt d K K' true) : ¬ KSame P kt d K K' false := by
  intro h'
  rcases h with h | ⟨hm, h⟩ <;> rcases h' with h' | ⟨hm', h'⟩
  · rw [h] at h'; cases h'
  · rw [hm'] at h; cases h
  · rw [hm] at h'; cases h'
  · have := (h w).symm.trans (h' w)
    simp at this

/-- The entries of a map of unknown order. -/
def EntsU (ρ : Ren) (es : List (CV × CV × Nat)) (L : List MapEntry) : Prop :=
  keysApart es = true ∧ ∃ l : List (Value × Value), (L.map fun e => (e.key, e.val)).Perm l ∧ l.length = es.length ∧
    ∀ (i : Nat) (e : CV × CV × Nat), es[i]? = some e → ∃ e' : Value × Value, l[i]? = some e' ∧ real ρ e.1 = some e'.1 ∧ real ρ e.2.1 = some e'.2

theorem EntsU.of_mem {ρ : Ren} {es : List (CV × CV × Nat)} {L : List MapEntry} (h : EntsU ρ es L) {x : MapEntry} (hx : x ∈ L) : ∃ e, e ∈ es ∧ real ρ e.1 = some x.key ∧ real ρ e.2.1 = some x.val := by
  obtain ⟨_, l, h1, h2, h3⟩ := h
  have : (x.key, x.val) ∈ l := h1.mem_iff.1 (List.mem_map.2 ⟨x, hx, rfl⟩)
  obtain ⟨i, hi⟩ := List.mem_iff_getElem?.1 this
  have hlt : i < es.length := by rw [← h2]; exact (List.getElem?_eq_some_iff.1 hi).1
  have he : es[i]? = some es[i] := List.getElem?_eq_getElem hlt
  obtain ⟨e', a, b, c⟩ := h3 i _ he
  rw [hi] at a
  cases a
  exact ⟨es[i], List.getElem_mem hlt, b, c⟩

theorem EntsU.mem_of {ρ : Ren} {es : List (CV × CV × Nat)} {L : List MapEntry} (h : EntsU ρ es L) {e : CV × CV × Nat} (he : e ∈ es) : ∃ x, x ∈ L ∧ real ρ e.1 = some x.key ∧ real ρ e.2.1 = some x.val := by
  obtain ⟨_, l, h1, h2, h3⟩ := h
  obtain ⟨i, hi⟩ := List.mem_iff_getElem?.1 he
  obtain ⟨e', a, b, c⟩ := h3 i _ hi
  have : e' ∈ L.map fun e => (e.key, e.val) := h1.mem_iff.2 (List.mem_iff_getElem?.2 ⟨i, a⟩)
  obtain ⟨x, hx, rfl⟩ := List.mem_map.1 this
  exact ⟨x, hx, b, c⟩

theorem findKeyU_run {ρ : Ren} {kt : TypeId} {ki : TyE} (hk : tyOf P kt = some ki) {k : CV} {K : Value} (hp : plainKey (keyTy P kt ki.desc) k = true) (hK : real ρ k = some K) {es : List (CV × CV × Nat)} {L : List MapEntry} {r : Option CV}
    (h : find k es = some r) (he : EntsU ρ es L) (w : World) :
    (r = none ∧ (Instr.findKey kt K L).run P w = .ok none w) ∨
    (∃ v V i, r = some v ∧ real ρ v = some V ∧ (Instr.findKey kt K L).run P w = .ok (some (i, V)) w) := by
  have hun := fun w => run_underlying' (P := P) hk w
  cases r with
  | none =>
    left
    have hall := find_all es h
    have : Misses P kt ki.desc K L := fun x hx => by
      obtain ⟨e, e1, e2, _⟩ := he.of_mem hx
      exact keyEq_some hk hp (hall e e1) hK e2
    exact ⟨rfl, this.run hun w⟩
  | some v =>
    right
    obtain ⟨⟨e, e1, e2⟩, hone⟩ := find_one es he.1 h
    obtain ⟨x, x1, x2, x3⟩ := he.mem_of e1
    have hv : e.2.1 = v := by
      rcases hone e e1 with h1 | ⟨_, h1⟩
      · rw [e2] at h1; cases h1
      · exact h1
    have hx := keyEq_some hk hp e2 hK x2
    obtain ⟨i, hi⟩ := hit_one (V := x.val) L (fun y hy => by
      obtain ⟨e', f1, f2, f3⟩ := he.of_mem hy
      rcases hone e' f1 with h1 | ⟨h1, h2⟩
      · exact .inl (keyEq_some hk hp h1 hK f2)
      · refine .inr ⟨keyEq_some hk hp h1 hK f2, ?_⟩
        rw [h2, ← hv, x3] at f3
        exact (Option.some.inj f3).symm) ⟨x, x1, hx, ksame_one w hx⟩
    exact ⟨v, x.val, i, rfl, by rw [← hv]; exact x3, hi.run hun w⟩

theorem mapU_obj {ρ : Ren} {S : St} {w : World} (h : Has ρ S w) {r : Nat} {es : List (CV × CV × Nat)} (hr : S.heap.get r = some (.mapU es)) :
    ∃ R es' clock, ρ.b r = some (R, 0) ∧ w.heap[R]? = some (.map es' clock) ∧ EntsU ρ es es'.toList := by
  obtain ⟨B, D, O, h1, h2, h3⟩ := h r _ hr
  cases O with
  | map es' clock' =>
    obtain ⟨rfl, e1, e2⟩ := h3
    exact ⟨B, es', clock', h1, h2, e1, e2⟩
  | _ => exact h3.elim

theorem run_getMap {w : World} {R : Nat} {es : Array MapEntry} {clock : Nat} (h : w.heap[R]? = some (.map es clock)) : (getObj R).run P w = .ok (.map es clock) w := by
  simp [getObj, Sem.run, h]

theorem hitQ_mem {k : CV} {r : Option CV} : ∀ {hs : List (CV × Option CV)}, hitQ k hs = some r → ∃ k', sameQ k k' = true ∧ (k', r) ∈ hs
  | [], h => by cases h
  | (k', v) :: l, h => by
    simp only [hitQ] at h
    cases hb : sameQ k k' with
    | true =>
      rw [hb, cond_true] at h
      cases h
      exact ⟨k', hb, List.mem_cons_self⟩
    | false =>
      rw [hb, cond_false] at h
      obtain ⟨k2, h1, h2⟩ := hitQ_mem h
      exact ⟨k2, h1, List.mem_cons_of_mem _ h2⟩

theorem sameQ_real {ρ : Ren} {k k' : CV} {V V' : Value} (hs : sameQ k k' = true) (h : real ρ k = some V) (h' : real ρ k' = some V') : V = V' := by
  cases k <;> cases k' <;> simp only [sameQ, Bool.false_eq_true] at hs
  · have := Nat.eq_of_beq_eq_true hs
    subst this
    rw [h] at h'
    exact Option.some.inj h'
  · have := Nat.eq_of_beq_eq_true hs
    subst this
    rename_i c lo hi lo' hi'
    simp only [real, Ren.ustr, Option.map_eq_some_iff] at h h'
    obtain ⟨x, hx, rfl⟩ := h
    obtain ⟨y, hy, rfl⟩ := h'
    cases hv : ρ.v c with
    | none => rw [hv] at hx; cases hx
    | some a =>
      rw [hv] at hx hy
      cases a <;> simp at hx hy
      rw [← hx.2, ← hy.2]

theorem findKey_now {kt : TypeId} {K : Value} {L : List MapEntry} {w : World} {r : Option (Nat × Value)} (hk : (underlying kt).run P w = .ok .string w) (h : Instr.findNow .string K L 0 = some r) : (Instr.findKey kt K L).run P w = .ok r w := by
  simp [Instr.findKey, hk, h, Result.andThen]

theorem keyTy_string {kt : TypeId} {d : TypeDesc} (h : keyTy P kt d = .one .string) : d = .string := by
  unfold keyTy at h
  split at h
  · split at h <;> cases h
  · split at h <;> cases h
  · cases h
    rfl

theorem read_lookup {t : TypeId} {x k : Operand} {ok : Bool} {i : TyE} {kt et : TypeId} {ki : TyE} {z : CV} (ht : tyOf P t = some i) (hi : i.desc = .map kt et) (hk : tyOf P kt = some ki) (hz : zeroOf P et = some z)
    (ho : o.op = .lookup t x k ok) : ReadOK P o (lookupR (keyTy P kt ki.desc) z ok (opd P x) (opd P k)) := by
  intro ρ nt tm a v S w hf hg hh h
  unfold lookupR at h
  split at h
  · rename_i m q hm hq
    have hm := opd_real hf hg x m hm
    have hq := opd_real hf hg k q hq
    have fin0 : ∀ (u : CV) (U : Value) (b : Bool), v = (bif ok then .tup [u, .bool b] else u) → real ρ u = some U →
        (Instr.lookup t (a.eval x) (a.eval k) ok).run P w = .ok (if ok then .tuple #[U, .bool b] else U) w → ∃ V, real ρ v = some V ∧ (execOp a.eval o).run P w = .ok (.value V) w := by
      intro u U b hv hu hr
      refine ⟨if ok then .tuple #[U, .bool b] else U, ?_, by simp [execOp, ho, hr]⟩
      subst hv
      cases ok
      · simpa using hu
      · simp [real, reals, hu]
    -- a map that is only read
    have quick : ∀ r, lookQ (keyTy P kt ki.desc) m q S = some r → v = (match r with | some u => (bif ok then .tup [u, .bool true] else u) | none => (bif ok then .tup [z, .bool false] else z)) → ∃ V, real ρ v = some V ∧ (execOp a.eval o).run P w = .ok (.value V) w := by
      intro r hl hv
      have hmap : ∃ r0 hs, m = .map r0 ∧ S.heap.get r0 = some (.mapQ hs) ∧ keyTy P kt ki.desc = .one .string ∧ hitQ q hs = some r := by
        cases m with
        | map r0 =>
          simp only [lookQ] at hl
          split at hl
          · rename_i hs hr
            split at hl
            · rename_i hkd
              exact ⟨r0, hs, rfl, hr, hkd, hl⟩
            · cases hl
          · cases hl
        | _ => cases hl
      obtain ⟨r0, hs, rfl, hr, hkd, hl⟩ := hmap
      have hstr := keyTy_string hkd
      obtain ⟨k', hsame, hm'⟩ := hitQ_mem hl
      obtain ⟨B, D, O, e1, e2, e3⟩ := hh r0 _ hr
      cases O with
      | map es' clock' =>
        obtain ⟨rfl, e3⟩ := e3
        obtain ⟨s, f1, f2⟩ := e3 _ hm'
        have g2 : a.eval k = .string s := sameQ_real hsame hq f1
        simp only [real, e1, Option.map_some, Option.some.injEq] at hm
        have hunk := run_underlying' (P := P) hk w
        rw [hstr] at hunk
        have hun := run_underlying' ht w
        rw [hi] at hun
        have hck : ∀ b, (Instr.checkKey b 10000 kt (.string s)).run P w = .ok () w := fun b => by
          unfold Instr.checkKey
          simp only [Sem.run_bind, hunk, Result.andThen_ok]
          rfl
        cases r with
        | none =>
          simp only at f2
          have hfk := findKey_now hunk f2
          obtain ⟨Z, hZ, hZ'⟩ := zeroOf_real hz (ρ := ρ) w
          refine fin0 z Z false hv hZ' ?_
          rw [← hm, g2]
          simp [Instr.lookup, hun, run_getMap e2, hck, hfk, hZ]
        | some u =>
          simp only at f2
          obtain ⟨V, i2, f2, f3⟩ := f2
          have hfk := findKey_now hunk f3
          refine fin0 u V true hv f2 ?_
          rw [← hm, g2]
          simp [Instr.lookup, hun, run_getMap e2, hck, hfk]
      | _ => exact e3.elim
    unfold lookupC at h
    split at h
    · rename_i r hl
      exact quick _ hl (by cases h; rfl)
    · rename_i hl
      exact quick _ hl (by cases h; rfl)
    cases hp : plainKey (keyTy P kt ki.desc) q with
    | false => rw [hp] at h; cases h
    | true =>
      rw [hp, cond_true] at h
      have hun := run_underlying' ht w
      rw [hi] at hun
      obtain ⟨Z, hZ, hZ'⟩ := zeroOf_real hz (ρ := ρ) w
      have fin : ∀ (u : CV) (U : Value) (b : Bool), v = (bif ok then .tup [u, .bool b] else u) → real ρ u = some U →
          (Instr.lookup t (a.eval x) (a.eval k) ok).run P w = .ok (if ok then .tuple #[U, .bool b] else U) w → ∃ V, real ρ v = some V ∧ (execOp a.eval o).run P w = .ok (.value V) w := by
        intro u U b hv hu hr
        refine ⟨if ok then .tuple #[U, .bool b] else U, ?_, by simp [execOp, ho, hr]⟩
        subst hv
        cases ok
        · simpa using hu
        · simp [real, reals, hu]
      split at h
      · -- found
        rename_i u hfound
        cases h
        split at hfound
        · cases hfound
        · rename_i r
          split at hfound
          · rename_i es clock hr
            obtain ⟨R, l, e1, e2, e3⟩ := map_obj hh hr
            simp only [real, e1, Option.map_some, Option.some.injEq] at hm
            rcases findKey_run hk hp hq hfound e3 w with ⟨c, _⟩ | ⟨u', U, j, c, hu, hfk, _⟩
            · cases c
            · cases c
              refine fin u U true rfl hu ?_
              simp [Instr.lookup, hun, ← hm, run_getMap e2, plain_check hk hp hq, hfk]
          · rename_i es hr
            obtain ⟨R, es', clock, e1, e2, e3⟩ := mapU_obj hh hr
            simp only [real, e1, Option.map_some, Option.some.injEq] at hm
            rcases findKeyU_run hk hp hq hfound e3 w with ⟨c, _⟩ | ⟨u', U, j, c, hu, hfk⟩
            · cases c
            · cases c
              refine fin u U true rfl hu ?_
              simp [Instr.lookup, hun, ← hm, run_getMap e2, plain_check hk hp hq, hfk]
          · cases hfound
        · cases hfound
      · -- not found
        rename_i hfound
        cases h
        refine fin z Z false rfl hZ' ?_
        split at hfound
        · simp only [real, Option.some.injEq] at hm
          have hfk : (Instr.findKey kt (a.eval k) []).run P w = .ok none w := by
            have := findKey_run hk hp hq (es := []) (l := []) (r := none) rfl ⟨rfl, fun i e h => by simp at h⟩ w
            rcases this with ⟨_, h⟩ | ⟨v, V, i, h, _⟩
            · exact h
            · cases h
          simp [Instr.lookup, hun, ← hm, plain_check hk hp hq, hfk, hZ]
        · rename_i r
          split at hfound
          · rename_i es clock hr
            obtain ⟨R, l, e1, e2, e3⟩ := map_obj hh hr
            simp only [real, e1, Option.map_some, Option.some.injEq] at hm
            rcases findKey_run hk hp hq hfound e3 w with ⟨_, hfk⟩ | ⟨u', U, j, c, hu, hfk, _⟩
            · simp [Instr.lookup, hun, ← hm, run_getMap e2, plain_check hk hp hq, hfk, hZ]
            · cases c
          · rename_i es hr
            obtain ⟨R, es', clock, e1, e2, e3⟩ := mapU_obj hh hr
            simp only [real, e1, Option.map_some, Option.some.injEq] at hm
            rcases findKeyU_run hk hp hq hfound e3 w with ⟨_, hfk⟩ | ⟨u', U, j, c, hu, hfk⟩
            · simp [Instr.lookup, hun, ← hm, run_getMap e2, plain_check hk hp hq, hfk, hZ]
            · cases c
          · cases hfound
        · cases hfound
      · cases h
  · cases h

theorem read_lenMap {c : Go.Call} {t : TypeId} {x : Operand} {i : TyE} {kt et : TypeId} (hc : c.callee = .builtin .len) (hts : c.argTypes.toList = [t]) (has : c.args.toList = [x]) (ht : tyOf P t = some i) (hi : i.desc = .map kt et)
    (ho : o.op = .call c) : ReadOK P o (lenMap (opd P x)) := by
  intro ρ nt tm a v S w hf hg hh h
  have hts := types_one hts
  have has := args_one has
  have hun := run_underlying' ht w
  rw [hi] at hun
  obtain ⟨cs, e⟩ := call_builtin (P := P) hc ho a w
  unfold lenMap at h
  split at h
  · rename_i hx
    have hx := opd_real hf hg x _ hx
    cases h
    simp only [real, Option.some.injEq] at hx
    refine ⟨_, rfl, ?_⟩
    rw [e, hts, has]
    simp [builtin, Builtin.len_, hun, ← hx, goInt]
  · rename_i r hx
    have hx := opd_real hf hg x _ hx
    split at h
    · rename_i es clock hr
      cases h
      obtain ⟨R, l, e1, e2, e3⟩ := map_obj hh hr
      simp only [real, e1, Option.map_some, Option.some.injEq] at hx
      refine ⟨_, rfl, ?_⟩
      rw [e, hts, has]
      simp [builtin, Builtin.len_, hun, ← hx, run_getMap e2, goInt, e3.1]
    · cases h
  · cases h

/-! string(bytes) -/

theorem toBytes_some : ∀ {l : List CV} {s : List Nat}, toBytes l = some s → l = s.map (fun n => CV.int .u8 (.ofNat n)) ∧ ∀ n, n ∈ s → n < 256
  | [], s, h => by simp [toBytes] at h; subst h; exact ⟨rfl, fun n hn => by cases hn⟩
  | v :: l, s, h => by
    unfold toBytes at h
    split at h
    · rename_i hv; cases hv
    · rename_i n l' hv
      cases hv
      split at h
      · rename_i s' hs
        cases hb : Nat.blt n 256 with
        | false => rw [hb] at h; cases h
        | true =>
          rw [hb, cond_true] at h
          cases h
          obtain ⟨h1, h2⟩ := toBytes_some hs
          refine ⟨by simp [h1], fun m hm => ?_⟩
          rcases List.mem_cons.1 hm with rfl | hm
          · exact blt_of hb
          · exact h2 m hm
      · cases h
    · cases h

theorem reals_bytes {ρ : Ren} : ∀ (s : List Nat), reals ρ (s.map (fun n => CV.int .u8 (.ofNat n))) = some (s.map fun n => Value.int .u8 (.ofNat n))
  | [] => rfl
  | n :: s => by rw [List.map_cons]; exact reals_cons rfl (reals_bytes s)

end
end Go.Ev

namespace Go.Ev

theorem bytesReal_some {ρ : Ren} : ∀ {l : List CV} {L : List Value} {s : List Nat}, reals ρ l = some L → toBytes l = some s → ∃ ns : List Int, L = ns.map (Value.int .u8) ∧ ns.map (fun n => UInt8.ofNat n.toNat) = s.map UInt8.ofNat
  | [], L, s, h, e => by
    simp only [reals, Option.some.injEq] at h
    simp only [toBytes, Option.some.injEq] at e
    subst h; subst e
    exact ⟨[], rfl, rfl⟩
  | v :: l, L, s, h, e => by
    simp only [reals, Option.bind_eq_some_iff, Option.map_eq_some_iff] at h
    obtain ⟨x, hx, y, hy, rfl⟩ := h
    unfold toBytes at e
    split at e
    · cases ‹_ :: _ = []›
    · rename_i n l' heq
      cases heq
      split at e
      · rename_i s' hs'
        cases hb : Nat.blt n 256 with
        | false => rw [hb] at e; cases e
        | true =>
          rw [hb, cond_true] at e
          cases e
          obtain ⟨ns, h1, h2⟩ := bytesReal_some hy hs'
          simp only [real, Option.some.injEq] at hx
          subst hx; subst h1
          exact ⟨.ofNat n :: ns, rfl, by rw [List.map_cons, List.map_cons, h2]; rfl⟩
      · cases e
    · cases e

section
variable {P : Program} {o : Oper}

theorem und_of {t : TypeId} {i : TyE} (h : tyOf P t = some i) : P.underlying t = some i.desc := by
  unfold tyOf at h
  split at h
  · cases h
  · split at h
    · cases h
    · rename_i d hd
      cases h
      exact hd

theorem read_bytesToStr {s d e : TypeId} {x : Operand} {i j k : TyE} (hs : tyOf P s = some i) (hd : tyOf P d = some j) (hi : i.desc = .slice e) (hj : j.desc = .string) (he : tyOf P e = some k) (hk : k.desc = .int .u8) (ho : o.op = .convert s d x) :
    ReadOK P o (bytesToStr (opd P x)) := by
  intro ρ nt tm a v S w hf hg hh h
  have us := und_of hs
  have ud := und_of hd
  have ue := und_of he
  rw [hi] at us
  rw [hj] at ud
  rw [hk] at ue
  unfold bytesToStr at h
  split at h
  · rename_i hx
    cases h
    have hX := opd_real hf hg x _ hx
    simp only [real, Option.some.injEq] at hX
    refine ⟨_, rfl, ?_⟩
    simp only [execOp, ho, ← hX, Sem.run_bind, run_convert_bytes_nil w s e us ue 0 0 d ud, Result.andThen_ok, Sem.run_pure]
    rfl
  · rename_i b o' n c hx
    split at h
    · rename_i cs hcs
      split at h
      · rename_i t ht
        cases h
        have hX := opd_real hf hg x _ hx
        obtain ⟨B, D, L, e1, e2, e3, e4, e5⟩ := loadN_run (P := P) hh hcs
        simp only [real, e1, Option.bind_some, Option.map_eq_some_iff] at hX
        obtain ⟨c', hc', hX⟩ := hX
        obtain ⟨ns, h1, h2⟩ := bytesReal_some e2 ht
        refine ⟨_, rfl, ?_⟩
        subst h1
        simp only [execOp, ho, ← hX, Sem.run_bind, run_convert_bytes_string w s d e _ n c' us ue ud, run_bytesToString w _ n c' ns e5, Result.andThen_ok, Sem.run_pure, foldl_push_bytes, h2]
        simp [strReal, ByteArray.empty, ByteArray.emptyWithCapacity]
        rfl
      · cases h
    · cases h
  · cases h

end
end Go.Ev

namespace Go.Ev

theorem lay_get : ∀ (vs : List CV) (t : Tr CV) (i k : Nat), i + vs.length < 281474976710655 →
    (lay t i vs).get k = if i ≤ k ∧ k < i + vs.length then vs[k - i]? else t.get k
  | [], t, i, k, h => by
    rw [if_neg (by simp only [List.length_nil]; omega)]
    rfl
  | v :: vs, t, i, k, h => by
    simp only [List.length_cons] at h
    simp only [lay, forced2_eq]
    rw [lay_get vs _ (i + 1) k (by omega)]
    by_cases h1 : i + 1 ≤ k ∧ k < i + 1 + vs.length
    · rw [if_pos h1, if_pos (by simp; omega)]
      rw [show k - i = (k - (i + 1)) + 1 by omega]
      simp
    · rw [if_neg h1]
      by_cases h2 : k = i
      · subst h2
        rw [if_pos (by simp), Tr.get_set_eq _ _ _ _ (by simp [big]; omega)]
        simp
      · rw [if_neg (by simp; omega), Tr.get_set_ne _ _ _ _ _ (Ne.symm h2)]

theorem rowOfT_rel {ρ : Ren} {cs : List CV} {L : List Value} (h : reals ρ cs = some L) (hl : cs.length < lim) (t ty : TypeId) (hty : ty ≠ 0 → t + 1 = ty) : ObjRel ρ 0 (rowOfT ty cs) (.cells L.toArray t) := by
  unfold rowOfT ObjRel
  refine ⟨fun i hi => ?_, .inl ⟨rfl, rfl⟩, hty⟩
  unfold lim at hl
  have hlen := reals_length h
  have hg := lay_get cs .leaf 0 i (by omega)
  rw [if_pos ⟨Nat.zero_le _, by omega⟩, Nat.sub_zero] at hg
  have hi' : cs[i]? = some cs[i] := List.getElem?_eq_getElem hi
  obtain ⟨V, hV, hV'⟩ := reals_get h i _ hi'
  refine ⟨cs[i], V, by rw [Nat.add_zero, hg, hi'], hV, by simpa using hV', fun _ => by simp⟩

theorem rowOf_rel {ρ : Ren} {cs : List CV} {L : List Value} (h : reals ρ cs = some L) (hl : cs.length < lim) (t : TypeId) : ObjRel ρ 0 (rowOf cs) (.cells L.toArray t) :=
  rowOfT_rel h hl t 0 (fun h => absurd rfl h)

/-- An operation that makes one block and looks at no memory. -/
def NewOK (P : Program) (o : Oper) (f : Tm → Option (CObj × (Nat → CV))) : Prop :=
  ∀ (ρ : Ren) (nt : Nat) (tm : Tm) (a : Act) (obj : CObj) (mk : Nat → CV), FrRel ρ nt tm a → Glob P ρ → f tm = some (obj, mk) →
    ∃ O, ObjRel ρ 0 obj O ∧ ∀ w : World, ∃ V, (execOp a.eval o).run P w = .ok (.value V) { w with heap := w.heap.push O } ∧
      ∀ (ρ' : Ren) (b : Nat), ρ'.b b = some (w.heap.size, 0) → real ρ' (mk b) = some V

section
variable {P : Program} {o : Oper}

theorem run_newRow (t : TypeId) (c : Array Value) (w : World) : (newRow t c).run P w = .ok ⟨w.heap.size, 0, none⟩ { w with heap := w.heap.push (.cells c t) } := rfl

theorem toArray_cells {ρ : Ren} {v : CV} {V : Value} (h : real ρ v = some V) {L : List Value} (hL : reals ρ v.cells = some L) : L.toArray = V.cells := by
  have := cells_real h
  rw [this] at hL
  cases hL
  simp

theorem new_alloc {t : TypeId} {z : CV} (hz : zeroOf P t = some z) (hl : z.cells.length < lim) (ho : o.op = .alloc t) : NewOK P o (fun _ => some (rowOfT (t + 1) z.cells, fun b => .ptr b 0)) := by
  intro ρ nt tm a obj mk hf hg h
  cases h
  obtain ⟨Z, hZ, hZ'⟩ := zeroOf_real hz (ρ := ρ) default
  refine ⟨.cells Z.cells t, ?_, fun w => ⟨.pointer (some ⟨w.heap.size, 0, none⟩), ?_, fun ρ' b hb => by simp [real, hb]⟩⟩
  · have := rowOfT_rel (cells_real hZ') hl t (t + 1) (fun _ => rfl)
    simpa using this
  · obtain ⟨Z2, hZ2, hZ2'⟩ := zeroOf_real hz (ρ := ρ) w
    rw [hZ'] at hZ2'
    cases hZ2'
    simp [execOp, ho, Instr.alloc, hZ2, newVar, run_newRow]

theorem new_box {t : TypeId} {x : Operand} (ho : o.op = .box t x) : NewOK P o (boxC (opd P x)) := by
  intro ρ nt tm a obj mk hf hg h
  unfold boxC at h
  split at h
  · rename_i v hv
    cases hl : Nat.blt v.cells.length lim with
    | false => rw [hl] at h; cases h
    | true =>
      rw [hl, cond_true] at h
      cases h
      have hv := opd_real hf hg x v hv
      refine ⟨.cells (a.eval x).cells t, ?_, fun w => ⟨.pointer (some ⟨w.heap.size, 0, none⟩), ?_, fun ρ' b hb => by simp [real, hb]⟩⟩
      · have := rowOf_rel (cells_real hv) (blt_of hl) t
        simpa using this
      · simp [execOp, ho, Instr.box, newVar, run_newRow]
  · cases h

theorem new_makeMap {t : TypeId} (ho : o.op = .makeMap t none) : NewOK P o mkMap := by
  intro ρ nt tm a obj mk hf hg h
  cases h
  refine ⟨.map #[] 0, ⟨rfl, rfl, [], rfl, rfl, fun i e h => by simp at h⟩, fun w => ⟨.map (some w.heap.size), ?_, fun ρ' b hb => by simp [real, hb]⟩⟩
  simp [execOp, ho, Instr.makeMap]

theorem new_rangeStr {t : TypeId} {x : Operand} {i : TyE} (ht : tyOf P t = some i) (hi : i.desc = .string) (ho : o.op = .range t x) : NewOK P o (rangeStr (opd P x)) := by
  intro ρ nt tm a obj mk hf hg h
  unfold rangeStr at h
  split at h
  · rename_i s hs
    cases h
    have hs := opd_real hf hg x _ hs
    simp only [real, Option.some.injEq] at hs
    refine ⟨.stringIter (strReal s) 0, ⟨rfl, rfl, rfl⟩, fun w => ⟨.pointer (some ⟨w.heap.size, 0, none⟩), ?_, fun ρ' b hb => by simp [real, hb]⟩⟩
    have hun := run_underlying' ht w
    rw [hi] at hun
    simp [execOp, ho, Instr.range, hun, ← hs]
  · cases h

theorem rep_length (zs : List CV) : ∀ n, (rep zs n).length = n * zs.length
  | 0 => by simp [rep]
  | n + 1 => by simp [rep, rep_length zs n, Nat.succ_mul]; omega

def repV (zs : List Value) : Nat → List Value
  | 0 => []
  | n + 1 => zs ++ repV zs n

theorem reals_rep {ρ : Ren} {zs : List CV} {Z : List Value} (h : reals ρ zs = some Z) : ∀ n, reals ρ (rep zs n) = some (repV Z n)
  | 0 => rfl
  | n + 1 => reals_append h (reals_rep h n)

theorem repV_get (Z : List Value) (hz : Z ≠ []) : ∀ (n i : Nat), i < n * Z.length → (repV Z n)[i]? = Z[i % Z.length]?
  | 0, i, h => by omega
  | n + 1, i, h => by
    have hp : 0 < Z.length := List.length_pos_iff.2 hz
    simp only [repV]
    by_cases hi : i < Z.length
    · rw [List.getElem?_append_left hi, Nat.mod_eq_of_lt hi]
    · rw [List.getElem?_append_right (by omega), repV_get Z hz n (i - Z.length) (by rw [Nat.succ_mul] at h; omega)]
      rw [Nat.mod_eq_sub_mod (by omega : i ≥ Z.length)]

theorem repV_length (Z : List Value) : ∀ n, (repV Z n).length = n * Z.length
  | 0 => by simp [repV]
  | n + 1 => by simp [repV, repV_length Z n, Nat.succ_mul]; omega

/-- The model's row of zeros. -/
theorem zeros_eq (Z : Array Value) (n : Nat) (hz : Z.size ≠ 0) : (Array.range (n * Z.size)).map (fun i => Z[i % Z.size]!) = (repV Z.toList n).toArray := by
  apply Array.ext'
  apply List.ext_getElem?
  intro i
  simp only [Array.toList_map, Array.toList_range, List.getElem?_map]
  by_cases hi : i < n * Z.size
  · rw [List.getElem?_range hi]
    have := repV_get Z.toList (by intro e; apply hz; rw [← Array.length_toList, e]; rfl) n i (by simpa using hi)
    rw [this]
    have hm : i % Z.size < Z.size := Nat.mod_lt _ (by omega)
    simp only [Array.length_toList, Option.map_some]
    rw [getElem!_pos Z _ hm]
    simp [hm]
  · rw [List.getElem?_eq_none (by simp; omega), List.getElem?_eq_none (by rw [repV_length]; simp; omega)]
    rfl

theorem fillC_length : ∀ (vs : List (Nat × Nat × CV)) (cells cs : List CV), fillC cells vs = some cs → cs.length = cells.length
  | [], cells, cs, h => by simp [fillC] at h; subst h; rfl
  | (off, size, v) :: vs, cells, cs, h => by
    simp only [fillC] at h
    cases hc : (Nat.beq v.cells.length size && Nat.ble (off + v.cells.length) cells.length) with
    | false => rw [hc] at h; cases h
    | true =>
      rw [hc, cond_true] at h
      rw [fillC_length vs _ cs h]
      have : ∀ (us cs : List CV) (i : Nat), (setCells cs i us).length = cs.length := by
        intro us
        induction us with
        | nil => intro cs i; rfl
        | cons u us ih => intro cs i; simp [setCells, ih]
      exact this _ _ _

theorem new_buildSlice {t : TypeId} {len : Nat} {ps : Array (Nat × Operand)} {i : TyE} {e : TypeId} {ei : TyE} {l : List (Nat × Nat × Opd)} (ht : tyOf P t = some i) (hi : i.desc = .slice e) (he : tyOf P e = some ei)
    (hl : placed P (fun i => some (i * ei.size, ei.size)) ps.toList = some l) {zs : List CV} (hz : (len * ei.size = 0 ∧ zs = []) ∨ (len * ei.size ≠ 0 ∧ len * ei.size ≤ 16777216 ∧ ∃ z, zeroOf P e = some z ∧ z.cells.length = ei.size ∧ zs = rep z.cells len))
    (ho : o.op = .buildSlice t len ps) : NewOK P o (buildSliceC len zs l) := by
  intro ρ nt tm a obj mk hf hg h
  unfold buildSliceC at h
  split at h
  · rename_i vs hvs
    split at h
    · rename_i cs hcs
      cases hlt : Nat.blt cs.length lim with
      | false => rw [hlt] at h; cases h
      | true =>
        rw [hlt, cond_true] at h
        cases h
        -- the zeros
        have key : ∃ (zc : Array Value) (Z : List Value), reals ρ zs = some Z ∧ (∀ w : World, (if len * ei.size = 0 then pure #[] else do pure (← zeroValue e).cells : Sem (Array Value)).run P w = .ok zc w) ∧
            (Array.range (len * ei.size)).map (fun i => zc[i % zc.size]!) = Z.toArray := by
          rcases hz with ⟨h0, rfl⟩ | ⟨h0, _, z, hz, hzl, rfl⟩
          · exact ⟨#[], [], rfl, fun w => by simp [h0], by simp [h0]⟩
          · obtain ⟨Z, hZ, hZ'⟩ := zeroOf_real hz (ρ := ρ) default
            have hc := cells_real hZ'
            have hlen := reals_length hc
            have hsz : Z.cells.size = ei.size := by rw [← hzl, ← hlen, Array.length_toList]
            have hne : ei.size ≠ 0 := by intro e0; rw [e0] at h0; simp at h0
            refine ⟨Z.cells, repV Z.cells.toList len, reals_rep hc len, fun w => ?_, ?_⟩
            · obtain ⟨Z2, hZ2, hZ2'⟩ := zeroOf_real hz (ρ := ρ) w
              rw [hZ'] at hZ2'
              cases hZ2'
              rw [if_neg h0]
              simp [hZ2]
            · rw [← hsz]
              exact zeros_eq Z.cells len (by omega)
        obtain ⟨zc, Z, hZ, r1, r2⟩ := key
        obtain ⟨C, hC, hC'⟩ := fill_run hf hg _ ps.toList l vs zs cs Z hl hvs hcs hZ
        refine ⟨.cells C.toArray e, rowOf_rel hC (blt_of hlt) e, fun w => ⟨.slice (some ⟨w.heap.size, 0, none⟩) len len, ?_, fun ρ' b hb => by simp [real, hb, Ren.cap]⟩⟩
        have hun := run_underlying' ht w
        rw [hi] at hun
        have hsz := run_sizeOf' he w
        have hbig : ¬ len * ei.size > 2 ^ 24 := by
          rcases hz with ⟨h0, _⟩ | ⟨_, h0, _⟩ <;> omega
        have e2 : (ps.map fun x => (x.1, a.eval x.2)).toList = ps.toList.map fun x => (x.1, a.eval x.2) := by simp
        have r1 := r1 w
        by_cases h0 : len * ei.size = 0
        · rw [if_pos h0] at r1
          simp only [Sem.run_pure, Result.ok.injEq, and_true] at r1
          subst r1
          rw [h0] at r2 hbig
          simp only [execOp, ho, Instr.buildSlice, Sem.run_bind, hun, Result.andThen_ok, hsz, h0, hbig, if_false, if_true, Sem.run_pure, e2]
          rw [r2, hC']
          simp only [Sem.run_bind, run_newRow, Result.andThen_ok, Sem.run_pure]
        · rw [if_neg h0] at r1
          simp only [Sem.run_bind, Sem.run_pure] at r1
          cases hzr : (zeroValue e).run P w with
          | halt x w' => rw [hzr] at r1; simp at r1
          | ok x w' =>
            rw [hzr] at r1
            simp only [Result.andThen_ok, Result.ok.injEq] at r1
            obtain ⟨r1, rfl⟩ := r1
            subst r1
            simp only [execOp, ho, Instr.buildSlice, Sem.run_bind, hun, Result.andThen_ok, hsz, h0, hbig, if_false, hzr, Sem.run_pure, e2]
            rw [r2, hC']
            simp only [Sem.run_bind, run_newRow, Result.andThen_ok, Sem.run_pure]
    · cases h
  · cases h

end
end Go.Ev
