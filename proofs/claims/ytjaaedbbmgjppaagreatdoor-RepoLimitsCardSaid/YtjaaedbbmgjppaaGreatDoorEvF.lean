/-
  Each operation that looks at no memory. Operations that look at no memory, continued: slices, indexes, composites.
-/
import Derived.Test.YtjaaedbbmgjppaaGreatDoorEvD
set_option linter.all false

namespace Go.Ev

/-- An operation that looks at no memory yields what the evaluator says. -/
def PureOK (P : Program) (o : Oper) (f : Tm → Option CV) : Prop :=
  ∀ (ρ : Ren) (nt : Nat) (tm : Tm) (a : Act) (v : CV), FrRel ρ nt tm a → Glob P ρ → f tm = some v →
    ∃ V, real ρ v = some V ∧ ∀ w, (execOp a.eval o).run P w = .ok (.value V) w

theorem eval1_some {x : Opd} {f : CV → Option CV} {tm : Tm} {v : CV} (h : eval1 x f tm = some v) : ∃ u, x.eval tm = some u ∧ f u = some v := by
  unfold eval1 at h
  cases e : x.eval tm with
  | none => rw [e] at h; cases h
  | some u => rw [e] at h; exact ⟨u, rfl, h⟩

theorem eval2_some {x y : Opd} {f : CV → CV → Option CV} {tm : Tm} {v : CV} (h : eval2 x y f tm = some v) :
    ∃ u t, x.eval tm = some u ∧ y.eval tm = some t ∧ f u t = some v := by
  unfold eval2 at h
  cases e : x.eval tm with
  | none => rw [e] at h; cases h
  | some u =>
    rw [e] at h
    cases e' : y.eval tm with
    | none => rw [e'] at h; cases h
    | some t => rw [e'] at h; exact ⟨u, t, rfl, rfl, h⟩

section
variable {P : Program} {o : Oper}

theorem pure_move {x : Operand} (ho : o.op = .move x) : PureOK P o (opd P x).eval := by
  intro ρ nt tm a v hf hg h
  exact ⟨_, opd_real hf hg x v h, fun w => by simp [execOp, ho]⟩

theorem pure_assign {x : Operand} (ho : o.op = .assign x) : PureOK P o (opd P x).eval := by
  intro ρ nt tm a v hf hg h
  exact ⟨_, opd_real hf hg x v h, fun w => by simp [execOp, ho]⟩

theorem pure_pick {c x y : Operand} (ho : o.op = .pick c x y) : PureOK P o (pickC (opd P c) (opd P x) (opd P y)) := by
  intro ρ nt tm a v hf hg h
  unfold pickC at h
  split at h
  · rename_i t ht
    have hc := opd_real hf hg c _ ht
    simp only [real, Option.some.injEq] at hc
    cases t with
    | true =>
      rw [cond_true] at h
      exact ⟨_, opd_real hf hg x v h, fun w => by simp [execOp, ho, asBool, ← hc]⟩
    | false =>
      rw [cond_false] at h
      exact ⟨_, opd_real hf hg y v h, fun w => by simp [execOp, ho, asBool, ← hc]⟩
  · cases h

theorem pure_nilCheck {x : Operand} (ho : o.op = .nilCheck x) : PureOK P o (eval1 (opd P x) nilCheckC) := by
  intro ρ nt tm a v hf hg h
  obtain ⟨u, hu, h⟩ := eval1_some h
  have hx := opd_real hf hg x u hu
  cases u <;> simp only [nilCheckC, Option.some.injEq, reduceCtorEq] at h <;> subst h
  · simp only [real, Option.map_eq_some_iff] at hx
    obtain ⟨y, hy, e⟩ := hx
    refine ⟨_, by simp only [real, hy, Option.map_some]; rfl, fun w => ?_⟩
    simp [execOp, ho, ← e]
  · simp only [real, Option.bind_eq_some_iff, Option.map_eq_some_iff] at hx
    obtain ⟨y, hy, z, hz, e⟩ := hx
    refine ⟨_, by simp only [real, hy, hz, Option.bind_some, Option.map_some]; rfl, fun w => ?_⟩
    simp [execOp, ho, ← e]

theorem pure_not {t : TypeId} {x : Operand} (ho : o.op = .unOp .not t x) : PureOK P o (eval1 (opd P x) notC) := by
  intro ρ nt tm a v hf hg h
  obtain ⟨u, hu, h⟩ := eval1_some h
  have hx := opd_real hf hg x u hu
  cases u <;> simp only [notC, Option.some.injEq, reduceCtorEq] at h <;> subst h
  simp only [real, Option.some.injEq] at hx
  exact ⟨_, rfl, fun w => by simp [execOp, ho, ← hx, Op.unary]⟩

theorem wrap_signed (b : Nat) (n : Int) (h1 : -(2 ^ b : Int) ≤ n) (h2 : n < 2 ^ b) :
    (if (true && decide (n % (2 ^ (b + 1) : Int) ≥ (2 ^ b : Int))) = true then n % (2 ^ (b + 1) : Int) - (2 ^ (b + 1) : Int) else n % (2 ^ (b + 1) : Int)) = n := by
  have hp : (2 : Int) ^ (b + 1) = 2 * 2 ^ b := by rw [Int.pow_succ]; omega
  rw [hp]
  generalize (2 : Int) ^ b = q at *
  by_cases h0 : 0 ≤ n
  · rw [Int.emod_eq_of_lt h0 (by omega)]
    simp
    omega
  · have : n % (2 * q) = n + 2 * q := by
      rw [← Int.add_emod_right, Int.emod_eq_of_lt (by omega) (by omega)]
    rw [this]
    simp
    omega

theorem wrap_unsigned (b : Nat) (n : Int) (h1 : 0 ≤ n) (h2 : n < 2 ^ b) :
    (if (false && decide (n % (2 ^ b : Int) ≥ (2 ^ (b - 1) : Int))) = true then n % (2 ^ b : Int) - (2 ^ b : Int) else n % (2 ^ b : Int)) = n := by
  simp only [Bool.false_and, Bool.false_eq_true, if_false]
  exact Int.emod_eq_of_lt h1 h2

theorem fits_pow (k : IntKind) : ((fits k : Nat) : Int) = 2 ^ (if k.signed then k.bits - 1 else k.bits) := by cases k <;> rfl

theorem wrap_fits (k : IntKind) (n : Int) (h1 : (if k.signed then -((fits k : Nat) : Int) else 0) ≤ n) (h2 : n < (fits k : Nat)) : k.wrap n = n := by
  unfold IntKind.wrap
  have hf := fits_pow k
  cases k <;> simp only [IntKind.signed, if_true, Bool.false_eq_true, if_false, IntKind.bits] at hf h1 h2 ⊢ <;> rw [hf] at h2 <;> (try rw [hf] at h1)
  · exact wrap_signed 7 n h1 h2
  · exact wrap_signed 15 n h1 h2
  · exact wrap_signed 31 n h1 h2
  · exact wrap_signed 63 n h1 h2
  · exact wrap_unsigned 8 n h1 h2
  · exact wrap_unsigned 16 n h1 h2
  · exact wrap_unsigned 32 n h1 h2
  · exact wrap_unsigned 64 n h1 h2

theorem wr_eq (k : IntKind) (n : Int) : wr k n = k.wrap n := by
  unfold wr
  cases n with
  | ofNat m =>
    simp only
    cases h : Nat.blt m (fits k) with
    | false => rfl
    | true =>
      have h := blt_of h
      rw [cond_true, wrap_fits]
      · split <;> simp <;> omega
      · simpa using h
  | negSucc m =>
    simp only
    cases h : (k.signed && Nat.blt m (fits k)) with
    | false => rfl
    | true =>
      simp only [Bool.and_eq_true] at h
      obtain ⟨h1, h2⟩ := h
      have h2 := blt_of h2
      rw [cond_true, wrap_fits]
      · rw [h1]; simp; omega
      · omega

theorem pure_neg {t : TypeId} {x : Operand} (ho : o.op = .unOp .neg t x) : PureOK P o (eval1 (opd P x) negC) := by
  intro ρ nt tm a v hf hg h
  obtain ⟨u, hu, h⟩ := eval1_some h
  have hx := opd_real hf hg x u hu
  cases u <;> simp only [negC, Option.some.injEq, reduceCtorEq] at h <;> subst h
  simp only [real, Option.some.injEq] at hx
  exact ⟨_, rfl, fun w => by rw [wr_eq]; simp [execOp, ho, ← hx, Op.unary, Op.intArith]; rw [show Int.sub 0 _ = - _ from Int.zero_sub _]⟩

theorem pure_mkIface {t : TypeId} {x : Operand} {i : TyE} (ht : tyOf P t = some i) (hi : ∀ ms, i.desc ≠ .interface ms) (ho : o.op = .makeInterface t x) :
    PureOK P o (eval1 (opd P x) (mkIface t)) := by
  intro ρ nt tm a v hf hg h
  obtain ⟨u, hu, h⟩ := eval1_some h
  have hx := opd_real hf hg x u hu
  simp only [mkIface, Option.some.injEq] at h
  subst h
  refine ⟨.iface t (a.eval x), by simp [real, hx], fun w => ?_⟩
  have := run_underlying' ht w
  simp only [execOp, ho, Instr.makeInterface, Sem.run_bind, this, Result.andThen_ok]
  cases hd : i.desc <;> simp_all

theorem pure_mkFunc {f : FuncId} {fi ca : Array Operand} (ho : o.op = .makeFunc (.func f) fi ca) : PureOK P o (mkFunc f (opds P fi.toList) (opds P ca.toList)) := by
  intro ρ nt tm a v hf hg h
  unfold mkFunc at h
  split at h
  · rename_i x y hx hy
    cases h
    have h1 := opds_real hf hg _ _ hx
    have h2 := opds_real hf hg _ _ hy
    refine ⟨.func (.func f) (fi.map a.eval) (ca.map a.eval), ?_, fun w => by simp [execOp, ho, Instr.makeFunc]⟩
    simp only [real, h1, h2, Option.bind_some, Option.map_some, Option.some.injEq, Value.func.injEq, true_and]
    constructor <;> (apply Array.ext'; simp)
  · cases h

theorem pure_extract {t : Operand} {i : Nat} (ho : o.op = .extract t i) : PureOK P o (eval1 (opd P t) (extractC i)) := by
  intro ρ nt tm a v hf hg h
  obtain ⟨u, hu, h⟩ := eval1_some h
  have hx := opd_real hf hg t u hu
  cases u <;> simp only [extractC, reduceCtorEq] at h
  simp only [real, Option.map_eq_some_iff] at hx
  obtain ⟨L, hL, e⟩ := hx
  obtain ⟨V, hV, hV'⟩ := reals_get hL i v h
  exact ⟨V, hV, fun w => by simp [execOp, ho, Instr.extract, ← e, hV']⟩

theorem pure_convInt {s t : TypeId} {x : Operand} {i j : TyE} {k k' : IntKind} (hs : tyOf P s = some i) (ht : tyOf P t = some j) (hi : i.desc = .int k') (hj : j.desc = .int k)
    (ho : o.op = .convert s t x) : PureOK P o (eval1 (opd P x) (convInt k)) := by
  intro ρ nt tm a v hf hg h
  obtain ⟨u, hu, h⟩ := eval1_some h
  have hx := opd_real hf hg x u hu
  cases u <;> simp only [convInt, Option.some.injEq, reduceCtorEq] at h <;> subst h
  simp only [real, Option.some.injEq] at hx
  refine ⟨_, rfl, fun w => ?_⟩
  have h1 := run_underlying' hs w
  have h2 := run_underlying' ht w
  rw [hi] at h1
  rw [hj] at h2
  simp [execOp, ho, convert, h1, h2, ← hx, Conv.intToInt, wr_eq]

theorem pure_convStr {s t : TypeId} {x : Operand} {i j : TyE} (hs : tyOf P s = some i) (ht : tyOf P t = some j) (hi : i.desc = .string) (hj : j.desc = .string)
    (ho : o.op = .convert s t x) : PureOK P o (eval1 (opd P x) convStr) := by
  intro ρ nt tm a v hf hg h
  obtain ⟨u, hu, h⟩ := eval1_some h
  have hx := opd_real hf hg x u hu
  cases u <;> simp only [convStr, Option.some.injEq, reduceCtorEq] at h <;> subst h
  simp only [real, Option.some.injEq] at hx
  refine ⟨_, rfl, fun w => ?_⟩
  have h1 := run_underlying' hs w
  have h2 := run_underlying' ht w
  rw [hi] at h1
  rw [hj] at h2
  simp [execOp, ho, convert, h1, h2, ← hx]

/-! Parts of aggregates. -/

theorem reals_drop {ρ : Ren} : ∀ {l : List CV} {L : List Value} (n : Nat), reals ρ l = some L → reals ρ (l.drop n) = some (L.drop n)
  | l, L, 0, e => by simpa using e
  | [], L, n + 1, e => by simp [reals] at e; subst e; rfl
  | v :: l, L, n + 1, e => by
    simp only [reals, Option.bind_eq_some_iff, Option.map_eq_some_iff] at e
    obtain ⟨x, hx, y, hy, rfl⟩ := e
    simpa using reals_drop n hy

theorem reals_take {ρ : Ren} : ∀ {l : List CV} {L : List Value} (n : Nat), reals ρ l = some L → reals ρ (l.take n) = some (L.take n)
  | l, L, 0, e => by simp [reals]
  | [], L, n + 1, e => by simp [reals] at e; subst e; rfl
  | v :: l, L, n + 1, e => by
    simp only [reals, Option.bind_eq_some_iff, Option.map_eq_some_iff] at e
    obtain ⟨x, hx, y, hy, rfl⟩ := e
    simpa using reals_cons hx (reals_take n hy)

theorem run_part {ρ : Ren} {t : TypeId} {i : TyE} (ht : tyOf P t = some i) {cs : List CV} {L : List Value} (hL : reals ρ cs = some L) {off : Nat} {v : CV}
    (h : partC i.size (isAggD i.desc) cs off = some v) : ∃ V, real ρ v = some V ∧ ∀ w, (part t L.toArray off).run P w = .ok V w := by
  unfold partC at h
  cases hb : isAggD i.desc with
  | true =>
    rw [hb, cond_true] at h
    cases h
    refine ⟨.agg ((L.drop off).take i.size).toArray, by simp [real, reals_take _ (reals_drop _ hL)], fun w => ?_⟩
    simp only [part, Sem.run_bind, run_isAgg' ht w, hb, Result.andThen_ok, if_true, run_sizeOf' ht w, Sem.run_pure]
    congr 2
    apply Array.ext'
    simp [List.take_drop]
  | false =>
    rw [hb, cond_false] at h
    obtain ⟨V, hV, hV'⟩ := reals_get hL off v h
    refine ⟨V, hV, fun w => ?_⟩
    simp [part, run_isAgg' ht w, hb, hV']

theorem pure_field {t : TypeId} {x : Operand} {f : Nat} {i : TyE} {fields : Array Field} {fd : Field} {fi : TyE} (ht : tyOf P t = some i) (hi : i.desc = .struct fields)
    (hfd : fields[f]? = some fd) (hfi : tyOf P fd.type = some fi) (ho : o.op = .field t x f) : PureOK P o (eval1 (opd P x) (fieldC fi.size (isAggD fi.desc) fd.offset)) := by
  intro ρ nt tm a v hf hg h
  obtain ⟨u, hu, h⟩ := eval1_some h
  have hx := opd_real hf hg x u hu
  cases u <;> simp only [fieldC, reduceCtorEq] at h
  simp only [real, Option.map_eq_some_iff] at hx
  obtain ⟨L, hL, e⟩ := hx
  obtain ⟨V, hV, hV'⟩ := run_part hfi hL h
  refine ⟨V, hV, fun w => ?_⟩
  have h1 := run_underlying' ht w
  rw [hi] at h1
  simp [execOp, ho, Instr.field, h1, hfd, ← e, asAgg, hV']

theorem pure_fieldAddr {t : TypeId} {x : Operand} {f : Nat} {i : TyE} {fields : Array Field} {fd : Field} {fi : TyE} (ht : tyOf P t = some i) (hi : i.desc = .struct fields)
    (hfd : fields[f]? = some fd) (hfi : tyOf P fd.type = some fi) (hz : fi.size ≠ 0) (ho : o.op = .fieldAddr t x f) : PureOK P o (eval1 (opd P x) (fieldAddrC fd.offset)) := by
  intro ρ nt tm a v hf hg h
  obtain ⟨u, hu, h⟩ := eval1_some h
  have hx := opd_real hf hg x u hu
  cases u <;> simp only [fieldAddrC, Option.some.injEq, reduceCtorEq] at h
  subst h
  simp only [real, Option.map_eq_some_iff] at hx
  obtain ⟨y, hy, e⟩ := hx
  rename_i b off
  refine ⟨.pointer (some ⟨y.1, off + fd.offset + y.2, none⟩), by simp [real, hy], fun w => ?_⟩
  have h1 := run_underlying' ht w
  rw [hi] at h1
  have h2 := run_sizeOf' hfi w
  simp [execOp, ho, Instr.fieldAt, h1, hfd, ← e, Instr.sureAddr, fieldPlace, h2, hz, Addr.add]
  split <;> simp_all
  omega

end
end Go.Ev

namespace Go.Ev

theorem asNat_some {v : CV} {n : Nat} (h : asNat v = some n) : ∃ k, v = .int k (.ofNat n) := by
  unfold asNat at h
  split at h
  · cases h; exact ⟨_, rfl⟩
  · cases h

/-- A bound: a number, or none. -/
def Bnd (a : Act) (x : Option Operand) (r : Option Nat) : Prop :=
  match x, r with
  | none, none => True
  | some x, some n => ∃ k, a.eval x = .int k (.ofNat n)
  | _, _ => False

section
variable {P : Program} {o : Oper}

theorem optNat_some {ρ : Ren} {nt : Nat} {tm : Tm} {a : Act} (hf : FrRel ρ nt tm a) (hg : Glob P ρ) {x : Option Operand} {r : Option Nat}
    (h : optNat (x.map (opd P)) tm = some r) : Bnd a x r := by
  cases x with
  | none => simp [optNat] at h; subst h; trivial
  | some x =>
    simp only [optNat, Option.map_some] at h
    split at h
    · rename_i v hv
      split at h
      · rename_i n hn
        cases h
        obtain ⟨k, rfl⟩ := asNat_some hn
        have := opd_real hf hg x _ hv
        simp only [real, Option.some.injEq] at this
        exact ⟨k, this.symm⟩
      · cases h
    · cases h

theorem run_sliceBound (k : IntKind) (n y : Nat) (code : BoundsCode) (h : n ≤ y) (w : World) :
    (Instr.sliceBound (.int k (.ofNat n)) y code).run P w = .ok n w := by
  simp [Instr.sliceBound, asIntOf, h]

theorem run_sliceBounds {a : Act} (isSlice : Bool) (len cap : Nat) {lo hi mx : Option Operand} {l h m : Option Nat} (hl : Bnd a lo l) (hh : Bnd a hi h) (hm : Bnd a mx m)
    (h1 : l.getD 0 ≤ h.getD len) (h2 : h.isSome = true → h.getD len ≤ m.getD cap) (h3 : m.isSome = true → h.isSome = true ∧ m.getD cap ≤ cap) (w : World) :
    (Instr.sliceBounds isSlice len cap (lo.map a.eval) (hi.map a.eval) (mx.map a.eval)).run P w = .ok (l.getD 0, h.getD len, m.getD cap) w := by
  unfold Instr.sliceBounds
  cases lo <;> cases l <;> simp only [Bnd] at hl <;> cases hi <;> cases h <;> simp only [Bnd] at hh <;> cases mx <;> cases m <;> simp only [Bnd] at hm
  all_goals simp only [Option.getD_some, Option.getD_none, Option.isSome_some, Option.isSome_none, Bool.false_eq_true, forall_const, false_implies, false_and, imp_false] at h1 h2 h3
  all_goals (try (obtain ⟨k1, e1⟩ := hl)) <;> (try (obtain ⟨k2, e2⟩ := hh)) <;> (try (obtain ⟨k3, e3⟩ := hm))
  all_goals simp only [Option.map_some, Option.map_none, Sem.run_bind, Sem.run_pure, Result.andThen_ok, Option.getD_some, Option.getD_none, Option.isSome_some, Option.isSome_none]
  all_goals (try rw [e3]) <;> (try rw [e2]) <;> (try rw [e1])
  all_goals (try rw [run_sliceBound _ _ _ _ (by omega)]) <;> simp only [Result.andThen_ok]
  all_goals (try rw [run_sliceBound _ _ _ _ (by omega)]) <;> (try simp only [Result.andThen_ok])
  all_goals (try rw [run_sliceBound _ _ _ _ (by omega)]) <;> (try simp only [Result.andThen_ok])

theorem sliceC_some {k : SlK} {x : Operand} {lo hi mx : Option Operand} {ρ : Ren} {nt : Nat} {tm : Tm} {a : Act} (hf : FrRel ρ nt tm a) (hg : Glob P ρ) {v : CV}
    (h : sliceC k (opd P x) (lo.map (opd P)) (hi.map (opd P)) (mx.map (opd P)) tm = some v) :
    ∃ u l h' m, real ρ u = some (a.eval x) ∧ Bnd a lo l ∧ Bnd a hi h' ∧ Bnd a mx m ∧ sliceV k u l h' m = some v := by
  unfold sliceC at h
  split at h
  · rename_i u l h' m h1 h2 h3 h4
    exact ⟨u, l, h', m, opd_real hf hg x _ h1, optNat_some hf hg h2, optNat_some hf hg h3, optNat_some hf hg h4, h⟩
  · cases h

theorem bnd_mx_none {a : Act} {x : Option Operand} (h : Bnd a x none) : x = none := by cases x <;> simp_all [Bnd]
theorem bnd_hi_none {a : Act} {x : Operand} (h : Bnd a (some x) none) : False := h

theorem strReal_size (s : List Nat) : (strReal s).size = s.length := by simp [strReal, ByteArray.size]

theorem strReal_slice (s : List Nat) (l h : Nat) : strReal ((s.drop l).take (h - l)) = (strReal s).extract l h := by
  apply ByteArray.ext
  rw [ByteArray.data_extract]
  apply Array.ext'
  simp [strReal, List.map_take, List.map_drop, List.take_drop]
  

theorem pure_sliceStr {t : TypeId} {x : Operand} {lo hi mx : Option Operand} {i : TyE} (ht : tyOf P t = some i) (hi' : i.desc = .string) (ho : o.op = .slice t x lo hi mx) :
    PureOK P o (sliceC .str (opd P x) (lo.map (opd P)) (hi.map (opd P)) (mx.map (opd P))) := by
  intro ρ nt tm a v hf hg h
  obtain ⟨u, l, h', m, hu, b1, b2, b3, hs⟩ := sliceC_some hf hg h
  clear h
  cases u <;> simp only [sliceV, reduceCtorEq] at hs
  rename_i s
  cases m with
  | some m => cases hs
  | none =>
    simp only at hs
    have hmx := bnd_mx_none b3
    subst hmx
    unfold sliceStr at hs
    cases hc : (Nat.ble (l.getD 0) (h'.getD s.length) && Nat.ble (h'.getD s.length) s.length) with
    | false => rw [hc] at hs; cases hs
    | true =>
      rw [hc, cond_true] at hs
      cases hs
      simp only [Bool.and_eq_true] at hc
      have h1 := ble_of hc.1
      have h2 := ble_of hc.2
      simp only [real, Option.some.injEq] at hu
      refine ⟨_, rfl, fun w => ?_⟩
      have hun := run_underlying' ht w
      rw [hi'] at hun
      have hb := run_sliceBounds (P := P) (w := w) false s.length s.length b1 b2 b3 h1 (fun _ => h2) (fun h => by simp at h)
      simp only [Option.map_none] at hb
      simp [execOp, ho, Instr.sliceAt, hun, Instr.slice, ← hu, strReal_size, hb, strReal_slice]

theorem cap_real {ρ : Ren} {c : Cap} {n l : Nat} (hc : ρ.cap c = some n) (h : capLe l c = true) : l ≤ n := by
  cases c with
  | ex m => simp only [Ren.cap, Option.some.injEq] at hc; subst hc; exact ble_of h
  | sy i base =>
    simp only [Ren.cap, Option.map_eq_some_iff] at hc
    obtain ⟨x, hx, rfl⟩ := hc
    have := ble_of h
    omega

theorem add_addr (B off n : Nat) : (⟨B, off, none⟩ : Addr).add n = ⟨B, off + n, none⟩ := by
  unfold Addr.add; split <;> simp_all

/-- s[lo:hi:mx] over a row. -/
theorem slice_row {ρ : Ren} {size b off len : Nat} {c : Cap} {l h' m : Option Nat} {v : CV} (h : sliceSl size b off len c (l.getD 0) h' m = some v)
    {B D n : Nat} (hb : ρ.b b = some (B, D)) (hc : ρ.cap c = some n) :
    l.getD 0 ≤ h'.getD len ∧ (h'.isSome = true → h'.getD len ≤ m.getD n) ∧ (m.isSome = true → h'.isSome = true ∧ m.getD n ≤ n) ∧
    real ρ v = some (.slice (some (if m.getD n = l.getD 0 then ⟨B, off + D, none⟩ else ⟨B, off + D + l.getD 0 * size, none⟩)) (h'.getD len - l.getD 0) (m.getD n - l.getD 0)) := by
  unfold sliceSl at h
  cases h1 : Nat.ble (l.getD 0) (h'.getD len) with
  | false => rw [h1] at h; cases h
  | true =>
    rw [h1, cond_true] at h
    have h1 := ble_of h1
    cases m with
    | none =>
      simp only at h
      cases h2 : capLe (h'.getD len) c with
      | false => rw [h2] at h; cases h
      | true =>
        rw [h2, cond_true] at h
        have h2' := cap_real hc h2
        cases h3 : capSub c (l.getD 0) with
        | none => rw [h3] at h; cases h
        | some c' =>
          rw [h3] at h
          cases h
          refine ⟨h1, fun _ => by simpa using h2', fun h => by simp at h, ?_⟩
          simp only [Option.getD_none]
          cases c with
          | ex q =>
            simp only [Ren.cap, Option.some.injEq] at hc
            subst hc
            simp only [capSub] at h3
            cases h4 : Nat.ble (l.getD 0) q with
            | false => rw [h4] at h3; cases h3
            | true =>
              rw [h4, cond_true] at h3
              cases h3
              simp only [real, hb, Option.bind_some, Ren.cap, Option.map_some, capIs, Option.some.injEq, Value.slice.injEq, true_and, and_true]
              by_cases hq : q = l.getD 0
              · rw [beq_yes hq, if_pos hq, cond_true]
              · rw [beq_no hq, if_neg hq, cond_false]
                congr 1
                omega
          | sy id base =>
            simp only [Ren.cap, Option.map_eq_some_iff] at hc
            obtain ⟨x, hx, rfl⟩ := hc
            simp only [capSub] at h3
            cases h4 : Nat.blt (l.getD 0) base with
            | false => rw [h4] at h3; cases h3
            | true =>
              rw [h4, cond_true] at h3
              cases h3
              have h4 := blt_of h4
              rw [if_neg (by omega)]
              simp only [real, hb, Option.bind_some, Ren.cap, hx, Option.map_some, capIs, cond_false, Option.some.injEq, Value.slice.injEq, true_and]
              constructor
              · congr 1; omega
              · omega
    | some m =>
      simp only at h
      cases h2 : (h'.isSome && Nat.ble (h'.getD len) m && capLe m c) with
      | false => rw [h2] at h; cases h
      | true =>
        rw [h2, cond_true] at h
        cases h
        simp only [Bool.and_eq_true] at h2
        obtain ⟨⟨h3, h4⟩, h5⟩ := h2
        have h4 := ble_of h4
        have h5 := cap_real hc h5
        refine ⟨h1, fun _ => by simpa using h4, fun _ => ⟨h3, by simpa using h5⟩, ?_⟩
        simp only [Option.getD_some, real, hb, Option.bind_some, Ren.cap, Option.map_some, Option.some.injEq, Value.slice.injEq, true_and, and_true]
        by_cases hq : m = l.getD 0
        · rw [beq_yes hq, if_pos hq, cond_true]
        · rw [beq_no hq, if_neg hq, cond_false]
          congr 1
          omega

theorem pure_sliceSl {t : TypeId} {x : Operand} {lo hi mx : Option Operand} {i : TyE} {e : TypeId} {ei : TyE} (ht : tyOf P t = some i) (hi' : i.desc = .slice e) (he : tyOf P e = some ei)
    (ho : o.op = .slice t x lo hi mx) : PureOK P o (sliceC (.sl ei.size) (opd P x) (lo.map (opd P)) (hi.map (opd P)) (mx.map (opd P))) := by
  intro ρ nt tm a v hf hg h
  obtain ⟨u, l, h', m, hu, b1, b2, b3, h⟩ := sliceC_some hf hg h
  cases u <;> simp only [sliceV, reduceCtorEq] at h
  · -- nil
    cases hc : (isZero l && isZero h' && isZero m && mxOk h' m) with
    | false => rw [hc] at h; cases h
    | true =>
      rw [hc, cond_true] at h
      cases h
      simp only [Bool.and_eq_true] at hc
      obtain ⟨⟨⟨z1, z2⟩, z3⟩, z4⟩ := hc
      simp only [real, Option.some.injEq] at hu
      refine ⟨_, rfl, fun w => ?_⟩
      have hun := run_underlying' ht w
      rw [hi'] at hun
      have hsz := run_sizeOf' he w
      have e1 : l.getD 0 = 0 := by cases l <;> simp_all [isZero]
      have e2 : h'.getD 0 = 0 := by cases h' <;> simp_all [isZero]
      have e3 : m.getD 0 = 0 := by cases m <;> simp_all [isZero]
      have hb := run_sliceBounds (P := P) (w := w) true 0 0 b1 b2 b3 (by omega) (fun _ => by omega) (fun hm' => ⟨by cases h' <;> cases m <;> simp_all [mxOk], by omega⟩)
      rw [e1, e2, e3] at hb
      simp [execOp, ho, Instr.sliceAt, hun, Instr.slice, ← hu, hb, hsz]
  · rename_i b off len c
    simp only [real, Option.bind_eq_some_iff, Option.map_eq_some_iff] at hu
    obtain ⟨⟨B, D⟩, hb, n, hc, hu⟩ := hu
    obtain ⟨h1, h2, h3, h4⟩ := slice_row h hb hc
    refine ⟨_, h4, fun w => ?_⟩
    have hun := run_underlying' ht w
    rw [hi'] at hun
    have hsz := run_sizeOf' he w
    have hb := run_sliceBounds (P := P) (w := w) true len n b1 b2 b3 h1 h2 h3
    simp [execOp, ho, Instr.sliceAt, hun, Instr.slice, ← hu, hb, hsz, add_addr]
    split <;> simp_all

theorem pure_sliceArr {t : TypeId} {x : Operand} {lo hi mx : Option Operand} {i : TyE} {e : TypeId} {ei : TyE} {n : Nat} (ht : tyOf P t = some i) (hi' : i.desc = .array n e) (he : tyOf P e = some ei)
    (ho : o.op = .slice t x lo hi mx) : PureOK P o (sliceC (.arr n ei.size) (opd P x) (lo.map (opd P)) (hi.map (opd P)) (mx.map (opd P))) := by
  intro ρ nt tm a v hf hg h
  obtain ⟨u, l, h', m, hu, b1, b2, b3, h⟩ := sliceC_some hf hg h
  cases u <;> simp only [sliceV, reduceCtorEq] at h
  rename_i b off
  simp only [real, Option.map_eq_some_iff] at hu
  obtain ⟨⟨B, D⟩, hb, hu⟩ := hu
  obtain ⟨h1, h2, h3, h4⟩ := slice_row h hb rfl
  refine ⟨_, h4, fun w => ?_⟩
  have hun := run_underlying' ht w
  rw [hi'] at hun
  have hsz := run_sizeOf' he w
  have hb := run_sliceBounds (P := P) (w := w) false n n b1 b2 b3 h1 h2 h3
  simp [execOp, ho, Instr.sliceAt, hun, ← hu, hb, hsz, add_addr, Instr.sureAddr]

/-! Indexes. -/

theorem pure_indexAddrArr {t : TypeId} {x ix : Operand} {i : TyE} {e : TypeId} {ei : TyE} {n : Nat} (ht : tyOf P t = some i) (hi' : i.desc = .array n e) (he : tyOf P e = some ei)
    (ho : o.op = .indexAddr t x ix) : PureOK P o (eval2 (opd P x) (opd P ix) (indexAddrArr n ei.size)) := by
  intro ρ nt tm a v hf hg h
  obtain ⟨u, y, hu0, hy0, hs⟩ := eval2_some h
  have hu := opd_real hf hg x u hu0
  have hy := opd_real hf hg ix y hy0
  clear hu0 hy0 h
  unfold indexAddrArr at hs
  split at hs
  · rename_i b off q hq
    obtain ⟨k, rfl⟩ := asNat_some hq
    cases hc : Nat.blt q n with
    | false => rw [hc] at hs; cases hs
    | true =>
      rw [hc, cond_true] at hs
      cases hs
      have hc := blt_of hc
      simp only [real, Option.map_eq_some_iff] at hu
      obtain ⟨⟨B, D⟩, hb, hu⟩ := hu
      simp only [real, Option.some.injEq] at hy
      refine ⟨.pointer (some ⟨B, off + q * ei.size + D, none⟩), by simp [real, hb], fun w => ?_⟩
      have hun := run_underlying' ht w
      rw [hi'] at hun
      have hsz := run_sizeOf' he w
      simp [execOp, ho, Instr.indexAt, asIntOf, ← hy, hun, ← hu, Instr.sureAddr, hc, hsz, add_addr]
      omega
  · cases hs

theorem pure_indexAddrSl {t : TypeId} {x ix : Operand} {i : TyE} {e : TypeId} {ei : TyE} (ht : tyOf P t = some i) (hi' : i.desc = .slice e) (he : tyOf P e = some ei)
    (ho : o.op = .indexAddr t x ix) : PureOK P o (eval2 (opd P x) (opd P ix) (indexAddrSl ei.size)) := by
  intro ρ nt tm a v hf hg h
  obtain ⟨u, y, hu0, hy0, hs⟩ := eval2_some h
  have hu := opd_real hf hg x u hu0
  have hy := opd_real hf hg ix y hy0
  clear hu0 hy0 h
  unfold indexAddrSl at hs
  split at hs
  · rename_i b off len c q hq
    obtain ⟨k, rfl⟩ := asNat_some hq
    cases hc : Nat.blt q len with
    | false => rw [hc] at hs; cases hs
    | true =>
      rw [hc, cond_true] at hs
      cases hs
      have hc := blt_of hc
      simp only [real, Option.bind_eq_some_iff, Option.map_eq_some_iff] at hu
      obtain ⟨⟨B, D⟩, hb, m, hm, hu⟩ := hu
      simp only [real, Option.some.injEq] at hy
      refine ⟨.pointer (some ⟨B, off + q * ei.size + D, none⟩), by simp [real, hb], fun w => ?_⟩
      have hun := run_underlying' ht w
      rw [hi'] at hun
      have hsz := run_sizeOf' he w
      simp [execOp, ho, Instr.indexAt, asIntOf, ← hy, hun, ← hu, hc, hsz, add_addr]
      omega
  · cases hs

theorem pure_indexArr {t : TypeId} {x ix : Operand} {i : TyE} {e : TypeId} {ei : TyE} {n : Nat} (ht : tyOf P t = some i) (hi' : i.desc = .array n e) (he : tyOf P e = some ei)
    (ho : o.op = .index t x ix) : PureOK P o (eval2 (opd P x) (opd P ix) (indexArr n ei.size (isAggD ei.desc))) := by
  intro ρ nt tm a v hf hg h
  obtain ⟨u, y, hu0, hy0, hs⟩ := eval2_some h
  have hu := opd_real hf hg x u hu0
  have hy := opd_real hf hg ix y hy0
  clear hu0 hy0 h
  unfold indexArr at hs
  split at hs
  · rename_i cs q hq
    obtain ⟨k, rfl⟩ := asNat_some hq
    cases hc : Nat.blt q n with
    | false => rw [hc] at hs; cases hs
    | true =>
      rw [hc, cond_true] at hs
      have hc := blt_of hc
      simp only [real, Option.map_eq_some_iff] at hu
      obtain ⟨L, hL, hu⟩ := hu
      simp only [real, Option.some.injEq] at hy
      obtain ⟨V, hV, hV'⟩ := run_part he hL hs
      refine ⟨V, hV, fun w => ?_⟩
      have hun := run_underlying' ht w
      rw [hi'] at hun
      have hsz := run_sizeOf' he w
      simp [execOp, ho, Instr.index, asIntOf, ← hy, hun, ← hu, hc, hsz, hV']
  · cases hs

theorem pure_indexStr {t : TypeId} {x ix : Operand} {i : TyE} (ht : tyOf P t = some i) (hi' : i.desc = .string)
    (ho : o.op = .index t x ix) : PureOK P o (eval2 (opd P x) (opd P ix) indexStr) := by
  intro ρ nt tm a v hf hg h
  obtain ⟨u, y, hu0, hy0, hs⟩ := eval2_some h
  have hu := opd_real hf hg x u hu0
  have hy := opd_real hf hg ix y hy0
  clear hu0 hy0 h
  unfold indexStr at hs
  split at hs
  · rename_i s q hq
    obtain ⟨k, rfl⟩ := asNat_some hq
    split at hs
    · rename_i b hb
      cases hc : Nat.blt b 256 with
      | false => rw [hc] at hs; cases hs
      | true =>
        rw [hc, cond_true] at hs
        cases hs
        have hc := blt_of hc
        simp only [real, Option.some.injEq] at hu hy
        refine ⟨_, rfl, fun w => ?_⟩
        have hun := run_underlying' ht w
        rw [hi'] at hun
        have hq' : q < s.length := by
          rcases Nat.lt_or_ge q s.length with h | h
          · exact h
          · simp [List.getElem?_eq_none h] at hb
        have hbs : (strReal s)[q]? = some (UInt8.ofNat b) := by
          have hq'' : q < (strReal s).size := by rw [strReal_size]; exact hq'
          rw [getElem?_pos (strReal s) q hq'']
          have : s[q] = b := by rw [List.getElem?_eq_getElem hq'] at hb; simpa using hb
          simp [strReal, ByteArray.getElem_eq_getElem_data, this]
        have hmod : (UInt8.ofNat b).toNat = b := by simp; omega
        simp [execOp, ho, Instr.index, asIntOf, ← hy, hun, ← hu, hbs, hmod]
    · cases hs
  · cases hs

end
end Go.Ev
