/-
  Operations that look at no memory, the last: binary operators, composites, lengths. Composites, lengths.
-/
import Derived.Test.YtjhmlmiegkjncaaGreatDoorEvH
set_option linter.all false

namespace Go.Ev

section
variable {P : Program} {o : Oper}

theorem eqGuard_int (op : BinOp) (t : TypeId) (x y : Operand) (k k' : IntKind) (a b : Int) (w : World) :
    (eqGuard op t x y (.int k a) (.int k' b)).run P w = .ok () w := by
  unfold eqGuard
  split <;> rfl

theorem not_lt_dec (a b : Int) : (!decide (b < a)) = decide (a ≤ b) := by
  rw [← decide_not]
  congr 1
  simp [Int.not_lt]

theorem intF_run {op : BinOp} {f : IntKind → Int → Int → Option CV} (hf : intF op = some f) {k : IntKind} {a b : Int} {v : CV} (h : f k a b = some v) (ρ : Ren) (t : TypeId) :
    ∃ V, real ρ v = some V ∧ ∀ w, (binOp op t (.int k a) (.int k b)).run P w = .ok V w := by
  cases op <;> simp only [intF, Option.some.injEq, reduceCtorEq] at hf <;> subst hf
  · simp only [addI, litInt_eq, Option.some.injEq, wr_eq] at h; subst h
    exact ⟨_, rfl, fun w => by simp [binOp, Op.intArith] <;> rfl⟩
  · simp only [subI, litInt_eq, Option.some.injEq, wr_eq] at h; subst h
    exact ⟨_, rfl, fun w => by simp [binOp, Op.intArith] <;> rfl⟩
  · simp only [eqI, Option.some.injEq, intEq_eq] at h; subst h
    exact ⟨_, rfl, fun w => by simp [binOp, Op.intCmp]⟩
  · simp only [neI, Option.some.injEq, intEq_eq] at h; subst h
    exact ⟨_, rfl, fun w => by simp [binOp, Op.intCmp, bne]⟩
  · simp only [ltI, Option.some.injEq, intLt_eq] at h; subst h
    exact ⟨_, rfl, fun w => by simp [binOp, Op.intCmp]⟩
  · simp only [leI, Option.some.injEq, intLt_eq] at h; subst h
    exact ⟨_, rfl, fun w => by simp [binOp, Op.intCmp] <;> simp [not_lt_dec]⟩
  · simp only [gtI, Option.some.injEq, intLt_eq] at h; subst h
    exact ⟨_, rfl, fun w => by simp [binOp, Op.intCmp]⟩
  · simp only [geI, Option.some.injEq, intLt_eq] at h; subst h
    exact ⟨_, rfl, fun w => by simp [binOp, Op.intCmp] <;> simp [not_lt_dec]⟩

theorem pure_binInt {op : BinOp} {t t' : TypeId} {x y : Operand} {f : IntKind → Int → Int → Option CV} (hf' : intF op = some f) (ho : o.op = .binOp op t x y t') :
    PureOK P o (eval2 (opd P x) (opd P y) (both op f)) := by
  intro ρ nt tm a v hf hg h
  obtain ⟨u, z, hu, hz, hs⟩ := eval2_some h
  have h1 := opd_real hf hg x _ hu
  have h2 := opd_real hf hg y _ hz
  rcases both_some hs with ⟨k, m, n, rfl, rfl, hs'⟩ | ⟨c, lo, hi, rfl, hs'⟩
  rotate_left
  · unfold ulenCmp at hs'
    split at hs'
    · rename_i kk
      simp only [real, Option.map_eq_some_iff] at h1
      obtain ⟨s, hs1, h1⟩ := h1
      obtain ⟨_, _, b1, b2⟩ := Ren.ustr_some hs1
      simp only [real, Option.some.injEq] at h2
      have hval : v = .bool (decide ((kk : Int) < s.size)) := by
        cases hb : Nat.ble hi kk with
        | true =>
          rw [hb, cond_true] at hs'
          cases hs'
          have := ble_of hb
          congr 1
          exact (decide_eq_false (by omega)).symm
        | false =>
          rw [hb, cond_false] at hs'
          cases hb2 : Nat.blt kk lo with
          | true =>
            rw [hb2, cond_true] at hs'
            cases hs'
            have := blt_of hb2
            congr 1
            exact (decide_eq_true (by omega)).symm
          | false => rw [hb2] at hs'; cases hs'
      subst hval
      refine ⟨.bool (decide ((kk : Int) < s.size)), rfl, fun w => ?_⟩
      simp only [execOp, ho, ← h1, ← h2, Sem.run_bind, eqGuard_int, Result.andThen_ok]
      simp [binOp, Op.intCmp]
    · cases hs'
  simp only [real, Option.some.injEq] at h1 h2
  obtain ⟨V, hV, hV'⟩ := intF_run (P := P) hf' hs' ρ t
  refine ⟨V, hV, fun w => ?_⟩
  simp only [execOp, ho, ← h1, ← h2, Sem.run_bind, eqGuard_int, Result.andThen_ok, hV', Sem.run_pure]

theorem binInt_run {op : BinOp} {k : IntKind} {a b : Int} {v : CV} (hs1 : op ≠ .shl) (hs2 : op ≠ .shr) (h : binInt op k a b = some v) (ρ : Ren) (t : TypeId) :
    ∃ V, real ρ v = some V ∧ ∀ w, (binOp op t (.int k a) (.int k b)).run P w = .ok V w := by
  cases op <;> simp only [binInt, reduceCtorEq] at h
  · simp only [litInt_eq, Option.some.injEq, wr_eq] at h; subst h
    exact ⟨_, rfl, fun w => by simp [binOp, Op.intArith] <;> rfl⟩
  · simp only [litInt_eq, Option.some.injEq, wr_eq] at h; subst h
    exact ⟨_, rfl, fun w => by simp [binOp, Op.intArith] <;> rfl⟩
  · simp only [litInt_eq, Option.some.injEq, wr_eq] at h; subst h
    exact ⟨_, rfl, fun w => by simp [binOp, Op.intArith] <;> rfl⟩
  · cases hb : intEq b 0 with
    | true => rw [hb] at h; cases h
    | false =>
      rw [hb, cond_false] at h
      simp only [Option.some.injEq, wr_eq] at h; subst h
      rw [intEq_eq] at hb
      have : b ≠ 0 := by simpa using hb
      exact ⟨_, rfl, fun w => by simp [binOp, Op.intDiv, this]⟩
  · cases hb : intEq b 0 with
    | true => rw [hb] at h; cases h
    | false =>
      rw [hb, cond_false] at h
      simp only [Option.some.injEq] at h; subst h
      rw [intEq_eq] at hb
      have : b ≠ 0 := by simpa using hb
      exact ⟨_, rfl, fun w => by simp [binOp, Op.intDiv, this]⟩
  · cases h; exact ⟨_, rfl, fun w => by simp [binOp, Op.intBits]⟩
  · cases h; exact ⟨_, rfl, fun w => by simp [binOp, Op.intBits]⟩
  · cases h; exact ⟨_, rfl, fun w => by simp [binOp, Op.intBits]⟩
  · cases h; exact ⟨_, rfl, fun w => by simp [binOp, Op.intBits]⟩
  · simp only [Option.some.injEq, intEq_eq] at h; subst h
    exact ⟨_, rfl, fun w => by simp [binOp, Op.intCmp] <;> simp [not_lt_dec]⟩
  · simp only [Option.some.injEq, intEq_eq] at h; subst h
    exact ⟨_, rfl, fun w => by simp [binOp, Op.intCmp, bne]⟩
  · simp only [Option.some.injEq, intLt_eq] at h; subst h
    exact ⟨_, rfl, fun w => by simp [binOp, Op.intCmp] <;> simp [not_lt_dec]⟩
  · simp only [Option.some.injEq, intLt_eq] at h; subst h
    exact ⟨_, rfl, fun w => by simp [binOp, Op.intCmp] <;> simp [not_lt_dec]⟩
  · simp only [Option.some.injEq, intLt_eq] at h; subst h
    exact ⟨_, rfl, fun w => by simp [binOp, Op.intCmp] <;> simp [not_lt_dec]⟩
  · simp only [Option.some.injEq, intLt_eq] at h; subst h
    exact ⟨_, rfl, fun w => by simp [binOp, Op.intCmp] <;> simp [not_lt_dec]⟩

/-- What the guard of == asks is met. -/
def GuardOK (P : Program) (op : BinOp) (t : TypeId) : Prop := isEql op = true → ∀ i, tyOf P t = some i → isAggD i.desc = true → P.eqGuardType P.depth t = false

theorem eqTy_agg {d : Nat} {t : TypeId} {xs : List CV} {y : CV} {r : Bool} (h : eqAt (eqTy P d t) (.agg xs) y = some r) : ∃ i, tyOf P t = some i ∧ isAggD i.desc = true := by
  cases d with
  | zero => simp [eqTy, eqAt] at h
  | succ d =>
    simp only [eqTy] at h
    cases ht : tyOf P t with
    | none => rw [ht] at h; simp [eqAt] at h
    | some i =>
      rw [ht] at h
      simp only at h
      refine ⟨i, rfl, ?_⟩
      cases hd : i.desc <;> rw [hd] at h <;> first | rfl | (simp only at h; split at h <;> cases y <;> simp [eqAt] at h; done) | (cases y <;> simp [eqAt] at h)

theorem equal_binOp {t : TypeId} {X Y : Value} {r : Bool} (hr : ∀ w, (Op.equal t X Y).run P w = .ok r w)
    (hX : ∀ k n, X ≠ .int k n) (hXf : ∀ k n, X ≠ .float k n) (hXc : ∀ k n m, X ≠ .complex k n m) (hXs : ∀ s, X ≠ .string s) (w : World) :
    (binOp .eql t X Y).run P w = .ok (.bool r) w ∧ (binOp .neq t X Y).run P w = .ok (.bool (!r)) w := by
  cases X <;> first | (exact absurd rfl (hX _ _)) | (exact absurd rfl (hXf _ _)) | (exact absurd rfl (hXc _ _ _)) | (exact absurd rfl (hXs _)) | (constructor <;> simp [binOp, hr])

theorem real_shape {ρ : Ren} {u : CV} {V : Value} (hu : ∀ i, u ≠ .opq i) (hs : ∀ c lo hi, u ≠ .ustr c lo hi) (hl : ∀ c lo hi, u ≠ .ulen c lo hi) (h : real ρ u = some V) : (∀ k n, V = .int k n → u = .int k n) ∧ (∀ k n, V ≠ .float k n) ∧ (∀ k n m, V ≠ .complex k n m) ∧
    (∀ s, V = .string s → ∃ s', u = .str s') ∧ (V = .nilIface → u = .nili) ∧ (∀ l, V = .agg l → ∃ l', u = .agg l') := by
  cases u <;> simp only [real, Option.some.injEq, Option.map_eq_some_iff, Option.bind_eq_some_iff] at h
  case opq i => exact (hu i rfl).elim
  case ustr c lo hi => exact (hs c lo hi rfl).elim
  case ulen c lo hi => exact (hl c lo hi rfl).elim
  all_goals
    first
      | subst h
      | (obtain ⟨x, hx, rfl⟩ := h)
      | (obtain ⟨x, hx, y, hy, rfl⟩ := h)
  all_goals (refine ⟨fun k n e => ?_, fun k n e => ?_, fun k n m e => ?_, fun s e => ?_, fun e => ?_, fun l e => ?_⟩ <;> first | (cases e; done) | (cases e; rfl) | (cases e; exact ⟨_, rfl⟩))

theorem pure_binC {op : BinOp} {t t' : TypeId} {x y : Operand} (hgd : GuardOK P op t) (ho : o.op = .binOp op t x y t') :
    PureOK P o (eval2 (opd P x) (opd P y) (binC op (bif isEql op then eqTy P depth0 t else .no))) := by
  intro ρ nt tm a v hf hg h
  obtain ⟨u, z, hu, hz, hs⟩ := eval2_some h
  have h1 := opd_real hf hg x _ hu
  have h2 := opd_real hf hg y _ hz
  clear hu hz h
  -- the general case: a comparison of data
  have gen : (∀ c lo hi, u ≠ .ustr c lo hi) → (∀ k n, u ≠ .int k n) → (∀ s, u ≠ .str s) → u ≠ .nili → z ≠ .nili → binEq op (bif isEql op then eqTy P depth0 t else .no) u z = some v → ∃ V, real ρ v = some V ∧ ∀ w, (execOp a.eval o).run P w = .ok (.value V) w := by
    intro n0 n1 n2 n3 n4 h
    have hno : ∀ i, u ≠ .opq i := by
      rintro i rfl
      cases op <;> simp only [binEq, reduceCtorEq] at h
      · obtain ⟨r, hr, _⟩ := yesO_some h
        simp [eqAt] at hr
      · obtain ⟨r, hr, _⟩ := notO_some h
        simp [eqAt] at hr
    have hnl : ∀ c lo hi, u ≠ .ulen c lo hi := by
      rintro c lo hi rfl
      cases op <;> simp only [binEq, reduceCtorEq] at h
      · obtain ⟨r, hr, _⟩ := yesO_some h
        simp [eqAt] at hr
      · obtain ⟨r, hr, _⟩ := notO_some h
        simp [eqAt] at hr
    obtain ⟨sh1, sh2, sh3, sh4, sh5, sh6⟩ := real_shape hno n0 hnl h1
    have hX : ∀ k n, a.eval x ≠ .int k n := fun k n e => n1 _ _ (sh1 _ _ e)
    have hXs : ∀ s, a.eval x ≠ .string s := fun s e => by obtain ⟨s', e'⟩ := sh4 _ e; exact n2 _ e'
    have hXn : a.eval x ≠ .nilIface := fun e => n3 (sh5 e)
    have guard : ∀ r, isEql op = true → eqAt (eqTy P depth0 t) u z = some r → ∀ w, (eqGuard op t x y (a.eval x) (a.eval y)).run P w = .ok () w := by
      intro r hop he w
      unfold eqGuard
      cases op <;> simp only [isEql, Bool.false_eq_true] at hop
      all_goals
        cases ex : a.eval x <;> simp only [Bool.not_true, Bool.false_eq_true, if_false, Sem.run_pure]
        case nilIface => exact absurd ex hXn
        case agg cs =>
          cases ey : a.eval y <;> simp only [Sem.run_pure]
          rw [ex] at h1
          obtain ⟨xs, rfl⟩ := sh6 _ ex
          obtain ⟨i, hi, hag⟩ := eqTy_agg he
          have := hgd rfl i hi hag
          simp [this]
    cases op <;> simp only [binEq, reduceCtorEq] at h
    · obtain ⟨r, hr, rfl⟩ := yesO_some h
      simp only [isEql, cond_true] at hr
      have he : ∀ w, (Op.equal t (a.eval x) (a.eval y)).run P w = .ok r w := fun w => eqAt_run depth0 Op.maxDepth (by decide) t u z _ _ r hr h1 h2 w
      refine ⟨_, rfl, fun w => ?_⟩
      simp only [execOp, ho, Sem.run_bind, guard r rfl hr w, Result.andThen_ok, (equal_binOp he hX sh2 sh3 hXs w).1, Sem.run_pure]
    · obtain ⟨r, hr, rfl⟩ := notO_some h
      simp only [isEql, cond_true] at hr
      have he : ∀ w, (Op.equal t (a.eval x) (a.eval y)).run P w = .ok r w := fun w => eqAt_run depth0 Op.maxDepth (by decide) t u z _ _ r hr h1 h2 w
      refine ⟨_, rfl, fun w => ?_⟩
      simp only [execOp, ho, Sem.run_bind, guard r rfl hr w, Result.andThen_ok, (equal_binOp he hX sh2 sh3 hXs w).2, Sem.run_pure]
  unfold binC at hs
  cases u with
  | int k m =>
    cases z <;> simp only [reduceCtorEq] at hs
    rename_i k' n
    simp only [real, Option.some.injEq] at h1 h2
    have fin : (∃ V, real ρ v = some V ∧ ∀ w, (binOp op t (.int k m) (.int k' n)).run P w = .ok V w) → ∃ V, real ρ v = some V ∧ ∀ w, (execOp a.eval o).run P w = .ok (.value V) w := by
      rintro ⟨V, hV, hV'⟩
      refine ⟨V, hV, fun w => ?_⟩
      simp only [execOp, ho, ← h1, ← h2, Sem.run_bind, eqGuard_int, Result.andThen_ok, hV', Sem.run_pure]
    apply fin
    by_cases hs1 : op = .shl
    · subst hs1
      simp only at hs
      cases hb : intLt n 0 with
      | true => rw [hb] at hs; cases hs
      | false =>
        rw [hb, cond_false] at hs
        cases hs
        rw [intLt_eq] at hb
        have : ¬ n < 0 := by simpa using hb
        exact ⟨_, rfl, fun w => by simp [binOp, Op.shift, this]⟩
    · by_cases hs2 : op = .shr
      · subst hs2
        simp only at hs
        cases hb : intLt n 0 with
        | true => rw [hb] at hs; cases hs
        | false =>
          rw [hb, cond_false] at hs
          cases hs
          rw [intLt_eq] at hb
          have : ¬ n < 0 := by simpa using hb
          exact ⟨_, rfl, fun w => by simp [binOp, Op.shift, this]⟩
      · have h' : (if k = k' then binInt op k m n else none) = some v := by
          cases op <;> first | exact hs | exact absurd rfl hs1 | exact absurd rfl hs2
        split at h'
        · rename_i hk
          subst hk
          exact binInt_run hs1 hs2 h' ρ t
        · cases h'
  | str s =>
    cases z <;> simp only [reduceCtorEq] at hs
    rename_i s'
    simp only [real, Option.some.injEq] at h1 h2
    obtain ⟨V, hV, hV'⟩ := stringOp_run (P := P) hs ρ
    refine ⟨V, hV, fun w => ?_⟩
    have hgd' : (eqGuard op t x y (.string (strReal s)) (.string (strReal s'))).run P w = .ok () w := by unfold eqGuard; split <;> rfl
    have hb : binOp op t (.string (strReal s)) (.string (strReal s')) = Op.stringOp op (strReal s) (strReal s') := by cases op <;> rfl
    simp only [execOp, ho, ← h1, ← h2, Sem.run_bind, hgd', Result.andThen_ok, hb, hV', Sem.run_pure]
  | nili => cases hs
  | ustr c lo hi =>
    simp only [real, Option.map_eq_some_iff] at h1
    obtain ⟨s1, hs1, h1⟩ := h1
    have hs : binEq op (bif isEql op then eqTy P depth0 t else .no) (.ustr c lo hi) z = some v := by
      cases z <;> first | (cases hs; done) | exact hs
    have key : ∀ E r, eqAt E (.ustr c lo hi) z = some r → ∃ c' lo' hi', z = .ustr c' lo' hi' ∧ r = Nat.beq c c' := by
      intro E r he
      cases E <;> cases z <;> simp [eqAt] at he
      exact ⟨_, _, _, rfl, he.symm⟩
    have hgd' : ∀ (s1 s2 : ByteArray) (w : World), (eqGuard op t x y (.string s1) (.string s2)).run P w = .ok () w := by intro s1 s2 w; unfold eqGuard; split <;> rfl
    have hb : ∀ s1 s2 : ByteArray, binOp op t (.string s1) (.string s2) = Op.stringOp op s1 s2 := by intro s1 s2; cases op <;> rfl
    cases op <;> simp only [binEq, reduceCtorEq] at hs
    · obtain ⟨r, hr, rfl⟩ := yesO_some hs
      obtain ⟨c', lo', hi', rfl, rfl⟩ := key _ r hr
      simp only [real, Option.map_eq_some_iff] at h2
      obtain ⟨s2, hs2, h2⟩ := h2
      have hq : (s1.toList == s2.toList) = Nat.beq c c' := by rw [ByteArray.toList_eq, ByteArray.toList_eq, ← bytes_beq]; exact ustr_eq hs1 hs2
      refine ⟨_, rfl, fun w => ?_⟩
      simp only [execOp, ho, ← h1, ← h2, Sem.run_bind, hgd', Result.andThen_ok, hb, Op.stringOp, hq, Sem.run_pure]
    · obtain ⟨r, hr, rfl⟩ := notO_some hs
      obtain ⟨c', lo', hi', rfl, rfl⟩ := key _ r hr
      simp only [real, Option.map_eq_some_iff] at h2
      obtain ⟨s2, hs2, h2⟩ := h2
      have hq : (s1.toList == s2.toList) = Nat.beq c c' := by rw [ByteArray.toList_eq, ByteArray.toList_eq, ← bytes_beq]; exact ustr_eq hs1 hs2
      refine ⟨_, rfl, fun w => ?_⟩
      simp only [execOp, ho, ← h1, ← h2, Sem.run_bind, hgd', Result.andThen_ok, hb, Op.stringOp, hq, Sem.run_pure]
  | _ =>
    cases z with
    | nili => cases hs
    | _ => exact gen (by simp) (by simp) (by simp) (by simp) (by simp) hs


end
end Go.Ev

namespace Go.Ev

section
variable {P : Program} {o : Oper}

/-! Composites. -/

theorem cells_real {ρ : Ren} {v : CV} {V : Value} (h : real ρ v = some V) : reals ρ v.cells = some V.cells.toList := by
  cases v <;> simp only [real, Option.some.injEq, Option.map_eq_some_iff, Option.bind_eq_some_iff] at h
  case agg l =>
    obtain ⟨L, hL, rfl⟩ := h
    simpa [CV.cells, Value.cells] using hL
  case opq i =>
    obtain ⟨x, hx, rfl⟩ := h
    cases x <;> simp [CV.cells, Value.cells, reals, real, hx, Atom.val]
  all_goals
    first
      | (subst h; simp [CV.cells, Value.cells, reals, real]; done)
      | (obtain ⟨x, hx, rfl⟩ := h; simp [CV.cells, Value.cells, reals, real, hx]; done)
      | (obtain ⟨x, hx, y, hy, rfl⟩ := h; simp [CV.cells, Value.cells, reals, real, hx, hy]; done)

theorem reals_set {ρ : Ren} : ∀ {l : List CV} {L : List Value} {v : CV} {V : Value} (n : Nat), reals ρ l = some L → real ρ v = some V → reals ρ (l.set n v) = some (L.set n V)
  | [], L, v, V, n, e, hv => by simp [reals] at e; subst e; simp [reals]
  | u :: l, L, v, V, n, e, hv => by
    simp only [reals, Option.bind_eq_some_iff, Option.map_eq_some_iff] at e
    obtain ⟨x, hx, y, hy, rfl⟩ := e
    cases n with
    | zero => simpa using reals_cons hv hy
    | succ n => simpa using reals_cons hx (reals_set n hy hv)

def setVals : List Value → Nat → List Value → List Value
  | cs, _, [] => cs
  | cs, i, v :: vs => setVals (cs.set i v) (i + 1) vs

theorem reals_setCells {ρ : Ren} : ∀ {vs : List CV} {Vs : List Value} {l : List CV} {L : List Value} (i : Nat), reals ρ vs = some Vs → reals ρ l = some L → reals ρ (setCells l i vs) = some (setVals L i Vs)
  | [], Vs, l, L, i, e, hl => by simp [reals] at e; subst e; simpa [setCells, setVals] using hl
  | v :: vs, Vs, l, L, i, e, hl => by
    simp only [reals, Option.bind_eq_some_iff, Option.map_eq_some_iff] at e
    obtain ⟨x, hx, y, hy, rfl⟩ := e
    exact reals_setCells (i + 1) hy (reals_set i hl hx)

theorem foldl_set (off : Nat) : ∀ (vs : List Value) (k : Nat) (L : List Value),
    (vs.zipIdx k).foldl (fun (cs : Array Value) (x : Value × Nat) => cs.setIfInBounds (off + x.2) x.1) L.toArray = (setVals L (off + k) vs).toArray
  | [], k, L => rfl
  | v :: vs, k, L => by
    rw [List.zipIdx_cons, List.foldl_cons]
    have : L.toArray.setIfInBounds (off + k) v = (L.set (off + k) v).toArray := by apply Array.ext'; simp
    rw [this, foldl_set off vs (k + 1), setVals, Nat.add_assoc]

theorem fill_run {ρ : Ren} {nt : Nat} {tm : Tm} {a : Act} (hf : FrRel ρ nt tm a) (hg : Glob P ρ) (place : Nat → Option (Nat × Nat)) : ∀ (ps : List (Nat × Operand)) (l : List (Nat × Nat × Opd)) (vs : List (Nat × Nat × CV)) (zs cs : List CV) (Z : List Value),
    placed P place ps = some l → evalPs l tm = some vs → fillC zs vs = some cs → reals ρ zs = some Z →
    ∃ C, reals ρ cs = some C ∧ Instr.fill place Z.toArray (ps.map fun x => (x.1, a.eval x.2)) = some C.toArray
  | [], l, vs, zs, cs, Z, h1, h2, h3, h4 => by
    simp only [placed, Option.some.injEq] at h1; subst h1
    simp only [evalPs, Option.some.injEq] at h2; subst h2
    simp only [fillC, Option.some.injEq] at h3; subst h3
    exact ⟨Z, h4, rfl⟩
  | (i, x) :: ps, l, vs, zs, cs, Z, h1, h2, h3, h4 => by
    simp only [placed] at h1
    split at h1
    · rename_i off size l' hp hl
      cases h1
      simp only [evalPs] at h2
      split at h2
      · cases h2
      · rename_i v hv
        split at h2
        · cases h2
        · rename_i us hus
          cases h2
          simp only [fillC] at h3
          cases hc : (Nat.beq v.cells.length size && Nat.ble (off + v.cells.length) zs.length) with
          | false => rw [hc] at h3; cases h3
          | true =>
            rw [hc, cond_true] at h3
            simp only [Bool.and_eq_true] at hc
            have c1 := beq_of hc.1
            have c2 := ble_of hc.2
            have hv' := opd_real hf hg x v hv
            have hcs := cells_real hv'
            have hlen := reals_length hcs
            have hZ := reals_length h4
            obtain ⟨C, hC, hC'⟩ := fill_run hf hg place ps l' us _ cs _ hl hus h3 (reals_setCells off hcs h4)
            refine ⟨C, hC, ?_⟩
            simp only [List.map_cons, Instr.fill, hp]
            simp only [Array.length_toList] at hlen
            rw [if_neg (by simp; omega)]
            have := foldl_set off (a.eval x).cells.toList 0 Z
            simp only [Nat.add_zero] at this
            rw [← hC', ← this, ← Array.foldl_toList, Array.toList_zipIdx]
    · cases h1

theorem places_run : ∀ (fs : List Field) (pl : List (Nat × Nat)), places P fs = some pl → ∀ w, ((fs.mapM fun f => do pure (f.offset, ← sizeOf f.type) : Sem (List (Nat × Nat)))).run P w = .ok pl w
  | [], pl, h, w => by simp only [places, Option.some.injEq] at h; subst h; rfl
  | f :: fs, pl, h, w => by
    simp only [places] at h
    split at h
    · rename_i i l hi hl
      cases h
      rw [List.mapM_cons]
      simp only [Sem.run_bind, run_sizeOf' hi w, Result.andThen_ok, Sem.run_pure, places_run fs l hl w]
    · cases h

theorem buildC_some {zs : List CV} {l : List (Nat × Nat × Opd)} {tm : Tm} {v : CV} (h : buildC zs l tm = some v) : ∃ vs cs, evalPs l tm = some vs ∧ fillC zs vs = some cs ∧ v = .agg cs := by
  unfold buildC at h
  split at h
  · rename_i vs hvs
    split at h
    · rename_i cs hcs
      cases h
      exact ⟨vs, cs, hvs, hcs, rfl⟩
    · cases h
  · cases h

theorem pure_buildStruct {t : TypeId} {ps : Array (Nat × Operand)} {i : TyE} {z : CV} {fields : Array Field} {pl : List (Nat × Nat)} {l : List (Nat × Nat × Opd)} (ht : tyOf P t = some i) (hz : zeroOf P t = some z)
    (hi : i.desc = .struct fields) (hpl : places P fields.toList = some pl) (hl : placed P (pl[·]?) ps.toList = some l) (ho : o.op = .build t ps) : PureOK P o (buildC z.cells l) := by
  intro ρ nt tm a v hf hg h
  obtain ⟨vs, cs, h1, h2, rfl⟩ := buildC_some h
  obtain ⟨Z, hZ, hZ'⟩ := zeroOf_real hz (ρ := ρ) default
  obtain ⟨C, hC, hC'⟩ := fill_run hf hg (pl[·]?) ps.toList l vs z.cells cs _ hl h1 h2 (cells_real hZ')
  refine ⟨.agg C.toArray, by simp [real, hC], fun w => ?_⟩
  obtain ⟨Z2, hZ2, hZ2'⟩ := zeroOf_real hz (ρ := ρ) w
  rw [hZ'] at hZ2'
  cases hZ2'
  have hun := run_underlying' ht w
  rw [hi] at hun
  have hpr := places_run _ _ hpl w
  simp only [execOp, ho, Instr.build, Sem.run_bind, hZ2, Result.andThen_ok, hun]
  rw [Array.mapM_eq_mapM_toList]
  simp only [Sem.run_map, hpr, Result.andThen_ok]
  have e1 : (fun x : Nat => pl.toArray[x]?) = (fun x : Nat => pl[x]?) := by funext x; simp
  have e2 : (ps.map fun x => (x.1, a.eval x.2)).toList = ps.toList.map fun x => (x.1, a.eval x.2) := by simp
  rw [e1, e2]
  simp only [Array.toArray_toList] at hC'
  rw [hC']
  rfl

theorem pure_buildArr {t : TypeId} {ps : Array (Nat × Operand)} {i : TyE} {z : CV} {n : Nat} {e : TypeId} {ei : TyE} {l : List (Nat × Nat × Opd)} (ht : tyOf P t = some i) (hz : zeroOf P t = some z)
    (hi : i.desc = .array n e) (he : tyOf P e = some ei) (hl : placed P (fun i => some (i * ei.size, ei.size)) ps.toList = some l) (ho : o.op = .build t ps) : PureOK P o (buildC z.cells l) := by
  intro ρ nt tm a v hf hg h
  obtain ⟨vs, cs, h1, h2, rfl⟩ := buildC_some h
  obtain ⟨Z, hZ, hZ'⟩ := zeroOf_real hz (ρ := ρ) default
  obtain ⟨C, hC, hC'⟩ := fill_run hf hg _ ps.toList l vs z.cells cs _ hl h1 h2 (cells_real hZ')
  refine ⟨.agg C.toArray, by simp [real, hC], fun w => ?_⟩
  obtain ⟨Z2, hZ2, hZ2'⟩ := zeroOf_real hz (ρ := ρ) w
  rw [hZ'] at hZ2'
  cases hZ2'
  have hun := run_underlying' ht w
  rw [hi] at hun
  have hsz := run_sizeOf' he w
  have e2 : (ps.map fun x => (x.1, a.eval x.2)).toList = ps.toList.map fun x => (x.1, a.eval x.2) := by simp
  simp only [execOp, ho, Instr.build, Sem.run_bind, hZ2, Result.andThen_ok, hun, hsz]
  rw [e2]
  simp only [Array.toArray_toList] at hC'
  rw [hC']
  rfl

/-! Lengths; the lesser, the greater. -/

theorem call_builtin {c : Go.Call} {b : Builtin} (hc : c.callee = .builtin b) (ho : o.op = .call c) (a : Act) (w : World) :
    ∃ cs, (execOp a.eval o).run P w = (builtin b c.argTypes o.type cs (c.args.map a.eval)).run P w := by
  simp only [execOp, ho, resolve, hc, Sem.run_bind, Sem.run_pure, Result.andThen_ok, invoke]
  exact ⟨_, rfl⟩

theorem args_one {xs : Array Operand} {x : Operand} (h : xs.toList = [x]) : xs = #[x] := by
  apply Array.ext'; simpa using h
theorem args_two {xs : Array Operand} {x y : Operand} (h : xs.toList = [x, y]) : xs = #[x, y] := by
  apply Array.ext'; simpa using h
theorem types_one {xs : Array TypeId} {x : TypeId} (h : xs.toList = [x]) : xs = #[x] := by
  apply Array.ext'; simpa using h
theorem types_two {xs : Array TypeId} {x y : TypeId} (h : xs.toList = [x, y]) : xs = #[x, y] := by
  apply Array.ext'; simpa using h

/-- The kinds of lengths that need no memory. -/
def LenOK (k : LenK) (d : TypeDesc) : Prop :=
  match k, d with
  | .str, .string => True
  | .sl, .slice _ => True
  | .arr n, .array m _ => n = m
  | _, _ => False

theorem pure_len {c : Go.Call} {t : TypeId} {x : Operand} {i : TyE} {k : LenK} (hc : c.callee = .builtin .len) (hts : c.argTypes.toList = [t]) (has : c.args.toList = [x]) (ht : tyOf P t = some i) (hk : LenOK k i.desc)
    (ho : o.op = .call c) : PureOK P o (eval1 (opd P x) (lenC k)) := by
  intro ρ nt tm a v hf hg h
  obtain ⟨u, hu, hs⟩ := eval1_some h
  have hx := opd_real hf hg x u hu
  have hts := types_one hts
  have has := args_one has
  have fin : ∀ n : Nat, v = .int .i64 n → (∀ w, (Builtin.len_ #[t] o.type #[a.eval x]).run P w = .ok (goInt n) w) → ∃ V, real ρ v = some V ∧ ∀ w, (execOp a.eval o).run P w = .ok (.value V) w := by
    intro n hv hl
    subst hv
    refine ⟨_, rfl, fun w => ?_⟩
    obtain ⟨cs, e⟩ := call_builtin (P := P) hc ho a w
    rw [e, hts, has]
    simp [builtin, hl, goInt]
  cases k with
  | str =>
    cases hd : i.desc <;> rw [hd] at hk <;> simp only [LenOK] at hk
    cases u <;> simp only [lenC, reduceCtorEq, Option.some.injEq] at hs
    · rename_i s
      refine fin s.length hs.symm fun w => ?_
      have hun := run_underlying' ht w
      rw [hd] at hun
      simp only [real, Option.some.injEq] at hx
      simp [Builtin.len_, hun, ← hx, strReal_size]
    · rename_i c lo hi
      subst hs
      simp only [real, Option.map_eq_some_iff] at hx
      obtain ⟨s, hs, hx⟩ := hx
      refine ⟨.int .i64 s.size, by simp [real, hs], fun w => ?_⟩
      have hun := run_underlying' ht w
      rw [hd] at hun
      obtain ⟨cs, e⟩ := call_builtin (P := P) hc ho a w
      rw [e, hts, has]
      simp [builtin, Builtin.len_, hun, ← hx, goInt]
  | sl =>
    cases hd : i.desc <;> rw [hd] at hk <;> simp only [LenOK] at hk
    cases u <;> simp only [lenC, reduceCtorEq, Option.some.injEq] at hs
    · refine fin 0 hs.symm fun w => ?_
      have hun := run_underlying' ht w
      rw [hd] at hun
      simp only [real, Option.some.injEq] at hx
      simp [Builtin.len_, hun, ← hx]
    · rename_i b off n c'
      refine fin n hs.symm fun w => ?_
      have hun := run_underlying' ht w
      rw [hd] at hun
      simp only [real, Option.bind_eq_some_iff, Option.map_eq_some_iff] at hx
      obtain ⟨y, hy, z, hz, hx⟩ := hx
      simp [Builtin.len_, hun, ← hx]
    · refine fin 0 hs.symm fun w => ?_
      have hun := run_underlying' ht w
      rw [hd] at hun
      simp only [real, Option.bind_eq_some_iff, Option.map_eq_some_iff] at hx
      obtain ⟨y, hy, z, hz, hx⟩ := hx
      simp [Builtin.len_, hun, ← hx]
  | arr n =>
    cases hd : i.desc <;> rw [hd] at hk <;> simp only [LenOK] at hk
    subst hk
    refine fin n ?_ fun w => ?_
    · cases u <;> simp only [lenC, Option.some.injEq] at hs <;> exact hs.symm
    · have hun := run_underlying' ht w
      rw [hd] at hun
      simp [Builtin.len_, hun]

theorem minC_some {x y v : CV} (h : minC x y = some v) : ∃ k a b, x = .int k a ∧ y = .int k b ∧ v = .int k (if b < a then b else a) := by
  unfold minC at h
  split at h
  · rename_i k a k' b
    split at h
    · rename_i hk
      subst hk
      cases h
      refine ⟨k, a, b, rfl, rfl, ?_⟩
      rw [intLt_eq]
      by_cases hl : b < a <;> simp [hl]
    · cases h
  · cases h

theorem maxC_some {x y v : CV} (h : maxC x y = some v) : ∃ k a b, x = .int k a ∧ y = .int k b ∧ v = .int k (if b > a then b else a) := by
  unfold maxC at h
  split at h
  · rename_i k a k' b
    split at h
    · rename_i hk
      subst hk
      cases h
      refine ⟨k, a, b, rfl, rfl, ?_⟩
      rw [intLt_eq]
      by_cases hl : a < b <;> simp [hl]
    · cases h
  · cases h

theorem pure_min {c : Go.Call} {x y : Operand} (hc : c.callee = .builtin .min) (has : c.args.toList = [x, y]) (ho : o.op = .call c) : PureOK P o (eval2 (opd P x) (opd P y) minC) := by
  intro ρ nt tm a v hf hg h
  obtain ⟨u, z, hu, hz, hs⟩ := eval2_some h
  have h1 := opd_real hf hg x _ hu
  have h2 := opd_real hf hg y _ hz
  have has := args_two has
  obtain ⟨k, m, n, rfl, rfl, rfl⟩ := minC_some hs
  simp only [real, Option.some.injEq] at h1 h2
  refine ⟨_, rfl, fun w => ?_⟩
  obtain ⟨cs, e⟩ := call_builtin (P := P) hc ho a w
  rw [e, has]
  simp [builtin, Builtin.min_, ← h1, ← h2, Builtin.min2]

theorem pure_max {c : Go.Call} {x y : Operand} (hc : c.callee = .builtin .max) (has : c.args.toList = [x, y]) (ho : o.op = .call c) : PureOK P o (eval2 (opd P x) (opd P y) maxC) := by
  intro ρ nt tm a v hf hg h
  obtain ⟨u, z, hu, hz, hs⟩ := eval2_some h
  have h1 := opd_real hf hg x _ hu
  have h2 := opd_real hf hg y _ hz
  have has := args_two has
  obtain ⟨k, m, n, rfl, rfl, rfl⟩ := maxC_some hs
  simp only [real, Option.some.injEq] at h1 h2
  refine ⟨_, rfl, fun w => ?_⟩
  obtain ⟨cs, e⟩ := call_builtin (P := P) hc ho a w
  rw [e, has]
  simp [builtin, Builtin.max_, ← h1, ← h2, Builtin.max2]

theorem pure_max3 {c : Go.Call} {x y z : Operand} (hc : c.callee = .builtin .max) (has : c.args.toList = [x, y, z]) (ho : o.op = .call c) : PureOK P o (max3 (opd P x) (opd P y) (opd P z)) := by
  intro ρ nt tm a v hf hg h
  unfold max3 at h
  split at h
  · rename_i m t hm ht
    obtain ⟨u, r, hu, hr, hs⟩ := eval2_some hm
    have h1 := opd_real hf hg x _ hu
    have h2 := opd_real hf hg y _ hr
    have h3 := opd_real hf hg z _ ht
    have has : c.args = #[x, y, z] := by
      apply Array.ext'
      simpa using has
    obtain ⟨k, p, q, rfl, rfl, rfl⟩ := maxC_some hs
    obtain ⟨k', p', q', e1, rfl, rfl⟩ := maxC_some h
    cases e1
    simp only [real, Option.some.injEq] at h1 h2 h3
    refine ⟨_, rfl, fun w => ?_⟩
    obtain ⟨cs, e⟩ := call_builtin (P := P) hc ho a w
    rw [e, has]
    simp [builtin, Builtin.max_, ← h1, ← h2, ← h3, Builtin.max2]
  · cases h

end
end Go.Ev
