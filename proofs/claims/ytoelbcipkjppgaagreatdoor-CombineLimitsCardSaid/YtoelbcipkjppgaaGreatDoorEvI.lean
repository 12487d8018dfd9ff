/-
  Operations that look at no memory, the last: binary operators, composites, lengths. Composites, lengths. An interface value compared with nil. A deferred call that only asks whether there is a panic. Operations that read memory. Bytes made a string. Operations that make memory, and those that write it. Steps of the evaluator's state and of the world: a write; a new block; a row that grows. Operations that write: stores, maps, new slices, iterators, calls. Entries of maps as places: m[k], n[j] = x, y.
-/
import Derived.Test.YtoelbcipkjppgaaGreatDoorEvH
import Derived.Recover
import Derived.Laws.BytesArg
set_option linter.all false

namespace Go.Ev

section
variable {P : Program} {o : Oper}

theorem eqGuard_int (op : BinOp) (t : TypeId) (x y : Operand) (k k' : IntKind) (a b : Int) (w : World) :
    (eqGuard op t x y (.int k a) (.int k' b)).run P w = .ok () w := by
  unfold eqGuard
  split <;> rfl

theorem not_lt_dec (a b : Int) : (!decide (b < a)) = decide (a ≤ b) := by
  rw [← decide_not]
  congr 1
  simp [Int.not_lt]

theorem intF_run {op : BinOp} {f : IntKind → Int → Int → Option CV} (hf : intF op = some f) {k : IntKind} {a b : Int} {v : CV} (h : f k a b = some v) (ρ : Ren) (t : TypeId) :
    ∃ V, real ρ v = some V ∧ ∀ w, (binOp op t (.int k a) (.int k b)).run P w = .ok V w := by
  cases op <;> simp only [intF, Option.some.injEq, reduceCtorEq] at hf <;> subst hf
  · simp only [addI, litInt_eq, Option.some.injEq, wr_eq] at h; subst h
    exact ⟨_, rfl, fun w => by simp [binOp, Op.intArith] <;> rfl⟩
  · simp only [subI, litInt_eq, Option.some.injEq, wr_eq] at h; subst h
    exact ⟨_, rfl, fun w => by simp [binOp, Op.intArith] <;> rfl⟩
  · simp only [eqI, Option.some.injEq, intEq_eq] at h; subst h
    exact ⟨_, rfl, fun w => by simp [binOp, Op.intCmp]⟩
  · simp only [neI, Option.some.injEq, intEq_eq] at h; subst h
    exact ⟨_, rfl, fun w => by simp [binOp, Op.intCmp, bne]⟩
  · simp only [ltI, Option.some.injEq, intLt_eq] at h; subst h
    exact ⟨_, rfl, fun w => by simp [binOp, Op.intCmp]⟩
  · simp only [leI, Option.some.injEq, intLt_eq] at h; subst h
    exact ⟨_, rfl, fun w => by simp [binOp, Op.intCmp] <;> simp [not_lt_dec]⟩
  · simp only [gtI, Option.some.injEq, intLt_eq] at h; subst h
    exact ⟨_, rfl, fun w => by simp [binOp, Op.intCmp]⟩
  · simp only [geI, Option.some.injEq, intLt_eq] at h; subst h
    exact ⟨_, rfl, fun w => by simp [binOp, Op.intCmp] <;> simp [not_lt_dec]⟩

theorem pure_binInt {op : BinOp} {t t' : TypeId} {x y : Operand} {f : IntKind → Int → Int → Option CV} (hf' : intF op = some f) (ho : o.op = .binOp op t x y t') :
    PureOK P o (eval2 (opd P x) (opd P y) (both op f)) := by
  intro ρ nt tm a v hf hg h
  obtain ⟨u, z, hu, hz, hs⟩ := eval2_some h
  have h1 := opd_real hf hg x _ hu
  have h2 := opd_real hf hg y _ hz
  rcases both_some hs with ⟨k, m, n, rfl, rfl, hs'⟩ | ⟨c, lo, hi, rfl, hs'⟩
  rotate_left
  · unfold ulenCmp at hs'
    split at hs'
    · rename_i kk
      simp only [real, Option.map_eq_some_iff] at h1
      obtain ⟨s, hs1, h1⟩ := h1
      obtain ⟨_, _, b1, b2⟩ := Ren.ustr_some hs1
      simp only [real, Option.some.injEq] at h2
      have hval : v = .bool (decide ((kk : Int) < s.size)) := by
        cases hb : Nat.ble hi kk with
        | true =>
          rw [hb, cond_true] at hs'
          cases hs'
          have := ble_of hb
          congr 1
          exact (decide_eq_false (by omega)).symm
        | false =>
          rw [hb, cond_false] at hs'
          cases hb2 : Nat.blt kk lo with
          | true =>
            rw [hb2, cond_true] at hs'
            cases hs'
            have := blt_of hb2
            congr 1
            exact (decide_eq_true (by omega)).symm
          | false => rw [hb2] at hs'; cases hs'
      subst hval
      refine ⟨.bool (decide ((kk : Int) < s.size)), rfl, fun w => ?_⟩
      simp only [execOp, ho, ← h1, ← h2, Sem.run_bind, eqGuard_int, Result.andThen_ok]
      simp [binOp, Op.intCmp]
    · cases hs'
  simp only [real, Option.some.injEq] at h1 h2
  obtain ⟨V, hV, hV'⟩ := intF_run (P := P) hf' hs' ρ t
  refine ⟨V, hV, fun w => ?_⟩
  simp only [execOp, ho, ← h1, ← h2, Sem.run_bind, eqGuard_int, Result.andThen_ok, hV', Sem.run_pure]

theorem binInt_run {op : BinOp} {k : IntKind} {a b : Int} {v : CV} (hs1 : op ≠ .shl) (hs2 : op ≠ .shr) (h : binInt op k a b = some v) (ρ : Ren) (t : TypeId) :
    ∃ V, real ρ v = some V ∧ ∀ w, (binOp op t (.int k a) (.int k b)).run P w = .ok V w := by
  cases op <;> simp only [binInt, reduceCtorEq] at h
  · simp only [litInt_eq, Option.some.injEq, wr_eq] at h; subst h
    exact ⟨_, rfl, fun w => by simp [binOp, Op.intArith] <;> rfl⟩
  · simp only [litInt_eq, Option.some.injEq, wr_eq] at h; subst h
    exact ⟨_, rfl, fun w => by simp [binOp, Op.intArith] <;> rfl⟩
  · simp only [litInt_eq, Option.some.injEq, wr_eq] at h; subst h
    exact ⟨_, rfl, fun w => by simp [binOp, Op.intArith] <;> rfl⟩
  · cases hb : intEq b 0 with
    | true => rw [hb] at h; cases h
    | false =>
      rw [hb, cond_false] at h
      simp only [Option.some.injEq, wr_eq] at h; subst h
      rw [intEq_eq] at hb
      have : b ≠ 0 := by simpa using hb
      exact ⟨_, rfl, fun w => by simp [binOp, Op.intDiv, this]⟩
  · cases hb : intEq b 0 with
    | true => rw [hb] at h; cases h
    | false =>
      rw [hb, cond_false] at h
      simp only [Option.some.injEq] at h; subst h
      rw [intEq_eq] at hb
      have : b ≠ 0 := by simpa using hb
      exact ⟨_, rfl, fun w => by simp [binOp, Op.intDiv, this]⟩
  · cases h; exact ⟨_, rfl, fun w => by simp [binOp, Op.intBits]⟩
  · cases h; exact ⟨_, rfl, fun w => by simp [binOp, Op.intBits]⟩
  · cases h; exact ⟨_, rfl, fun w => by simp [binOp, Op.intBits]⟩
  · cases h; exact ⟨_, rfl, fun w => by simp [binOp, Op.intBits]⟩
  · simp only [Option.some.injEq, intEq_eq] at h; subst h
    exact ⟨_, rfl, fun w => by simp [binOp, Op.intCmp] <;> simp [not_lt_dec]⟩
  · simp only [Option.some.injEq, intEq_eq] at h; subst h
    exact ⟨_, rfl, fun w => by simp [binOp, Op.intCmp, bne]⟩
  · simp only [Option.some.injEq, intLt_eq] at h; subst h
    exact ⟨_, rfl, fun w => by simp [binOp, Op.intCmp] <;> simp [not_lt_dec]⟩
  · simp only [Option.some.injEq, intLt_eq] at h; subst h
    exact ⟨_, rfl, fun w => by simp [binOp, Op.intCmp] <;> simp [not_lt_dec]⟩
  · simp only [Option.some.injEq, intLt_eq] at h; subst h
    exact ⟨_, rfl, fun w => by simp [binOp, Op.intCmp] <;> simp [not_lt_dec]⟩
  · simp only [Option.some.injEq, intLt_eq] at h; subst h
    exact ⟨_, rfl, fun w => by simp [binOp, Op.intCmp] <;> simp [not_lt_dec]⟩

/-- What the guard of == asks is met. -/
def GuardOK (P : Program) (op : BinOp) (t : TypeId) : Prop := isEql op = true → ∀ i, tyOf P t = some i → isAggD i.desc = true → P.eqGuardType P.depth t = false

theorem eqTy_agg {d : Nat} {t : TypeId} {xs : List CV} {y : CV} {r : Bool} (h : eqAt (eqTy P d t) (.agg xs) y = some r) : ∃ i, tyOf P t = some i ∧ isAggD i.desc = true := by
  cases d with
  | zero => simp [eqTy, eqAt] at h
  | succ d =>
    simp only [eqTy] at h
    cases ht : tyOf P t with
    | none => rw [ht] at h; simp [eqAt] at h
    | some i =>
      rw [ht] at h
      simp only at h
      refine ⟨i, rfl, ?_⟩
      cases hd : i.desc <;> rw [hd] at h <;> first | rfl | (simp only at h; split at h <;> cases y <;> simp [eqAt] at h; done) | (cases y <;> simp [eqAt] at h)

theorem equal_binOp {t : TypeId} {X Y : Value} {r : Bool} (hr : ∀ w, (Op.equal t X Y).run P w = .ok r w)
    (hX : ∀ k n, X ≠ .int k n) (hXf : ∀ k n, X ≠ .float k n) (hXc : ∀ k n m, X ≠ .complex k n m) (hXs : ∀ s, X ≠ .string s) (w : World) :
    (binOp .eql t X Y).run P w = .ok (.bool r) w ∧ (binOp .neq t X Y).run P w = .ok (.bool (!r)) w := by
  cases X <;> first | (exact absurd rfl (hX _ _)) | (exact absurd rfl (hXf _ _)) | (exact absurd rfl (hXc _ _ _)) | (exact absurd rfl (hXs _)) | (constructor <;> simp [binOp, hr])

theorem real_shape {ρ : Ren} {u : CV} {V : Value} (hu : ∀ i, u ≠ .opq i) (hs : ∀ c lo hi, u ≠ .ustr c lo hi) (hl : ∀ c lo hi, u ≠ .ulen c lo hi) (h : real ρ u = some V) : (∀ k n, V = .int k n → u = .int k n) ∧ (∀ k n, V ≠ .float k n) ∧ (∀ k n m, V ≠ .complex k n m) ∧
    (∀ s, V = .string s → ∃ s', u = .str s') ∧ (V = .nilIface → u = .nili) ∧ (∀ l, V = .agg l → ∃ l', u = .agg l') := by
  cases u <;> simp only [real, Option.some.injEq, Option.map_eq_some_iff, Option.bind_eq_some_iff] at h
  case opq i => exact (hu i rfl).elim
  case ustr c lo hi => exact (hs c lo hi rfl).elim
  case ulen c lo hi => exact (hl c lo hi rfl).elim
  all_goals
    first
      | subst h
      | (obtain ⟨x, hx, rfl⟩ := h)
      | (obtain ⟨x, hx, y, hy, rfl⟩ := h)
  all_goals (refine ⟨fun k n e => ?_, fun k n e => ?_, fun k n m e => ?_, fun s e => ?_, fun e => ?_, fun l e => ?_⟩ <;> first | (cases e; done) | (cases e; rfl) | (cases e; exact ⟨_, rfl⟩))

theorem pure_binC {op : BinOp} {t t' : TypeId} {x y : Operand} (hgd : GuardOK P op t) (ho : o.op = .binOp op t x y t') :
    PureOK P o (eval2 (opd P x) (opd P y) (binC op (bif isEql op then eqTy P depth0 t else .no))) := by
  intro ρ nt tm a v hf hg h
  obtain ⟨u, z, hu, hz, hs⟩ := eval2_some h
  have h1 := opd_real hf hg x _ hu
  have h2 := opd_real hf hg y _ hz
  clear hu hz h
  -- the general case: a comparison of data
  have gen : (∀ c lo hi, u ≠ .ustr c lo hi) → (∀ k n, u ≠ .int k n) → (∀ s, u ≠ .str s) → u ≠ .nili → z ≠ .nili → binEq op (bif isEql op then eqTy P depth0 t else .no) u z = some v → ∃ V, real ρ v = some V ∧ ∀ w, (execOp a.eval o).run P w = .ok (.value V) w := by
    intro n0 n1 n2 n3 n4 h
    have hno : ∀ i, u ≠ .opq i := by
      rintro i rfl
      cases op <;> simp only [binEq, reduceCtorEq] at h
      · obtain ⟨r, hr, _⟩ := yesO_some h
        simp [eqAt] at hr
      · obtain ⟨r, hr, _⟩ := notO_some h
        simp [eqAt] at hr
    have hnl : ∀ c lo hi, u ≠ .ulen c lo hi := by
      rintro c lo hi rfl
      cases op <;> simp only [binEq, reduceCtorEq] at h
      · obtain ⟨r, hr, _⟩ := yesO_some h
        simp [eqAt] at hr
      · obtain ⟨r, hr, _⟩ := notO_some h
        simp [eqAt] at hr
    obtain ⟨sh1, sh2, sh3, sh4, sh5, sh6⟩ := real_shape hno n0 hnl h1
    have hX : ∀ k n, a.eval x ≠ .int k n := fun k n e => n1 _ _ (sh1 _ _ e)
    have hXs : ∀ s, a.eval x ≠ .string s := fun s e => by obtain ⟨s', e'⟩ := sh4 _ e; exact n2 _ e'
    have hXn : a.eval x ≠ .nilIface := fun e => n3 (sh5 e)
    have guard : ∀ r, isEql op = true → eqAt (eqTy P depth0 t) u z = some r → ∀ w, (eqGuard op t x y (a.eval x) (a.eval y)).run P w = .ok () w := by
      intro r hop he w
      unfold eqGuard
      cases op <;> simp only [isEql, Bool.false_eq_true] at hop
      all_goals
        cases ex : a.eval x <;> simp only [Bool.not_true, Bool.false_eq_true, if_false, Sem.run_pure]
        case nilIface => exact absurd ex hXn
        case agg cs =>
          cases ey : a.eval y <;> simp only [Sem.run_pure]
          rw [ex] at h1
          obtain ⟨xs, rfl⟩ := sh6 _ ex
          obtain ⟨i, hi, hag⟩ := eqTy_agg he
          have := hgd rfl i hi hag
          simp [this]
    cases op <;> simp only [binEq, reduceCtorEq] at h
    · obtain ⟨r, hr, rfl⟩ := yesO_some h
      simp only [isEql, cond_true] at hr
      have he : ∀ w, (Op.equal t (a.eval x) (a.eval y)).run P w = .ok r w := fun w => eqAt_run depth0 Op.maxDepth (by decide) t u z _ _ r hr h1 h2 w
      refine ⟨_, rfl, fun w => ?_⟩
      simp only [execOp, ho, Sem.run_bind, guard r rfl hr w, Result.andThen_ok, (equal_binOp he hX sh2 sh3 hXs w).1, Sem.run_pure]
    · obtain ⟨r, hr, rfl⟩ := notO_some h
      simp only [isEql, cond_true] at hr
      have he : ∀ w, (Op.equal t (a.eval x) (a.eval y)).run P w = .ok r w := fun w => eqAt_run depth0 Op.maxDepth (by decide) t u z _ _ r hr h1 h2 w
      refine ⟨_, rfl, fun w => ?_⟩
      simp only [execOp, ho, Sem.run_bind, guard r rfl hr w, Result.andThen_ok, (equal_binOp he hX sh2 sh3 hXs w).2, Sem.run_pure]
  unfold binC at hs
  cases u with
  | int k m =>
    cases z <;> simp only [reduceCtorEq] at hs
    rename_i k' n
    simp only [real, Option.some.injEq] at h1 h2
    have fin : (∃ V, real ρ v = some V ∧ ∀ w, (binOp op t (.int k m) (.int k' n)).run P w = .ok V w) → ∃ V, real ρ v = some V ∧ ∀ w, (execOp a.eval o).run P w = .ok (.value V) w := by
      rintro ⟨V, hV, hV'⟩
      refine ⟨V, hV, fun w => ?_⟩
      simp only [execOp, ho, ← h1, ← h2, Sem.run_bind, eqGuard_int, Result.andThen_ok, hV', Sem.run_pure]
    apply fin
    by_cases hs1 : op = .shl
    · subst hs1
      simp only at hs
      cases hb : intLt n 0 with
      | true => rw [hb] at hs; cases hs
      | false =>
        rw [hb, cond_false] at hs
        cases hs
        rw [intLt_eq] at hb
        have : ¬ n < 0 := by simpa using hb
        exact ⟨_, rfl, fun w => by simp [binOp, Op.shift, this]⟩
    · by_cases hs2 : op = .shr
      · subst hs2
        simp only at hs
        cases hb : intLt n 0 with
        | true => rw [hb] at hs; cases hs
        | false =>
          rw [hb, cond_false] at hs
          cases hs
          rw [intLt_eq] at hb
          have : ¬ n < 0 := by simpa using hb
          exact ⟨_, rfl, fun w => by simp [binOp, Op.shift, this]⟩
      · have h' : (if k = k' then binInt op k m n else none) = some v := by
          cases op <;> first | exact hs | exact absurd rfl hs1 | exact absurd rfl hs2
        split at h'
        · rename_i hk
          subst hk
          exact binInt_run hs1 hs2 h' ρ t
        · cases h'
  | str s =>
    cases z <;> simp only [reduceCtorEq] at hs
    rename_i s'
    simp only [real, Option.some.injEq] at h1 h2
    obtain ⟨V, hV, hV'⟩ := stringOp_run (P := P) hs ρ
    refine ⟨V, hV, fun w => ?_⟩
    have hgd' : (eqGuard op t x y (.string (strReal s)) (.string (strReal s'))).run P w = .ok () w := by unfold eqGuard; split <;> rfl
    have hb : binOp op t (.string (strReal s)) (.string (strReal s')) = Op.stringOp op (strReal s) (strReal s') := by cases op <;> rfl
    simp only [execOp, ho, ← h1, ← h2, Sem.run_bind, hgd', Result.andThen_ok, hb, hV', Sem.run_pure]
  | nili => cases hs
  | ustr c lo hi =>
    simp only [real, Option.map_eq_some_iff] at h1
    obtain ⟨s1, hs1, h1⟩ := h1
    have hs : binEq op (bif isEql op then eqTy P depth0 t else .no) (.ustr c lo hi) z = some v := by
      cases z <;> first | (cases hs; done) | exact hs
    have key : ∀ E r, eqAt E (.ustr c lo hi) z = some r → ∃ c' lo' hi', z = .ustr c' lo' hi' ∧ r = Nat.beq c c' := by
      intro E r he
      cases E <;> cases z <;> simp [eqAt] at he
      exact ⟨_, _, _, rfl, he.symm⟩
    have hgd' : ∀ (s1 s2 : ByteArray) (w : World), (eqGuard op t x y (.string s1) (.string s2)).run P w = .ok () w := by intro s1 s2 w; unfold eqGuard; split <;> rfl
    have hb : ∀ s1 s2 : ByteArray, binOp op t (.string s1) (.string s2) = Op.stringOp op s1 s2 := by intro s1 s2; cases op <;> rfl
    cases op <;> simp only [binEq, reduceCtorEq] at hs
    · obtain ⟨r, hr, rfl⟩ := yesO_some hs
      obtain ⟨c', lo', hi', rfl, rfl⟩ := key _ r hr
      simp only [real, Option.map_eq_some_iff] at h2
      obtain ⟨s2, hs2, h2⟩ := h2
      have hq : (s1.toList == s2.toList) = Nat.beq c c' := by rw [ByteArray.toList_eq, ByteArray.toList_eq, ← bytes_beq]; exact ustr_eq hs1 hs2
      refine ⟨_, rfl, fun w => ?_⟩
      simp only [execOp, ho, ← h1, ← h2, Sem.run_bind, hgd', Result.andThen_ok, hb, Op.stringOp, hq, Sem.run_pure]
    · obtain ⟨r, hr, rfl⟩ := notO_some hs
      obtain ⟨c', lo', hi', rfl, rfl⟩ := key _ r hr
      simp only [real, Option.map_eq_some_iff] at h2
      obtain ⟨s2, hs2, h2⟩ := h2
      have hq : (s1.toList == s2.toList) = Nat.beq c c' := by rw [ByteArray.toList_eq, ByteArray.toList_eq, ← bytes_beq]; exact ustr_eq hs1 hs2
      refine ⟨_, rfl, fun w => ?_⟩
      simp only [execOp, ho, ← h1, ← h2, Sem.run_bind, hgd', Result.andThen_ok, hb, Op.stringOp, hq, Sem.run_pure]
  | _ =>
    cases z with
    | nili => cases hs
    | _ => exact gen (by simp) (by simp) (by simp) (by simp) (by simp) hs


end
end Go.Ev

namespace Go.Ev

section
variable {P : Program} {o : Oper}

/-! Composites. -/

theorem cells_real {ρ : Ren} {v : CV} {V : Value} (h : real ρ v = some V) : reals ρ v.cells = some V.cells.toList := by
  cases v <;> simp only [real, Option.some.injEq, Option.map_eq_some_iff, Option.bind_eq_some_iff] at h
  case agg l =>
    obtain ⟨L, hL, rfl⟩ := h
    simpa [CV.cells, Value.cells] using hL
  case opq i =>
    obtain ⟨x, hx, rfl⟩ := h
    cases x <;> simp [CV.cells, Value.cells, reals, real, hx, Atom.val]
  all_goals
    first
      | (subst h; simp [CV.cells, Value.cells, reals, real]; done)
      | (obtain ⟨x, hx, rfl⟩ := h; simp [CV.cells, Value.cells, reals, real, hx]; done)
      | (obtain ⟨x, hx, y, hy, rfl⟩ := h; simp [CV.cells, Value.cells, reals, real, hx, hy]; done)

theorem reals_set {ρ : Ren} : ∀ {l : List CV} {L : List Value} {v : CV} {V : Value} (n : Nat), reals ρ l = some L → real ρ v = some V → reals ρ (l.set n v) = some (L.set n V)
  | [], L, v, V, n, e, hv => by simp [reals] at e; subst e; simp [reals]
  | u :: l, L, v, V, n, e, hv => by
    simp only [reals, Option.bind_eq_some_iff, Option.map_eq_some_iff] at e
    obtain ⟨x, hx, y, hy, rfl⟩ := e
    cases n with
    | zero => simpa using reals_cons hv hy
    | succ n => simpa using reals_cons hx (reals_set n hy hv)

def setVals : List Value → Nat → List Value → List Value
  | cs, _, [] => cs
  | cs, i, v :: vs => setVals (cs.set i v) (i + 1) vs

theorem reals_setCells {ρ : Ren} : ∀ {vs : List CV} {Vs : List Value} {l : List CV} {L : List Value} (i : Nat), reals ρ vs = some Vs → reals ρ l = some L → reals ρ (setCells l i vs) = some (setVals L i Vs)
  | [], Vs, l, L, i, e, hl => by simp [reals] at e; subst e; simpa [setCells, setVals] using hl
  | v :: vs, Vs, l, L, i, e, hl => by
    simp only [reals, Option.bind_eq_some_iff, Option.map_eq_some_iff] at e
    obtain ⟨x, hx, y, hy, rfl⟩ := e
    exact reals_setCells (i + 1) hy (reals_set i hl hx)

theorem foldl_set (off : Nat) : ∀ (vs : List Value) (k : Nat) (L : List Value),
    (vs.zipIdx k).foldl (fun (cs : Array Value) (x : Value × Nat) => cs.setIfInBounds (off + x.2) x.1) L.toArray = (setVals L (off + k) vs).toArray
  | [], k, L => rfl
  | v :: vs, k, L => by
    rw [List.zipIdx_cons, List.foldl_cons]
    have : L.toArray.setIfInBounds (off + k) v = (L.set (off + k) v).toArray := by apply Array.ext'; simp
    rw [this, foldl_set off vs (k + 1), setVals, Nat.add_assoc]

theorem fill_run {ρ : Ren} {nt : Nat} {tm : Tm} {a : Act} (hf : FrRel ρ nt tm a) (hg : Glob P ρ) (place : Nat → Option (Nat × Nat)) : ∀ (ps : List (Nat × Operand)) (l : List (Nat × Nat × Opd)) (vs : List (Nat × Nat × CV)) (zs cs : List CV) (Z : List Value),
    placed P place ps = some l → evalPs l tm = some vs → fillC zs vs = some cs → reals ρ zs = some Z →
    ∃ C, reals ρ cs = some C ∧ Instr.fill place Z.toArray (ps.map fun x => (x.1, a.eval x.2)) = some C.toArray
  | [], l, vs, zs, cs, Z, h1, h2, h3, h4 => by
    simp only [placed, Option.some.injEq] at h1; subst h1
    simp only [evalPs, Option.some.injEq] at h2; subst h2
    simp only [fillC, Option.some.injEq] at h3; subst h3
    exact ⟨Z, h4, rfl⟩
  | (i, x) :: ps, l, vs, zs, cs, Z, h1, h2, h3, h4 => by
    simp only [placed] at h1
    split at h1
    · rename_i off size l' hp hl
      cases h1
      simp only [evalPs] at h2
      split at h2
      · cases h2
      · rename_i v hv
        split at h2
        · cases h2
        · rename_i us hus
          cases h2
          simp only [fillC] at h3
          cases hc : (Nat.beq v.cells.length size && Nat.ble (off + v.cells.length) zs.length) with
          | false => rw [hc] at h3; cases h3
          | true =>
            rw [hc, cond_true] at h3
            simp only [Bool.and_eq_true] at hc
            have c1 := beq_of hc.1
            have c2 := ble_of hc.2
            have hv' := opd_real hf hg x v hv
            have hcs := cells_real hv'
            have hlen := reals_length hcs
            have hZ := reals_length h4
            obtain ⟨C, hC, hC'⟩ := fill_run hf hg place ps l' us _ cs _ hl hus h3 (reals_setCells off hcs h4)
            refine ⟨C, hC, ?_⟩
            simp only [List.map_cons, Instr.fill, hp]
            simp only [Array.length_toList] at hlen
            rw [if_neg (by simp; omega)]
            have := foldl_set off (a.eval x).cells.toList 0 Z
            simp only [Nat.add_zero] at this
            rw [← hC', ← this, ← Array.foldl_toList, Array.toList_zipIdx]
    · cases h1

theorem places_run : ∀ (fs : List Field) (pl : List (Nat × Nat)), places P fs = some pl → ∀ w, ((fs.mapM fun f => do pure (f.offset, ← sizeOf f.type) : Sem (List (Nat × Nat)))).run P w = .ok pl w
  | [], pl, h, w => by simp only [places, Option.some.injEq] at h; subst h; rfl
  | f :: fs, pl, h, w => by
    simp only [places] at h
    split at h
    · rename_i i l hi hl
      cases h
      rw [List.mapM_cons]
      simp only [Sem.run_bind, run_sizeOf' hi w, Result.andThen_ok, Sem.run_pure, places_run fs l hl w]
    · cases h

theorem buildC_some {zs : List CV} {l : List (Nat × Nat × Opd)} {tm : Tm} {v : CV} (h : buildC zs l tm = some v) : ∃ vs cs, evalPs l tm = some vs ∧ fillC zs vs = some cs ∧ v = .agg cs := by
  unfold buildC at h
  split at h
  · rename_i vs hvs
    split at h
    · rename_i cs hcs
      cases h
      exact ⟨vs, cs, hvs, hcs, rfl⟩
    · cases h
  · cases h

theorem pure_buildStruct {t : TypeId} {ps : Array (Nat × Operand)} {i : TyE} {z : CV} {fields : Array Field} {pl : List (Nat × Nat)} {l : List (Nat × Nat × Opd)} (ht : tyOf P t = some i) (hz : zeroOf P t = some z)
    (hi : i.desc = .struct fields) (hpl : places P fields.toList = some pl) (hl : placed P (pl[·]?) ps.toList = some l) (ho : o.op = .build t ps) : PureOK P o (buildC z.cells l) := by
  intro ρ nt tm a v hf hg h
  obtain ⟨vs, cs, h1, h2, rfl⟩ := buildC_some h
  obtain ⟨Z, hZ, hZ'⟩ := zeroOf_real hz (ρ := ρ) default
  obtain ⟨C, hC, hC'⟩ := fill_run hf hg (pl[·]?) ps.toList l vs z.cells cs _ hl h1 h2 (cells_real hZ')
  refine ⟨.agg C.toArray, by simp [real, hC], fun w => ?_⟩
  obtain ⟨Z2, hZ2, hZ2'⟩ := zeroOf_real hz (ρ := ρ) w
  rw [hZ'] at hZ2'
  cases hZ2'
  have hun := run_underlying' ht w
  rw [hi] at hun
  have hpr := places_run _ _ hpl w
  simp only [execOp, ho, Instr.build, Sem.run_bind, hZ2, Result.andThen_ok, hun]
  rw [Array.mapM_eq_mapM_toList]
  simp only [Sem.run_map, hpr, Result.andThen_ok]
  have e1 : (fun x : Nat => pl.toArray[x]?) = (fun x : Nat => pl[x]?) := by funext x; simp
  have e2 : (ps.map fun x => (x.1, a.eval x.2)).toList = ps.toList.map fun x => (x.1, a.eval x.2) := by simp
  rw [e1, e2]
  simp only [Array.toArray_toList] at hC'
  rw [hC']
  rfl

theorem pure_buildArr {t : TypeId} {ps : Array (Nat × Operand)} {i : TyE} {z : CV} {n : Nat} {e : TypeId} {ei : TyE} {l : List (Nat × Nat × Opd)} (ht : tyOf P t = some i) (hz : zeroOf P t = some z)
    (hi : i.desc = .array n e) (he : tyOf P e = some ei) (hl : placed P (fun i => some (i * ei.size, ei.size)) ps.toList = some l) (ho : o.op = .build t ps) : PureOK P o (buildC z.cells l) := by
  intro ρ nt tm a v hf hg h
  obtain ⟨vs, cs, h1, h2, rfl⟩ := buildC_some h
  obtain ⟨Z, hZ, hZ'⟩ := zeroOf_real hz (ρ := ρ) default
  obtain ⟨C, hC, hC'⟩ := fill_run hf hg _ ps.toList l vs z.cells cs _ hl h1 h2 (cells_real hZ')
  refine ⟨.agg C.toArray, by simp [real, hC], fun w => ?_⟩
  obtain ⟨Z2, hZ2, hZ2'⟩ := zeroOf_real hz (ρ := ρ) w
  rw [hZ'] at hZ2'
  cases hZ2'
  have hun := run_underlying' ht w
  rw [hi] at hun
  have hsz := run_sizeOf' he w
  have e2 : (ps.map fun x => (x.1, a.eval x.2)).toList = ps.toList.map fun x => (x.1, a.eval x.2) := by simp
  simp only [execOp, ho, Instr.build, Sem.run_bind, hZ2, Result.andThen_ok, hun, hsz]
  rw [e2]
  simp only [Array.toArray_toList] at hC'
  rw [hC']
  rfl

/-! Lengths; the lesser, the greater. -/

theorem call_builtin {c : Go.Call} {b : Builtin} (hc : c.callee = .builtin b) (ho : o.op = .call c) (a : Act) (w : World) :
    ∃ cs, (execOp a.eval o).run P w = (builtin b c.argTypes o.type cs (c.args.map a.eval)).run P w := by
  simp only [execOp, ho, resolve, hc, Sem.run_bind, Sem.run_pure, Result.andThen_ok, invoke]
  exact ⟨_, rfl⟩

theorem args_one {xs : Array Operand} {x : Operand} (h : xs.toList = [x]) : xs = #[x] := by
  apply Array.ext'; simpa using h
theorem args_two {xs : Array Operand} {x y : Operand} (h : xs.toList = [x, y]) : xs = #[x, y] := by
  apply Array.ext'; simpa using h
theorem types_one {xs : Array TypeId} {x : TypeId} (h : xs.toList = [x]) : xs = #[x] := by
  apply Array.ext'; simpa using h
theorem types_two {xs : Array TypeId} {x y : TypeId} (h : xs.toList = [x, y]) : xs = #[x, y] := by
  apply Array.ext'; simpa using h

/-- The kinds of lengths that need no memory. -/
def LenOK (k : LenK) (d : TypeDesc) : Prop :=
  match k, d with
  | .str, .string => True
  | .sl, .slice _ => True
  | .arr n, .array m _ => n = m
  | _, _ => False

theorem pure_len {c : Go.Call} {t : TypeId} {x : Operand} {i : TyE} {k : LenK} (hc : c.callee = .builtin .len) (hts : c.argTypes.toList = [t]) (has : c.args.toList = [x]) (ht : tyOf P t = some i) (hk : LenOK k i.desc)
    (ho : o.op = .call c) : PureOK P o (eval1 (opd P x) (lenC k)) := by
  intro ρ nt tm a v hf hg h
  obtain ⟨u, hu, hs⟩ := eval1_some h
  have hx := opd_real hf hg x u hu
  have hts := types_one hts
  have has := args_one has
  have fin : ∀ n : Nat, v = .int .i64 n → (∀ w, (Builtin.len_ #[t] o.type #[a.eval x]).run P w = .ok (goInt n) w) → ∃ V, real ρ v = some V ∧ ∀ w, (execOp a.eval o).run P w = .ok (.value V) w := by
    intro n hv hl
    subst hv
    refine ⟨_, rfl, fun w => ?_⟩
    obtain ⟨cs, e⟩ := call_builtin (P := P) hc ho a w
    rw [e, hts, has]
    simp [builtin, hl, goInt]
  cases k with
  | str =>
    cases hd : i.desc <;> rw [hd] at hk <;> simp only [LenOK] at hk
    cases u <;> simp only [lenC, reduceCtorEq, Option.some.injEq] at hs
    · rename_i s
      refine fin s.length hs.symm fun w => ?_
      have hun := run_underlying' ht w
      rw [hd] at hun
      simp only [real, Option.some.injEq] at hx
      simp [Builtin.len_, hun, ← hx, strReal_size]
    · rename_i c lo hi
      subst hs
      simp only [real, Option.map_eq_some_iff] at hx
      obtain ⟨s, hs, hx⟩ := hx
      refine ⟨.int .i64 s.size, by simp [real, hs], fun w => ?_⟩
      have hun := run_underlying' ht w
      rw [hd] at hun
      obtain ⟨cs, e⟩ := call_builtin (P := P) hc ho a w
      rw [e, hts, has]
      simp [builtin, Builtin.len_, hun, ← hx, goInt]
  | sl =>
    cases hd : i.desc <;> rw [hd] at hk <;> simp only [LenOK] at hk
    cases u <;> simp only [lenC, reduceCtorEq, Option.some.injEq] at hs
    · refine fin 0 hs.symm fun w => ?_
      have hun := run_underlying' ht w
      rw [hd] at hun
      simp only [real, Option.some.injEq] at hx
      simp [Builtin.len_, hun, ← hx]
    · rename_i b off n c'
      refine fin n hs.symm fun w => ?_
      have hun := run_underlying' ht w
      rw [hd] at hun
      simp only [real, Option.bind_eq_some_iff, Option.map_eq_some_iff] at hx
      obtain ⟨y, hy, z, hz, hx⟩ := hx
      simp [Builtin.len_, hun, ← hx]
    · refine fin 0 hs.symm fun w => ?_
      have hun := run_underlying' ht w
      rw [hd] at hun
      simp only [real, Option.bind_eq_some_iff, Option.map_eq_some_iff] at hx
      obtain ⟨y, hy, z, hz, hx⟩ := hx
      simp [Builtin.len_, hun, ← hx]
  | arr n =>
    cases hd : i.desc <;> rw [hd] at hk <;> simp only [LenOK] at hk
    subst hk
    refine fin n ?_ fun w => ?_
    · cases u <;> simp only [lenC, Option.some.injEq] at hs <;> exact hs.symm
    · have hun := run_underlying' ht w
      rw [hd] at hun
      simp [Builtin.len_, hun]

theorem minC_some {x y v : CV} (h : minC x y = some v) : ∃ k a b, x = .int k a ∧ y = .int k b ∧ v = .int k (if b < a then b else a) := by
  unfold minC at h
  split at h
  · rename_i k a k' b
    split at h
    · rename_i hk
      subst hk
      cases h
      refine ⟨k, a, b, rfl, rfl, ?_⟩
      rw [intLt_eq]
      by_cases hl : b < a <;> simp [hl]
    · cases h
  · cases h

theorem maxC_some {x y v : CV} (h : maxC x y = some v) : ∃ k a b, x = .int k a ∧ y = .int k b ∧ v = .int k (if b > a then b else a) := by
  unfold maxC at h
  split at h
  · rename_i k a k' b
    split at h
    · rename_i hk
      subst hk
      cases h
      refine ⟨k, a, b, rfl, rfl, ?_⟩
      rw [intLt_eq]
      by_cases hl : a < b <;> simp [hl]
    · cases h
  · cases h

theorem pure_min {c : Go.Call} {x y : Operand} (hc : c.callee = .builtin .min) (has : c.args.toList = [x, y]) (ho : o.op = .call c) : PureOK P o (eval2 (opd P x) (opd P y) minC) := by
  intro ρ nt tm a v hf hg h
  obtain ⟨u, z, hu, hz, hs⟩ := eval2_some h
  have h1 := opd_real hf hg x _ hu
  have h2 := opd_real hf hg y _ hz
  have has := args_two has
  obtain ⟨k, m, n, rfl, rfl, rfl⟩ := minC_some hs
  simp only [real, Option.some.injEq] at h1 h2
  refine ⟨_, rfl, fun w => ?_⟩
  obtain ⟨cs, e⟩ := call_builtin (P := P) hc ho a w
  rw [e, has]
  simp [builtin, Builtin.min_, ← h1, ← h2, Builtin.min2]

theorem pure_max {c : Go.Call} {x y : Operand} (hc : c.callee = .builtin .max) (has : c.args.toList = [x, y]) (ho : o.op = .call c) : PureOK P o (eval2 (opd P x) (opd P y) maxC) := by
  intro ρ nt tm a v hf hg h
  obtain ⟨u, z, hu, hz, hs⟩ := eval2_some h
  have h1 := opd_real hf hg x _ hu
  have h2 := opd_real hf hg y _ hz
  have has := args_two has
  obtain ⟨k, m, n, rfl, rfl, rfl⟩ := maxC_some hs
  simp only [real, Option.some.injEq] at h1 h2
  refine ⟨_, rfl, fun w => ?_⟩
  obtain ⟨cs, e⟩ := call_builtin (P := P) hc ho a w
  rw [e, has]
  simp [builtin, Builtin.max_, ← h1, ← h2, Builtin.max2]

theorem pure_max3 {c : Go.Call} {x y z : Operand} (hc : c.callee = .builtin .max) (has : c.args.toList = [x, y, z]) (ho : o.op = .call c) : PureOK P o (max3 (opd P x) (opd P y) (opd P z)) := by
  intro ρ nt tm a v hf hg h
  unfold max3 at h
  split at h
  · rename_i m t hm ht
    obtain ⟨u, r, hu, hr, hs⟩ := eval2_some hm
    have h1 := opd_real hf hg x _ hu
    have h2 := opd_real hf hg y _ hr
    have h3 := opd_real hf hg z _ ht
    have has : c.args = #[x, y, z] := by
      apply Array.ext'
      simpa using has
    obtain ⟨k, p, q, rfl, rfl, rfl⟩ := maxC_some hs
    obtain ⟨k', p', q', e1, rfl, rfl⟩ := maxC_some h
    cases e1
    simp only [real, Option.some.injEq] at h1 h2 h3
    refine ⟨_, rfl, fun w => ?_⟩
    obtain ⟨cs, e⟩ := call_builtin (P := P) hc ho a w
    rw [e, has]
    simp [builtin, Builtin.max_, ← h1, ← h2, ← h3, Builtin.max2]
  · cases h

end
end Go.Ev

namespace Go.Ev

section
variable {P : Program} {o : Oper}

theorem equalIn_nil {D : Nat} {t : TypeId} {ms : Array (String × TypeId)} (hun : P.underlying t = some (.interface ms)) (w : World) : (Op.equalIn (D + 1) t .nilIface .nilIface).run P w = .ok true w := by
  simp [Op.equalIn, run_underlying hun]
theorem equalIn_some {D : Nat} {t t1 : TypeId} {v1 : Value} {ms : Array (String × TypeId)} (hun : P.underlying t = some (.interface ms)) (w : World) : (Op.equalIn (D + 1) t (.iface t1 v1) .nilIface).run P w = .ok false w := by
  simp [Op.equalIn, run_underlying hun]

theorem pure_ifNilR {op : BinOp} {t t' : TypeId} {x y : Operand} {i : TyE} {ms : Array (String × TypeId)} (ht : tyOf P t = some i) (hi : i.desc = .interface ms) (hy : isNiliConst y = true) (ho : o.op = .binOp op t x y t') :
    PureOK P o (eval1 (opd P x) (ifNil op)) := by
  intro ρ nt tm a v hf hg h
  obtain ⟨u, hu, h⟩ := eval1_some h
  have hx := opd_real hf hg x u hu
  have hun : P.underlying t = some i.desc := by obtain ⟨_, _, h2, _⟩ := tyOf_some ht; exact h2
  rw [hi] at hun
  have hY : a.eval y = .nilIface := by
    cases y <;> simp only [isNiliConst, Bool.false_eq_true] at hy
    rename_i c
    cases c <;> simp only [Bool.false_eq_true] at hy
    rfl
  have fin : ∀ (X : Value) (b : Bool), a.eval x = X → (X = .nilIface ∨ ∃ t1 v1, X = .iface t1 v1) → (∀ w, (Op.equal t X .nilIface).run P w = .ok b w) →
      nilRes op b = some v → ∃ V, real ρ v = some V ∧ ∀ w, (execOp a.eval o).run P w = .ok (.value V) w := by
    intro X b hX hsh he hv
    have guard : ∀ w, (eqGuard op t x y X .nilIface).run P w = .ok () w := by
      intro w
      unfold eqGuard
      cases y <;> simp only [isNiliConst, Bool.false_eq_true] at hy
      rcases hsh with rfl | ⟨t1, v1, rfl⟩
      · cases op <;> simp
      · cases op <;> simp
    have n1 : ∀ k n, X ≠ .int k n := by rcases hsh with rfl | ⟨t1, v1, rfl⟩ <;> simp
    cases op <;> simp only [nilRes, reduceCtorEq, Option.some.injEq] at hv
    all_goals
      subst hv
      refine ⟨_, rfl, fun w => ?_⟩
      rcases hsh with rfl | ⟨t1, v1, rfl⟩ <;>
      simp only [execOp, ho, hX, hY, Sem.run_bind, guard w, Result.andThen_ok, binOp, he w, Sem.run_pure]
  cases u <;> simp only [ifNil, reduceCtorEq] at h
  case nili =>
    simp only [real, Option.some.injEq] at hx
    exact fin _ true hx.symm (.inl rfl) (fun w => equalIn_nil (D := 9999) hun w) h
  case iface t1 v1 =>
    simp only [real, Option.map_eq_some_iff] at hx
    obtain ⟨z, hz, hx⟩ := hx
    exact fin _ false hx.symm (.inr ⟨_, _, rfl⟩) (fun w => equalIn_some (D := 9999) hun w) h

end
end Go.Ev

namespace Go.Ev

section
variable {P : Program}

theorem put_size (a : Act) (dst : Option Tmp) (V : Value) : (a.put dst V).tmps.size = a.tmps.size := by cases dst <;> simp [Act.put]
theorem put_eval (a : Act) (d : Tmp) (V : Value) (h : d < a.tmps.size) : (a.put (some d) V).eval (.tmp d) = V := by
  simp only [Act.eval, Act.put]
  rw [Array.getD_eq_getD_getElem?, Array.getElem?_setIfInBounds_self_of_lt h]
  rfl

theorem wanted_none {o : Oper} (h : o.guard = none) (y : Nat → Option Bool) : Region.wanted o y = true := by
  unfold Region.wanted
  rw [h]

theorem run_neq_nil {o : Oper} {ty yt : TypeId} {x y : Operand} {ms : Array (String × TypeId)} (hun : P.underlying ty = some (.interface ms)) (hy : isNiliConst y = true) (ho : o.op = .binOp .neq ty x y yt) {a : Act} (hx : a.eval x = .nilIface) (w : World) :
    (execOp a.eval o).run P w = .ok (.value (.bool false)) w := by
  cases y <;> simp only [isNiliConst, Bool.false_eq_true] at hy
  rename_i c
  cases c <;> simp only [Bool.false_eq_true] at hy
  have he : (Op.equal ty .nilIface .nilIface).run P w = .ok true w := equalIn_nil (D := 9999) hun w
  have hg : (eqGuard .neq ty x (.const .nilIface) .nilIface .nilIface).run P w = .ok () w := by
    unfold eqGuard
    simp
  have hY : a.eval (.const .nilIface) = .nilIface := rfl
  simp only [execOp, ho, hx, hY, Sem.run_bind, hg, Result.andThen_ok, binOp, he, Sem.run_pure]
  rfl

theorem idle_sound {f : FuncId} (h : idleFn P f = true) (args : Array Value) (w : World) :
    CallsD P f args .returning w (fun e u' w' => (∃ v, e = .returned v) ∧ u' = .returning ∧ w' = w) ∧ ∀ args w, (callFunc f args).run P w = .ok (.enter f args) w := by
  unfold idleFn at h
  split at h
  · rename_i fn hfn
    split at h
    · rename_i c hc
      split at h
      · rename_i ty hty
        split at h
        · rename_i i hi
          simp only [Bool.and_eq_true] at h
          obtain ⟨⟨h1, h2⟩, h3⟩ := h
          have hname : fn.name ≠ "runtime.NumGoroutine" := by simpa using h3
          have hres : fn.results = #[] := by simpa using h2
          have hun : ∃ ms, P.underlying ty = some (.interface ms) := by
            obtain ⟨_, _, g, _⟩ := tyOf_some hi
            cases hd : i.desc <;> rw [hd] at h1 g <;> simp only [isIfaceD, Bool.false_eq_true] at h1
            exact ⟨_, g⟩
          obtain ⟨ms, hun⟩ := hun
          refine ⟨?_, fun args w => by simp [callFunc, hfn, hname, hc]⟩
          unfold idleCode at hty
          split at hty
          · rename_i i0 ops0 i1 ops1 t c2
            split at hty
            · rename_i o0 o1 o2 o3 e0 e1
              have e0 : ops0 = #[o0, o1] := by apply Array.ext'; simpa using e0
              have e1 : ops1 = #[o2, o3] := by apply Array.ext'; simpa using e1
              subst e0 e1
              unfold idleOps at hty
              split at hty
              · rename_i g0 g1 g2 g3
                split at hty
                · rename_i d0 cl d1 x1 d2 x2 d3 ty' x3 y yt q1 q2 q3 q4 q5 q6 q7 q8
                  cases hb : (isRecoverC cl.callee && Nat.beq x1 d0 && Nat.beq x2 d1 && Nat.beq x3 d2 && Nat.beq t d3 && isNiliConst y && Nat.blt d0 fn.ntmps && Nat.blt d1 fn.ntmps && Nat.blt d2 fn.ntmps && Nat.blt d3 fn.ntmps) with
                  | false => rw [hb] at hty; cases hty
                  | true =>
                    rw [hb, cond_true] at hty
                    cases hty
                    simp only [Bool.and_eq_true] at hb
                    obtain ⟨⟨⟨⟨⟨⟨⟨⟨⟨b1, b2⟩, b3⟩, b4⟩, b5⟩, b6⟩, b7⟩, b8⟩, b9⟩, b10⟩ := hb
                    obtain rfl := beq_of b2
                    obtain rfl := beq_of b3
                    obtain rfl := beq_of b4
                    obtain rfl := beq_of b5
                    have b7 := blt_of b7
                    have b8 := blt_of b8
                    have b9 := blt_of b9
                    have b10 := blt_of b10
                    have hcal : cl.callee = .builtin .recover := by
                      cases hq : cl.callee <;> rw [hq] at b1 <;> simp only [isRecoverC, Bool.false_eq_true] at b1
                      rename_i bb
                      cases bb <;> simp only [Bool.false_eq_true] at b1
                      rfl
                    refine callsD_of_wpS hfn hc fun c₀ cs hu => ?_
                    generalize ha : ({ tmps := args ++ Array.replicate (fn.ntmps - args.size) undef, defers := [] } : Act) = a
                    have hsz : fn.ntmps ≤ a.tmps.size := by rw [← ha]; simp; omega
                    have hdf : a.defers = [] := by rw [← ha]
                    have hrec : recoverD (c₀ :: cs) = none := by
                      unfold recoverD
                      simp only [hu]
                    have r0 : (execOp a.eval o0).run P w = .ok .recover w := by
                      simp [execOp, q2, resolve, hcal, invoke, builtin]
                    refine wpS_seq (wpS_region ?_)
                    simp only [List.size_toArray, List.length_cons, List.length_nil, Nat.zero_add, Nat.reduceAdd, List.range_eq_range', List.range'_succ, List.range'_zero, wpOpsS, List.getElem?_toArray, List.getElem?_cons_zero, List.getElem?_cons_succ, wanted_none g0, wanted_none g1, if_true, r0, hrec, q1]
                    have z1 : fn.ntmps ≤ (a.put (some x1) Value.nilIface).tmps.size := by rw [put_size]; exact hsz
                    have r1 : (execOp (a.put (some x1) Value.nilIface).eval o1).run P w = .ok (.value .nilIface) w := by
                      have := put_eval a x1 .nilIface (Nat.lt_of_lt_of_le b7 hsz)
                      simp [execOp, q4, this]
                    rw [r1]
                    simp only [Oper.upon_value, q3]
                    generalize ha1 : (a.put (some x1) Value.nilIface).put (some x2) Value.nilIface = a1
                    have hx2 : a1.eval (.tmp x2) = .nilIface := by rw [← ha1]; exact put_eval _ _ _ (Nat.lt_of_lt_of_le b8 z1)
                    have z2 : fn.ntmps ≤ a1.tmps.size := by rw [← ha1, put_size]; exact z1
                    have d2 : a1.defers = [] := by rw [← ha1, put_defers, put_defers]; exact hdf
                    show Code.wpS P _ _ a1 (c₀ :: cs) w
                    refine wpS_seq (wpS_region ?_)
                    have r2 : (execOp a1.eval o2).run P w = .ok (.value .nilIface) w := by
                      simp [execOp, q6, hx2]
                    simp only [List.size_toArray, List.length_cons, List.length_nil, Nat.zero_add, Nat.reduceAdd, List.range_eq_range', List.range'_succ, List.range'_zero, wpOpsS, List.getElem?_toArray, List.getElem?_cons_zero, List.getElem?_cons_succ, wanted_none g2, wanted_none g3, if_true, r2, Oper.upon_value, q5]
                    generalize ha2 : a1.put (some x3) Value.nilIface = a2
                    have hx3 : a2.eval (.tmp x3) = .nilIface := by rw [← ha2]; exact put_eval _ _ _ (Nat.lt_of_lt_of_le b9 z2)
                    have z3 : fn.ntmps ≤ a2.tmps.size := by rw [← ha2, put_size]; exact z2
                    have d3 : a2.defers = [] := by rw [← ha2, put_defers]; exact d2
                    rw [run_neq_nil hun b6 q8 hx3 w]
                    simp only [Oper.upon_value, q7]
                    generalize ha3 : a2.put (some t) (Value.bool false) = a3
                    have ht : a3.eval (.tmp t) = .bool false := by rw [← ha3]; exact put_eval _ _ _ (Nat.lt_of_lt_of_le b10 z3)
                    have d4 : a3.defers = [] := by rw [← ha3, put_defers]; exact d3
                    show Code.wpS P _ _ a3 (c₀ :: cs) w
                    refine wpS_cond ht ?_
                    simp only [Bool.false_eq_true, if_false]
                    refine wpS_of_wp (wp_skip ?_)
                    have hr : (results fn a3.tmps).run P w = .ok (.tuple #[]) w := by
                      unfold results
                      rw [hres]
                      simp
                    exact ⟨d4, .returning, by rw [← hu], _, hr, ⟨_, rfl⟩, rfl, rfl⟩
                · cases hty
              · cases hty
            · cases hty
          · cases hty
        · cases h
      · cases h
    · cases h
  · cases h

end
end Go.Ev

namespace Go.Ev

/-- Whatever the state holds lies in the world. -/
def Has (ρ : Ren) (S : St) (w : World) : Prop :=
  ∀ b o, S.heap.get b = some o → ∃ B D O, ρ.b b = some (B, D) ∧ w.heap[B]? = some O ∧ ObjRel ρ D o O

theorem getN_some : ∀ {c : Tr CV} {n i : Nat} {l : List CV}, getN c i n = some l → l.length = n ∧ ∀ j, j < n → c.get (i + j) = l[j]?
  | c, 0, i, l, h => by simp [getN] at h; subst h; exact ⟨rfl, fun j hj => by omega⟩
  | c, n + 1, i, l, h => by
    simp only [getN] at h
    split at h
    · cases h
    · rename_i v hv
      split at h
      · cases h
      · rename_i vs hvs
        cases h
        obtain ⟨h1, h2⟩ := getN_some hvs
        refine ⟨by simp [h1], fun j hj => ?_⟩
        cases j with
        | zero => simpa using hv
        | succ j =>
          have := h2 j (by omega)
          rw [show i + (j + 1) = i + 1 + j by omega, this]
          simp

section
variable {P : Program} {ρ : Ren} {S : St} {w : World}

/-- One cell. -/
theorem row_cell (h : Has ρ S w) {b : Nat} {c : Tr CV} {sh hi : Nat} {wr : Bool} {id sz ty : Nat} (hb : S.heap.get b = some (.row c sh hi wr id sz ty)) :
    ∃ B D cs t fz, ρ.b b = some (B, D) ∧ w.heap[B]? = some (.cells cs t fz) ∧
      ∀ i, i < hi → ∃ v V, c.get (i + sh) = some v ∧ real ρ v = some V ∧ w.cell? ⟨B, i + D, none⟩ = some V ∧ (wr = true → w.frozen? ⟨B, i + D, none⟩ = false) := by
  obtain ⟨B, D, O, h1, h2, h3⟩ := h b _ hb
  cases O with
  | cells cs t fz =>
    refine ⟨B, D, cs, t, fz, h1, h2, fun i hi' => ?_⟩
    obtain ⟨v, V, e1, e2, e3, e4⟩ := h3.1 i hi'
    refine ⟨v, V, e1, e2, by simp [World.cell?, h2, e3], fun hw => ?_⟩
    have := e4 hw
    obtain ⟨lo, up⟩ := fz
    simp only [World.frozen?, h2]
    simp only [not_and] at this
    by_cases hl : lo ≤ i + D
    · have := this hl
      simp [hl]; omega
    · simp [hl]
  | _ => exact h3.elim

theorem loadN_run (h : Has ρ S w) {b o n : Nat} {l : List CV} (hl : loadN S b o n = some l) :
    ∃ B D L, ρ.b b = some (B, D) ∧ reals ρ l = some L ∧ L.length = n ∧ l.length = n ∧ (loadCells ⟨B, o + D, none⟩ n).run P w = .ok L.toArray w := by
  unfold loadN at hl
  split at hl
  · rename_i c sh hi wr id sz ty hb
    cases hc : Nat.ble (o + n) hi with
    | false => rw [hc] at hl; cases hl
    | true =>
      rw [hc, cond_true] at hl
      have hc := ble_of hc
      obtain ⟨B, D, cs, t, fz, h1, h2, h3⟩ := row_cell h hb
      obtain ⟨g1, g2⟩ := getN_some hl
      have hex : ∀ (m : Nat) (l' : List CV), l'.length = m → (∀ j, j < m → ∃ V, ∀ v, l'[j]? = some v → real ρ v = some V) → ∃ L, reals ρ l' = some L := by
        intro m
        induction m with
        | zero => intro l' hl' _; cases l' <;> simp at hl'; exact ⟨[], rfl⟩
        | succ m ih =>
          intro l' hl' hh
          cases l' with
          | nil => simp at hl'
          | cons v l' =>
            obtain ⟨V, hV⟩ := hh 0 (by omega)
            have hv := hV v (by simp)
            obtain ⟨L, hL⟩ := ih l' (by simpa using hl') (fun j hj => by obtain ⟨V, hV⟩ := hh (j + 1) (by omega); exact ⟨V, fun v hv => hV v (by simpa using hv)⟩)
            exact ⟨V :: L, reals_cons hv hL⟩
      obtain ⟨L, hL⟩ := hex n l g1 (fun j hj => by
        obtain ⟨v, V, e1, e2, _⟩ := h3 (o + j) (by omega)
        refine ⟨V, fun u hu => ?_⟩
        have := g2 j hj
        rw [show o + sh + j = o + j + sh by omega, e1, hu] at this
        cases this
        exact e2)
      have hlen := reals_length hL
      refine ⟨B, D, L, h1, hL, by omega, g1, ?_⟩
      have := run_loadCells_list (P := P) w ⟨B, o + D, none⟩ L (fun j V hj => by
        have hjn : j < n := by
          rcases Nat.lt_or_ge j L.length with h | h
          · omega
          · simp [List.getElem?_eq_none h] at hj
        obtain ⟨v, V', e1, e2, e3, _⟩ := h3 (o + j) (by omega)
        have := g2 j hjn
        rw [show o + sh + j = o + j + sh by omega, e1] at this
        obtain ⟨U, hU, hU'⟩ := reals_get hL j v this.symm
        rw [hj] at hU'
        cases hU'
        rw [e2] at hU
        cases hU
        rw [add_addr, show o + D + j = o + j + D by omega]
        exact e3)
      rw [show L.length = n by omega] at this
      exact this
  · cases hl

theorem load1_run (h : Has ρ S w) {b o : Nat} {v : CV} (hl : load1 S b o = some v) :
    ∃ B D V, ρ.b b = some (B, D) ∧ real ρ v = some V ∧ w.cell? ⟨B, o + D, none⟩ = some V := by
  unfold load1 at hl
  split at hl
  · rename_i c sh hi wr id sz ty hb
    cases hc : Nat.blt o hi with
    | false => rw [hc] at hl; cases hl
    | true =>
      rw [hc, cond_true] at hl
      obtain ⟨B, D, cs, t, fz, h1, h2, h3⟩ := row_cell h hb
      obtain ⟨u, V, e1, e2, e3, _⟩ := h3 o (blt_of hc)
      rw [e1] at hl
      cases hl
      exact ⟨B, D, V, h1, e2, e3⟩
  · cases hl

/-- A load at a type. -/
theorem loadC_run (h : Has ρ S w) {t : TypeId} {i : TyE} (ht : tyOf P t = some i) {p v : CV} (hl : loadC i.size (isAggD i.desc) p S = some v) {A : Value} (hp : real ρ p = some A) :
    ∃ V, real ρ v = some V ∧ (Instr.loadAt t A).run P w = .ok V w ∧ ∃ x, A = .pointer (some x) ∧ (loadVar t x).run P w = .ok V w := by
  unfold loadC at hl
  split at hl
  · rename_i b o
    simp only [real, Option.map_eq_some_iff] at hp
    obtain ⟨⟨B, D⟩, hb, rfl⟩ := hp
    have key : ∃ V, real ρ v = some V ∧ (loadVar t ⟨B, o + D, none⟩).run P w = .ok V w := by
      cases ha : isAggD i.desc with
      | true =>
        rw [ha, cond_true] at hl
        split at hl
        · rename_i l hn
          cases hl
          obtain ⟨B', D', L, e1, e2, e3, e4, e5⟩ := loadN_run (P := P) h hn
          rw [hb] at e1
          cases e1
          refine ⟨.agg L.toArray, by simp [real, e2], ?_⟩
          simp [loadVar, run_isAgg' ht w, ha, run_sizeOf' ht w, e5]
        · cases hl
      | false =>
        rw [ha, cond_false] at hl
        obtain ⟨B', D', V, e1, e2, e3⟩ := load1_run h hl
        rw [hb] at e1
        cases e1
        refine ⟨V, e2, ?_⟩
        simp [loadVar, run_isAgg' ht w, ha, e3]
    obtain ⟨V, hV, hV'⟩ := key
    exact ⟨V, hV, by simp [Instr.loadAt, Instr.sureAddr, hV'], _, rfl, hV'⟩
  · cases hl
end

/-- An operation that reads memory yields what the evaluator says. -/
def ReadOK (P : Program) (o : Oper) (f : Tm → St → Option CV) : Prop :=
  ∀ (ρ : Ren) (nt : Nat) (tm : Tm) (a : Act) (v : CV) (S : St) (w : World), FrRel ρ nt tm a → Glob P ρ → Has ρ S w → f tm S = some v →
    ∃ V, real ρ v = some V ∧ (execOp a.eval o).run P w = .ok (.value V) w

section
variable {P : Program} {o : Oper}

theorem read_load {t : TypeId} {x : Operand} {i : TyE} (ht : tyOf P t = some i) (ho : o.op = .load t x) : ReadOK P o (loadR i.size (isAggD i.desc) (opd P x)) := by
  intro ρ nt tm a v S w hf hg hh h
  unfold loadR at h
  split at h
  · rename_i p hp
    obtain ⟨V, hV, hV', _⟩ := loadC_run hh ht h (opd_real hf hg x p hp)
    exact ⟨V, hV, by simp [execOp, ho, hV']⟩
  · cases h

/-! Maps. -/

/-- How a key is compared with an entry's: at once, or by asking. -/
def KSame (P : Program) (kt : TypeId) (d : TypeDesc) (K K' : Value) (r : Bool) : Prop :=
  Instr.sameNow d K K' = some r ∨ ((∀ A B, Instr.sameNow d A B = none) ∧ ∀ w, (Op.equal kt K K').run P w = .ok r w)

/-- The entry at i is the first one with this key. -/
def HitAt (P : Program) (kt : TypeId) (d : TypeDesc) (K : Value) (L : List MapEntry) (i : Nat) (V : Value) : Prop :=
  ∃ x, L[i]? = some x ∧ x.val = V ∧ KSame P kt d K x.key true ∧ ∀ j, j < i → ∀ y, L[j]? = some y → KSame P kt d K y.key false

theorem HitAt.zero {kt : TypeId} {d : TypeDesc} {K : Value} {x : MapEntry} {L : List MapEntry} (h : KSame P kt d K x.key true) : HitAt P kt d K (x :: L) 0 x.val :=
  ⟨x, rfl, rfl, h, fun j hj => by omega⟩

theorem HitAt.succ {kt : TypeId} {d : TypeDesc} {K V : Value} {y : MapEntry} {L : List MapEntry} {i : Nat} (hy : KSame P kt d K y.key false) (h : HitAt P kt d K L i V) : HitAt P kt d K (y :: L) (i + 1) V := by
  obtain ⟨x, h1, h2, h3, h4⟩ := h
  refine ⟨x, by simpa using h1, h2, h3, fun j hj z hz => ?_⟩
  cases j with
  | zero => simp only [List.getElem?_cons_zero, Option.some.injEq] at hz; subst hz; exact hy
  | succ j => exact h4 j (by omega) z (by simpa using hz)

theorem mute_no {kt : TypeId} {d : TypeDesc} {K K' : Value} {r : Bool} (h : KSame P kt d K K' r) (hm : ∀ A B, Instr.sameNow d A B = none) : ∀ w, (Op.equal kt K K').run P w = .ok r w := by
  rcases h with h | ⟨_, h⟩
  · rw [hm] at h; cases h
  · exact h

theorem loud_no {kt : TypeId} {d : TypeDesc} {K K' : Value} {r : Bool} (h : KSame P kt d K K' r) (hm : ¬ ∀ A B, Instr.sameNow d A B = none) : Instr.sameNow d K K' = some r := by
  rcases h with h | ⟨h, _⟩
  · exact h
  · exact absurd h hm

theorem HitAt.run {kt : TypeId} {d : TypeDesc} {K V : Value} (hun : ∀ w, (underlying kt).run P w = .ok d w) : ∀ {L : List MapEntry} {i : Nat}, HitAt P kt d K L i V → ∀ w, (Instr.findKey kt K L).run P w = .ok (some (i, V)) w := by
  intro L i h w
  by_cases hm : ∀ A B, Instr.sameNow d A B = none
  · have ask : ∀ (L : List MapEntry) (i n : Nat), HitAt P kt d K L i V → (Instr.findAsking kt K L n).run P w = .ok (some (n + i, V)) w := by
      intro L
      induction L with
      | nil => rintro i n ⟨x, h1, _⟩; simp at h1
      | cons y L ih =>
        rintro i n ⟨x, h1, h2, h3, h4⟩
        cases i with
        | zero =>
          simp only [List.getElem?_cons_zero, Option.some.injEq] at h1
          subst h1
          have := mute_no h3 hm w
          simp [Instr.findAsking, this, h2]
        | succ i =>
          have := mute_no (h4 0 (by omega) y rfl) hm w
          have ih := ih i (n + 1) ⟨x, by simpa using h1, h2, h3, fun j hj z hz => h4 (j + 1) (by omega) z (by simpa using hz)⟩
          simp only [Instr.findAsking, Sem.run_bind, this, Result.andThen_ok, Bool.false_eq_true, if_false]
          rw [ih, show n + 1 + i = n + (i + 1) by omega]
    have e : Instr.findNow d K L 0 = none := by
      obtain ⟨x, h1, _⟩ := h
      cases L with
      | nil => simp at h1
      | cons y L => simp [Instr.findNow, hm]
    have := ask L i 0 h
    rw [Nat.zero_add] at this
    simp only [Instr.findKey, Sem.run_bind, hun, Result.andThen_ok, e]
    exact this
  · have now : ∀ (L : List MapEntry) (i n : Nat), HitAt P kt d K L i V → Instr.findNow d K L n = some (some (n + i, V)) := by
      intro L
      induction L with
      | nil => rintro i n ⟨x, h1, _⟩; simp at h1
      | cons y L ih =>
        rintro i n ⟨x, h1, h2, h3, h4⟩
        cases i with
        | zero =>
          simp only [List.getElem?_cons_zero, Option.some.injEq] at h1
          subst h1
          simp [Instr.findNow, loud_no h3 hm, h2]
        | succ i =>
          have := loud_no (h4 0 (by omega) y rfl) hm
          have ih := ih i (n + 1) ⟨x, by simpa using h1, h2, h3, fun j hj z hz => h4 (j + 1) (by omega) z (by simpa using hz)⟩
          simp only [Instr.findNow, this]
          rw [ih, show n + 1 + i = n + (i + 1) by omega]
    have := now L i 0 h
    rw [Nat.zero_add] at this
    simp only [Instr.findKey, Sem.run_bind, hun, Result.andThen_ok, this]
    rfl

/-- No entry has this key. -/
def Misses (P : Program) (kt : TypeId) (d : TypeDesc) (K : Value) (L : List MapEntry) : Prop := ∀ x, x ∈ L → KSame P kt d K x.key false

theorem Misses.run {kt : TypeId} {d : TypeDesc} {K : Value} (hun : ∀ w, (underlying kt).run P w = .ok d w) {L : List MapEntry} (h : Misses P kt d K L) : ∀ w, (Instr.findKey kt K L).run P w = .ok none w := by
  intro w
  by_cases hm : ∀ A B, Instr.sameNow d A B = none
  · have ask : ∀ (L : List MapEntry) (n : Nat), Misses P kt d K L → (Instr.findAsking kt K L n).run P w = .ok none w := by
      intro L
      induction L with
      | nil => intro n _; rfl
      | cons y L ih =>
        intro n h
        have := mute_no (h y List.mem_cons_self) hm w
        simp only [Instr.findAsking, Sem.run_bind, this, Result.andThen_ok, Bool.false_eq_true, if_false]
        exact ih (n + 1) (fun z hz => h z (List.mem_cons_of_mem _ hz))
    cases L with
    | nil => simp [Instr.findKey, hun, Instr.findNow]
    | cons y L =>
      have e : Instr.findNow d K (y :: L) 0 = none := by simp [Instr.findNow, hm]
      simp only [Instr.findKey, Sem.run_bind, hun, Result.andThen_ok, e]
      exact ask _ 0 h
  · have now : ∀ (L : List MapEntry) (n : Nat), Misses P kt d K L → Instr.findNow d K L n = some none := by
      intro L
      induction L with
      | nil => intro n _; rfl
      | cons y L ih =>
        intro n h
        simp only [Instr.findNow, loud_no (h y List.mem_cons_self) hm]
        exact ih (n + 1) (fun z hz => h z (List.mem_cons_of_mem _ hz))
    simp only [Instr.findKey, Sem.run_bind, hun, Result.andThen_ok, now L 0 h]
    rfl

/-! Keys. -/

theorem keyEqC_some {ρ : Ren} {d : TypeDesc} {k k' : CV} {K K' : Value} (hp : plainOne d k = true) {r : Bool} (h : keyEqC k k' = some r) (hK : real ρ k = some K) (hK' : real ρ k' = some K') :
    Instr.sameNow d K K' = some r := by
  cases k <;> cases k' <;> simp only [keyEqC, reduceCtorEq] at h
  · cases d <;> simp only [plainOne, Bool.false_eq_true] at hp
    simp only [real, Option.some.injEq] at hK hK'
    subst hK; subst hK'
    simpa [Instr.sameNow] using h
  · cases d <;> simp only [plainOne, Bool.false_eq_true] at hp
    simp only [real, Option.some.injEq] at hK hK'
    subst hK; subst hK'
    split at h
    · rename_i hk
      simp only [Instr.sameNow, hk, if_true]
      rw [← intEq_eq]
      exact h
    · cases h
  · cases d <;> simp only [plainOne, Bool.false_eq_true] at hp
    simp only [real, Option.some.injEq] at hK hK'
    subst hK; subst hK'
    simp only [Instr.sameNow]
    rw [bytes_beq, strReal_data, strReal_data, strEq_eq _ _ _ h]

theorem keyEq_flat {d : TypeDesc} {k k' : CV} (hp : plainOne d k = true) : keyEq k k' = keyEqC k k' := by
  cases k <;> first | rfl | (cases d <;> simp [plainOne] at hp)

theorem plainParts_at {xs0 : List CV} : ∀ (l : List (Nat × Nat × Bool × EqT)) (i : Nat) (xs : List CV), plainParts i l xs = true → xs0.drop i = xs →
    ∀ off size agg e, (off, size, agg, e) ∈ l → size = 1 ∧ agg = false ∧ ∃ x, xs0[off]? = some x ∧ plainCell e x = true
  | [], _, _, _, _, _, _, _, _, h => by cases h
  | (o, s, g, e') :: l, i, [], hp, _, off, size, agg, e, h => by simp [plainParts] at hp
  | (o, s, g, e') :: l, i, x :: xs, hp, hd, off, size, agg, e, h => by
    simp only [plainParts, Bool.and_eq_true, Bool.not_eq_true'] at hp
    obtain ⟨⟨⟨⟨h1, h2⟩, h3⟩, h4⟩, h5⟩ := hp
    rcases List.mem_cons.1 h with he | he
    · cases he
      obtain rfl := beq_of h1
      exact ⟨beq_of h2, h3, x, by have := congrArg (fun m => m[0]?) hd; simpa using this, h4⟩
    · exact plainParts_at l (i + 1) xs h5 (by have := congrArg (List.drop 1) hd; simpa using this) off size agg e he

theorem eqAt_plain {e : EqT} {x y : CV} (hp : plainCell e x = true) {r : Bool} (h : keyEqC x y = some r) : eqAt e x y = some r := by
  cases e <;> cases x <;> simp only [plainCell, Bool.false_eq_true] at hp <;> cases y <;> simp only [keyEqC, reduceCtorEq] at h <;> simpa only [eqAt] using h

theorem eqParts_flat {xs0 ys0 : List CV} : ∀ (l : List (Nat × Nat × Bool × EqT)) (i : Nat) (xs ys : List CV) (r : Bool), plainParts i l xs = true → xs0.drop i = xs → ys0.drop i = ys → keyEqL xs ys = some r → eqParts l xs0 ys0 = some r
  | [], i, [], ys, r, _, _, _, h => by
    rw [eqParts_nil]
    cases ys with
    | nil => simpa [keyEqL] using h
    | cons => simp [keyEqL] at h
  | [], i, x :: xs, ys, r, hp, _, _, h => by simp [plainParts] at hp
  | _ :: _, i, [], ys, r, hp, _, _, h => by simp [plainParts] at hp
  | (o, s, g, e) :: l, i, x :: xs, [], r, hp, hx, hy, h => by simp [keyEqL] at h
  | (o, s, g, e) :: l, i, x :: xs, y :: ys, r, hp, hx, hy, h => by
    simp only [plainParts, Bool.and_eq_true, Bool.not_eq_true'] at hp
    obtain ⟨⟨⟨⟨h1, h2⟩, h3⟩, h4⟩, h5⟩ := hp
    obtain rfl := beq_of h1
    obtain rfl := beq_of h2
    subst h3
    have gx : xs0[o]? = some x := by have := congrArg (fun m => m[0]?) hx; simpa using this
    have gy : ys0[o]? = some y := by have := congrArg (fun m => m[0]?) hy; simpa using this
    rw [eqParts_cons]
    simp only [partC, cond_false, gx, gy]
    simp only [keyEqL] at h
    have tx : xs0.drop (o + 1) = xs := by have := congrArg (List.drop 1) hx; simpa using this
    have ty : ys0.drop (o + 1) = ys := by have := congrArg (List.drop 1) hy; simpa using this
    split at h
    · rename_i hk
      rw [eqAt_plain h4 hk]
      exact eqParts_flat l (o + 1) xs ys r h5 tx ty h
    · rename_i hk
      rw [eqAt_plain h4 hk]
      exact h
    · cases h

theorem keyEq_some {ρ : Ren} {kt : TypeId} {ki : TyE} (hk : tyOf P kt = some ki) {k k' : CV} {K K' : Value} (hp : plainKey (keyTy P kt ki.desc) k = true) {r : Bool} (h : keyEq k k' = some r) (hK : real ρ k = some K) (hK' : real ρ k' = some K') :
    KSame P kt ki.desc K K' r := by
  unfold keyTy at hp
  split at hp
  · rename_i fields hd
    split at hp
    · rename_i l hl
      cases k <;> simp only [plainKey, Bool.false_eq_true] at hp
      rename_i xs
      right
      refine ⟨fun A B => by rw [hd]; rfl, fun w => ?_⟩
      cases k' <;> simp only [keyEq, keyEqC, reduceCtorEq] at h
      rename_i ys
      cases hb : Nat.beq xs.length ys.length with
      | false => rw [hb] at h; cases h
      | true =>
        rw [hb, cond_true] at h
        have := eqParts_flat l 0 xs ys r hp rfl rfl h
        exact eqAt_run 8 Op.maxDepth (by decide) kt (.agg xs) (.agg ys) K K' r (by rw [hl]; simp only [eqAt]; exact this) hK hK' w
    · simp [plainKey] at hp
  · simp only [plainKey] at hp
    rw [keyEq_flat hp] at h
    exact .inl (keyEqC_some hp h hK hK')

theorem forIn_quiet {fs : List Field} {g : Field → PUnit → Sem (ForInStep PUnit)} {w : World} (h : ∀ f, f ∈ fs → (g f ⟨⟩).run P w = .ok (.yield ⟨⟩) w) : (forIn fs ⟨⟩ g).run P w = .ok ⟨⟩ w := by
  induction fs with
  | nil => rfl
  | cons f fs ih =>
    rw [List.forIn_cons]
    simp only [Sem.run_bind, h f List.mem_cons_self, Result.andThen_ok]
    exact ih (fun f' hf => h f' (List.mem_cons_of_mem _ hf))

theorem cell_check {ρ : Ren} {d n : Nat} {t : TypeId} {x : CV} {K : Value} (hp : plainCell (eqTy P d t) x = true) (hK : real ρ x = some K) (e : Bool) (w : World) : (Instr.checkKey e (n + 1) t K).run P w = .ok () w := by
  cases d with
  | zero => cases x <;> simp [eqTy, plainCell] at hp
  | succ d =>
    simp only [eqTy] at hp
    cases ht : tyOf P t with
    | none => rw [ht] at hp; cases x <;> simp [plainCell] at hp
    | some i =>
      rw [ht] at hp
      simp only at hp
      have hun := run_underlying' ht w
      unfold Instr.checkKey
      simp only [Sem.run_bind, hun, Result.andThen_ok]
      cases hd : i.desc <;> rw [hd] at hp <;> simp only at hp
      case bool => cases x <;> simp only [plainCell, Bool.false_eq_true] at hp <;> simp only [real, Option.some.injEq] at hK <;> subst hK <;> rfl
      case int => cases x <;> simp only [plainCell, Bool.false_eq_true] at hp <;> simp only [real, Option.some.injEq] at hK <;> subst hK <;> rfl
      case string => cases x <;> simp only [plainCell, Bool.false_eq_true] at hp <;> simp only [real, Option.some.injEq] at hK <;> subst hK <;> rfl
      all_goals (exfalso; revert hp; first | (cases x <;> simp [plainCell]; done) | (split <;> cases x <;> simp [plainCell]))

/-- A key of a plain type. -/
theorem plain_check {ρ : Ren} {kt : TypeId} {ki : TyE} (hk : tyOf P kt = some ki) {k : CV} {K : Value} (hp : plainKey (keyTy P kt ki.desc) k = true) (hK : real ρ k = some K) (e : Bool) (w : World) :
    (Instr.checkKey e 10000 kt K).run P w = .ok () w := by
  have hun := run_underlying' hk w
  unfold keyTy at hp
  split at hp
  · rename_i fields hd
    split at hp
    · rename_i l hl
      cases k <;> simp only [plainKey, Bool.false_eq_true] at hp
      rename_i xs
      simp only [real, Option.map_eq_some_iff] at hK
      obtain ⟨LX, hX, rfl⟩ := hK
      unfold Instr.checkKey
      simp only [Sem.run_bind, hun, hd, Result.andThen_ok]
      rw [← Array.forIn_toList]
      have hl' : ∃ d', l = (fields.toList.filter (·.name ≠ "_")).map (eqPart P d') := by
        simp only [eqTy, hk, hd] at hl
        split at hl
        · cases hl
        · exact ⟨7, (EqT.parts.inj hl).symm⟩
      obtain ⟨d', hl'⟩ := hl'
      have quiet : ∀ f, f ∈ fields.toList → f.name ≠ "_" → ∃ V, (part f.type LX.toArray f.offset).run P w = .ok V w ∧ (Instr.checkKey e 9999 f.type V).run P w = .ok () w := by
        intro f hf hn
        have hm : eqPart P d' f ∈ l := by rw [hl']; exact List.mem_map.2 ⟨f, List.mem_filter.2 ⟨hf, by simpa using hn⟩, rfl⟩
        obtain ⟨q1, q2, x, q3, q4⟩ := plainParts_at l 0 xs hp rfl _ _ _ _ hm
        cases hj : tyOf P f.type with
        | none => rw [hj] at q1; cases q1
        | some j =>
          rw [hj] at q1 q2
          simp only at q1 q2
          obtain ⟨V, hV, hV'⟩ := run_part hj hX (off := f.offset) (v := x) (by rw [q1, q2]; simpa [partC] using q3)
          exact ⟨V, hV' w, cell_check q4 hV e w⟩
      rw [forIn_quiet (P := P) (w := w) fun f hf => ?_]
      · rfl
      by_cases hn : f.name ≠ "_"
      · obtain ⟨V, h1, h2⟩ := quiet f hf hn
        rw [if_pos hn]
        simp [h1, h2]
      · rw [if_neg hn]
        simp
    · simp [plainKey] at hp
  · rename_i hns
    simp only [plainKey] at hp
    unfold Instr.checkKey
    simp only [Sem.run_bind, hun, Result.andThen_ok]
    cases hd : ki.desc <;> rw [hd] at hp <;> cases k <;> simp only [plainOne, Bool.false_eq_true] at hp <;> simp only [real, Option.some.injEq] at hK <;> subst hK <;> rfl

/-- The entries of a map, told. -/
def Ents (ρ : Ren) (es : List (CV × CV × Nat)) (l : List (Value × Value × Nat)) : Prop :=
  l.length = es.length ∧ ∀ (i : Nat) (e : CV × CV × Nat), es[i]? = some e → ∃ e' : Value × Value × Nat, l[i]? = some e' ∧ real ρ e.1 = some e'.1 ∧ real ρ e.2.1 = some e'.2.1 ∧ e.2.2 = e'.2.2

theorem Ents.tail {ρ : Ren} {e : CV × CV × Nat} {es : List (CV × CV × Nat)} {l : List (Value × Value × Nat)} (h : Ents ρ (e :: es) l) :
    ∃ e' l', l = e' :: l' ∧ real ρ e.1 = some e'.1 ∧ real ρ e.2.1 = some e'.2.1 ∧ e.2.2 = e'.2.2 ∧ Ents ρ es l' := by
  obtain ⟨h1, h2⟩ := h
  cases l with
  | nil => simp at h1
  | cons e' l' =>
    obtain ⟨x, hx, a, b, c⟩ := h2 0 e rfl
    simp only [List.getElem?_cons_zero, Option.some.injEq] at hx
    subst hx
    exact ⟨e', l', rfl, a, b, c, by simpa using h1, fun i x hx => by simpa using h2 (i + 1) x (by simpa using hx)⟩

def entryOf (e : Value × Value × Nat) : MapEntry := ⟨e.1, e.2.1, e.2.2⟩

theorem find_run {ρ : Ren} {kt : TypeId} {ki : TyE} (hk : tyOf P kt = some ki) {k : CV} {K : Value} (hp : plainKey (keyTy P kt ki.desc) k = true) (hK : real ρ k = some K) : ∀ (es : List (CV × CV × Nat)) (l : List (Value × Value × Nat)) (r : Option CV),
    find k es = some r → Ents ρ es l →
    (r = none ∧ Misses P kt ki.desc K (l.map entryOf)) ∨
    (∃ v V i, r = some v ∧ real ρ v = some V ∧ HitAt P kt ki.desc K (l.map entryOf) i V ∧ i < l.length)
  | [], l, r, h, he => by
    simp only [find, Option.some.injEq] at h
    subst h
    have : l = [] := List.length_eq_zero_iff.1 he.1
    subst this
    exact .inl ⟨rfl, fun x hx => by cases hx⟩
  | (k', v, b) :: es, l, r, h, he => by
    obtain ⟨e', l', rfl, a1, a2, a3, he'⟩ := he.tail
    simp only [find] at h
    split at h
    · rename_i hq
      cases h
      exact .inr ⟨v, _, 0, rfl, a2, HitAt.zero (keyEq_some hk hp hq hK a1), by simp⟩
    · rename_i hq
      have hs := keyEq_some hk hp hq hK a1
      rcases find_run hk hp hK es l' r h he' with ⟨e1, e2⟩ | ⟨u, U, i, e1, e2, e3, e4⟩
      · refine .inl ⟨e1, fun x hx => ?_⟩
        rcases List.mem_cons.1 hx with rfl | hx
        · exact hs
        · exact e2 x hx
      · exact .inr ⟨u, U, i + 1, e1, e2, HitAt.succ hs e3, by simp; omega⟩
    · cases h

theorem findKey_run {ρ : Ren} {kt : TypeId} {ki : TyE} (hk : tyOf P kt = some ki) {k : CV} {K : Value} (hp : plainKey (keyTy P kt ki.desc) k = true) (hK : real ρ k = some K) {es : List (CV × CV × Nat)} {l : List (Value × Value × Nat)} {r : Option CV}
    (h : find k es = some r) (he : Ents ρ es l) (w : World) :
    (r = none ∧ (Instr.findKey kt K (l.map entryOf)).run P w = .ok none w) ∨
    (∃ v V i, r = some v ∧ real ρ v = some V ∧ (Instr.findKey kt K (l.map entryOf)).run P w = .ok (some (i, V)) w ∧ i < l.length) := by
  have hun := fun w => run_underlying' (P := P) hk w
  rcases find_run hk hp hK es l r h he with ⟨e1, e2⟩ | ⟨v, V, i, e1, e2, e3, e4⟩
  · exact .inl ⟨e1, e2.run hun w⟩
  · exact .inr ⟨v, V, i, e1, e2, e3.run hun w, e4⟩

theorem map_obj {ρ : Ren} {S : St} {w : World} (h : Has ρ S w) {r : Nat} {es : List (CV × CV × Nat)} {clock : Nat} (hr : S.heap.get r = some (.map es clock)) :
    ∃ R l, ρ.b r = some (R, 0) ∧ w.heap[R]? = some (.map (l.map entryOf).toArray clock) ∧ Ents ρ es l := by
  obtain ⟨B, D, O, h1, h2, h3⟩ := h r _ hr
  cases O with
  | map es' clock' =>
    obtain ⟨rfl, rfl, l, e1, e2, e3⟩ := h3
    refine ⟨B, l, h1, ?_, e2, e3⟩
    rw [h2]
    congr 2
    apply Array.ext'
    simp only [e1]
    rfl
  | _ => exact h3.elim

theorem strEq_true : ∀ (a b : List Nat), strEq a b = some true → a = b
  | [], [], _ => rfl
  | [], _ :: _, h => by simp [strEq] at h
  | _ :: _, [], h => by simp [strEq] at h
  | a :: x, b :: y, h => by
    simp only [strEq] at h
    cases hb : Nat.beq a b with
    | true =>
      rw [hb, cond_true] at h
      rw [beq_of hb, strEq_true x y h]
    | false =>
      rw [hb, cond_false] at h
      cases hc : (Nat.blt a 256 && Nat.blt b 256) with
      | true => rw [hc, cond_true] at h; cases h
      | false => rw [hc, cond_false] at h; cases h

theorem keyEqC_eq {k k' : CV} (h : keyEqC k k' = some true) : k = k' := by
  cases k <;> cases k' <;> simp only [keyEqC, reduceCtorEq] at h
  · simp only [Option.some.injEq, beq_iff_eq] at h
    rw [h]
  · split at h
    · rename_i hk
      rw [intEq_eq] at h
      simp only [Option.some.injEq, beq_iff_eq] at h
      rw [hk, h]
    · cases h
  · rw [strEq_true _ _ h]

theorem keyEqL_eq : ∀ {xs ys : List CV}, keyEqL xs ys = some true → xs = ys
  | [], [], _ => rfl
  | [], _ :: _, h => by simp [keyEqL] at h
  | _ :: _, [], h => by simp [keyEqL] at h
  | x :: xs, y :: ys, h => by
    simp only [keyEqL] at h
    split at h
    · rename_i hk
      rw [keyEqC_eq hk, keyEqL_eq h]
    · cases h
    · cases h

theorem keyEq_eq {k k' : CV} (h : keyEq k k' = some true) : k = k' := by
  unfold keyEq at h
  split at h
  · rename_i xs ys
    cases hb : Nat.beq xs.length ys.length with
    | false => rw [hb] at h; cases h
    | true => rw [hb, cond_true] at h; rw [keyEqL_eq h]
  · exact keyEqC_eq h

theorem find_all {k : CV} : ∀ (es : List (CV × CV × Nat)), find k es = some none → ∀ e, e ∈ es → keyEq k e.1 = some false
  | [], _, e, he => by cases he
  | (k', v', n) :: es, h, e, he => by
    simp only [find] at h
    split at h
    · cases h
    · rename_i hk
      rcases List.mem_cons.1 he with rfl | he
      · exact hk
      · exact find_all es h e he
    · cases h

theorem find_one {k v : CV} : ∀ (es : List (CV × CV × Nat)), keysApart es = true → find k es = some (some v) → (∃ e, e ∈ es ∧ keyEq k e.1 = some true) ∧ ∀ e, e ∈ es → keyEq k e.1 = some false ∨ (keyEq k e.1 = some true ∧ e.2.1 = v)
  | [], _, h => by simp [find] at h
  | (k', v', n) :: es, ha, h => by
    simp only [keysApart, Bool.and_eq_true] at ha
    simp only [find] at h
    split at h
    · rename_i hk
      cases h
      refine ⟨⟨_, List.mem_cons_self, hk⟩, fun e he => ?_⟩
      rcases List.mem_cons.1 he with rfl | he
      · exact .inr ⟨hk, rfl⟩
      · left
        have := List.all_eq_true.1 ha.1 e he
        rw [keyEq_eq hk]
        split at this
        · rename_i b hb
          simp only [Bool.not_eq_true'] at this
          rw [hb, this]
        · cases this
    · rename_i hk
      obtain ⟨⟨e, e1, e2⟩, h2⟩ := find_one es ha.2 h
      refine ⟨⟨e, List.mem_cons_of_mem _ e1, e2⟩, fun e he => ?_⟩
      rcases List.mem_cons.1 he with rfl | he
      · exact .inl hk
      · exact h2 e he
    · cases h

theorem hit_one {kt : TypeId} {d : TypeDesc} {K V : Value} : ∀ (L : List MapEntry), (∀ x, x ∈ L → KSame P kt d K x.key false ∨ (KSame P kt d K x.key true ∧ x.val = V)) → (∃ x, x ∈ L ∧ KSame P kt d K x.key true ∧ ¬ KSame P kt d K x.key false) → ∃ i, HitAt P kt d K L i V
  | [], _, ⟨x, hx, _⟩ => by cases hx
  | y :: L, h, ⟨x, hx, hx2, hx3⟩ => by
    rcases h y List.mem_cons_self with hy | ⟨hy, hv⟩
    · rcases List.mem_cons.1 hx with rfl | hx
      · exact absurd hy hx3
      · obtain ⟨i, hi⟩ := hit_one L (fun z hz => h z (List.mem_cons_of_mem _ hz)) ⟨x, hx, hx2, hx3⟩
        exact ⟨i + 1, hi.succ hy⟩
    · exact ⟨0, by rw [← hv]; exact HitAt.zero hy⟩

theorem ksame_one {kt : TypeId} {d : TypeDesc} {K K' : Value} (w : World) (h : KSame P kt d K K' true) : ¬ KSame P kt d K K' false := by
  intro h'
  rcases h with h | ⟨hm, h⟩ <;> rcases h' with h' | ⟨hm', h'⟩
  · rw [h] at h'; cases h'
  · rw [hm'] at h; cases h
  · rw [hm] at h'; cases h'
  · have := (h w).symm.trans (h' w)
    simp at this

/-- The entries of a map of unknown order. -/
def EntsU (ρ : Ren) (es : List (CV × CV × Nat)) (L : List MapEntry) : Prop :=
  keysApart es = true ∧ ∃ l : List (Value × Value), (L.map fun e => (e.key, e.val)).Perm l ∧ l.length = es.length ∧
    ∀ (i : Nat) (e : CV × CV × Nat), es[i]? = some e → ∃ e' : Value × Value, l[i]? = some e' ∧ real ρ e.1 = some e'.1 ∧ real ρ e.2.1 = some e'.2

theorem EntsU.of_mem {ρ : Ren} {es : List (CV × CV × Nat)} {L : List MapEntry} (h : EntsU ρ es L) {x : MapEntry} (hx : x ∈ L) : ∃ e, e ∈ es ∧ real ρ e.1 = some x.key ∧ real ρ e.2.1 = some x.val := by
  obtain ⟨_, l, h1, h2, h3⟩ := h
  have : (x.key, x.val) ∈ l := h1.mem_iff.1 (List.mem_map.2 ⟨x, hx, rfl⟩)
  obtain ⟨i, hi⟩ := List.mem_iff_getElem?.1 this
  have hlt : i < es.length := by rw [← h2]; exact (List.getElem?_eq_some_iff.1 hi).1
  have he : es[i]? = some es[i] := List.getElem?_eq_getElem hlt
  obtain ⟨e', a, b, c⟩ := h3 i _ he
  rw [hi] at a
  cases a
  exact ⟨es[i], List.getElem_mem hlt, b, c⟩

theorem EntsU.mem_of {ρ : Ren} {es : List (CV × CV × Nat)} {L : List MapEntry} (h : EntsU ρ es L) {e : CV × CV × Nat} (he : e ∈ es) : ∃ x, x ∈ L ∧ real ρ e.1 = some x.key ∧ real ρ e.2.1 = some x.val := by
  obtain ⟨_, l, h1, h2, h3⟩ := h
  obtain ⟨i, hi⟩ := List.mem_iff_getElem?.1 he
  obtain ⟨e', a, b, c⟩ := h3 i _ hi
  have : e' ∈ L.map fun e => (e.key, e.val) := h1.mem_iff.2 (List.mem_iff_getElem?.2 ⟨i, a⟩)
  obtain ⟨x, hx, rfl⟩ := List.mem_map.1 this
  exact ⟨x, hx, b, c⟩

theorem findKeyU_run {ρ : Ren} {kt : TypeId} {ki : TyE} (hk : tyOf P kt = some ki) {k : CV} {K : Value} (hp : plainKey (keyTy P kt ki.desc) k = true) (hK : real ρ k = some K) {es : List (CV × CV × Nat)} {L : List MapEntry} {r : Option CV}
    (h : find k es = some r) (he : EntsU ρ es L) (w : World) :
    (r = none ∧ (Instr.findKey kt K L).run P w = .ok none w) ∨
    (∃ v V i, r = some v ∧ real ρ v = some V ∧ (Instr.findKey kt K L).run P w = .ok (some (i, V)) w) := by
  have hun := fun w => run_underlying' (P := P) hk w
  cases r with
  | none =>
    left
    have hall := find_all es h
    have : Misses P kt ki.desc K L := fun x hx => by
      obtain ⟨e, e1, e2, _⟩ := he.of_mem hx
      exact keyEq_some hk hp (hall e e1) hK e2
    exact ⟨rfl, this.run hun w⟩
  | some v =>
    right
    obtain ⟨⟨e, e1, e2⟩, hone⟩ := find_one es he.1 h
    obtain ⟨x, x1, x2, x3⟩ := he.mem_of e1
    have hv : e.2.1 = v := by
      rcases hone e e1 with h1 | ⟨_, h1⟩
      · rw [e2] at h1; cases h1
      · exact h1
    have hx := keyEq_some hk hp e2 hK x2
    obtain ⟨i, hi⟩ := hit_one (V := x.val) L (fun y hy => by
      obtain ⟨e', f1, f2, f3⟩ := he.of_mem hy
      rcases hone e' f1 with h1 | ⟨h1, h2⟩
      · exact .inl (keyEq_some hk hp h1 hK f2)
      · refine .inr ⟨keyEq_some hk hp h1 hK f2, ?_⟩
        rw [h2, ← hv, x3] at f3
        exact (Option.some.inj f3).symm) ⟨x, x1, hx, ksame_one w hx⟩
    exact ⟨v, x.val, i, rfl, by rw [← hv]; exact x3, hi.run hun w⟩

theorem mapU_obj {ρ : Ren} {S : St} {w : World} (h : Has ρ S w) {r : Nat} {es : List (CV × CV × Nat)} (hr : S.heap.get r = some (.mapU es)) :
    ∃ R es' clock, ρ.b r = some (R, 0) ∧ w.heap[R]? = some (.map es' clock) ∧ EntsU ρ es es'.toList := by
  obtain ⟨B, D, O, h1, h2, h3⟩ := h r _ hr
  cases O with
  | map es' clock' =>
    obtain ⟨rfl, e1, e2⟩ := h3
    exact ⟨B, es', clock', h1, h2, e1, e2⟩
  | _ => exact h3.elim

theorem run_getMap {w : World} {R : Nat} {es : Array MapEntry} {clock : Nat} (h : w.heap[R]? = some (.map es clock)) : (getObj R).run P w = .ok (.map es clock) w := by
  simp [getObj, Sem.run, h]

theorem hitQ_mem {k : CV} {r : Option CV} : ∀ {hs : List (CV × Option CV)}, hitQ k hs = some r → ∃ k', sameQ k k' = true ∧ (k', r) ∈ hs
  | [], h => by cases h
  | (k', v) :: l, h => by
    simp only [hitQ] at h
    cases hb : sameQ k k' with
    | true =>
      rw [hb, cond_true] at h
      cases h
      exact ⟨k', hb, List.mem_cons_self⟩
    | false =>
      rw [hb, cond_false] at h
      obtain ⟨k2, h1, h2⟩ := hitQ_mem h
      exact ⟨k2, h1, List.mem_cons_of_mem _ h2⟩

theorem sameQ_real {ρ : Ren} {k k' : CV} {V V' : Value} (hs : sameQ k k' = true) (h : real ρ k = some V) (h' : real ρ k' = some V') : V = V' := by
  cases k <;> cases k' <;> simp only [sameQ, Bool.false_eq_true] at hs
  · have := Nat.eq_of_beq_eq_true hs
    subst this
    rw [h] at h'
    exact Option.some.inj h'
  · have := Nat.eq_of_beq_eq_true hs
    subst this
    rename_i c lo hi lo' hi'
    simp only [real, Ren.ustr, Option.map_eq_some_iff] at h h'
    obtain ⟨x, hx, rfl⟩ := h
    obtain ⟨y, hy, rfl⟩ := h'
    cases hv : ρ.v c with
    | none => rw [hv] at hx; cases hx
    | some a =>
      rw [hv] at hx hy
      cases a <;> simp at hx hy
      rw [← hx.2, ← hy.2]

theorem findKey_now {kt : TypeId} {K : Value} {L : List MapEntry} {w : World} {r : Option (Nat × Value)} (hk : (underlying kt).run P w = .ok .string w) (h : Instr.findNow .string K L 0 = some r) : (Instr.findKey kt K L).run P w = .ok r w := by
  simp [Instr.findKey, hk, h, Result.andThen]

theorem keyTy_string {kt : TypeId} {d : TypeDesc} (h : keyTy P kt d = .one .string) : d = .string := by
  unfold keyTy at h
  split at h
  · split at h <;> cases h
  · cases h
    rfl

theorem read_lookup {t : TypeId} {x k : Operand} {ok : Bool} {i : TyE} {kt et : TypeId} {ki : TyE} {z : CV} (ht : tyOf P t = some i) (hi : i.desc = .map kt et) (hk : tyOf P kt = some ki) (hz : zeroOf P et = some z)
    (ho : o.op = .lookup t x k ok) : ReadOK P o (lookupR (keyTy P kt ki.desc) z ok (opd P x) (opd P k)) := by
  intro ρ nt tm a v S w hf hg hh h
  unfold lookupR at h
  split at h
  · rename_i m q hm hq
    have hm := opd_real hf hg x m hm
    have hq := opd_real hf hg k q hq
    have fin0 : ∀ (u : CV) (U : Value) (b : Bool), v = (bif ok then .tup [u, .bool b] else u) → real ρ u = some U →
        (Instr.lookup t (a.eval x) (a.eval k) ok).run P w = .ok (if ok then .tuple #[U, .bool b] else U) w → ∃ V, real ρ v = some V ∧ (execOp a.eval o).run P w = .ok (.value V) w := by
      intro u U b hv hu hr
      refine ⟨if ok then .tuple #[U, .bool b] else U, ?_, by simp [execOp, ho, hr]⟩
      subst hv
      cases ok
      · simpa using hu
      · simp [real, reals, hu]
    -- a map that is only read
    have quick : ∀ r, lookQ (keyTy P kt ki.desc) m q S = some r → v = (match r with | some u => (bif ok then .tup [u, .bool true] else u) | none => (bif ok then .tup [z, .bool false] else z)) → ∃ V, real ρ v = some V ∧ (execOp a.eval o).run P w = .ok (.value V) w := by
      intro r hl hv
      have hmap : ∃ r0 hs, m = .map r0 ∧ S.heap.get r0 = some (.mapQ hs) ∧ keyTy P kt ki.desc = .one .string ∧ hitQ q hs = some r := by
        cases m with
        | map r0 =>
          simp only [lookQ] at hl
          split at hl
          · rename_i hs hr
            split at hl
            · rename_i hkd
              exact ⟨r0, hs, rfl, hr, hkd, hl⟩
            · cases hl
          · cases hl
        | _ => cases hl
      obtain ⟨r0, hs, rfl, hr, hkd, hl⟩ := hmap
      have hstr := keyTy_string hkd
      obtain ⟨k', hsame, hm'⟩ := hitQ_mem hl
      obtain ⟨B, D, O, e1, e2, e3⟩ := hh r0 _ hr
      cases O with
      | map es' clock' =>
        obtain ⟨rfl, e3⟩ := e3
        obtain ⟨s, f1, f2⟩ := e3 _ hm'
        have g2 : a.eval k = .string s := sameQ_real hsame hq f1
        simp only [real, e1, Option.map_some, Option.some.injEq] at hm
        have hunk := run_underlying' (P := P) hk w
        rw [hstr] at hunk
        have hun := run_underlying' ht w
        rw [hi] at hun
        have hck : ∀ b, (Instr.checkKey b 10000 kt (.string s)).run P w = .ok () w := fun b => by
          unfold Instr.checkKey
          simp only [Sem.run_bind, hunk, Result.andThen_ok]
          rfl
        cases r with
        | none =>
          simp only at f2
          have hfk := findKey_now hunk f2
          obtain ⟨Z, hZ, hZ'⟩ := zeroOf_real hz (ρ := ρ) w
          refine fin0 z Z false hv hZ' ?_
          rw [← hm, g2]
          simp [Instr.lookup, hun, run_getMap e2, hck, hfk, hZ]
        | some u =>
          simp only at f2
          obtain ⟨V, i2, f2, f3⟩ := f2
          have hfk := findKey_now hunk f3
          refine fin0 u V true hv f2 ?_
          rw [← hm, g2]
          simp [Instr.lookup, hun, run_getMap e2, hck, hfk]
      | _ => exact e3.elim
    unfold lookupC at h
    split at h
    · rename_i r hl
      exact quick _ hl (by cases h; rfl)
    · rename_i hl
      exact quick _ hl (by cases h; rfl)
    cases hp : plainKey (keyTy P kt ki.desc) q with
    | false => rw [hp] at h; cases h
    | true =>
      rw [hp, cond_true] at h
      have hun := run_underlying' ht w
      rw [hi] at hun
      obtain ⟨Z, hZ, hZ'⟩ := zeroOf_real hz (ρ := ρ) w
      have fin : ∀ (u : CV) (U : Value) (b : Bool), v = (bif ok then .tup [u, .bool b] else u) → real ρ u = some U →
          (Instr.lookup t (a.eval x) (a.eval k) ok).run P w = .ok (if ok then .tuple #[U, .bool b] else U) w → ∃ V, real ρ v = some V ∧ (execOp a.eval o).run P w = .ok (.value V) w := by
        intro u U b hv hu hr
        refine ⟨if ok then .tuple #[U, .bool b] else U, ?_, by simp [execOp, ho, hr]⟩
        subst hv
        cases ok
        · simpa using hu
        · simp [real, reals, hu]
      split at h
      · -- found
        rename_i u hfound
        cases h
        split at hfound
        · cases hfound
        · rename_i r
          split at hfound
          · rename_i es clock hr
            obtain ⟨R, l, e1, e2, e3⟩ := map_obj hh hr
            simp only [real, e1, Option.map_some, Option.some.injEq] at hm
            rcases findKey_run hk hp hq hfound e3 w with ⟨c, _⟩ | ⟨u', U, j, c, hu, hfk, _⟩
            · cases c
            · cases c
              refine fin u U true rfl hu ?_
              simp [Instr.lookup, hun, ← hm, run_getMap e2, plain_check hk hp hq, hfk]
          · rename_i es hr
            obtain ⟨R, es', clock, e1, e2, e3⟩ := mapU_obj hh hr
            simp only [real, e1, Option.map_some, Option.some.injEq] at hm
            rcases findKeyU_run hk hp hq hfound e3 w with ⟨c, _⟩ | ⟨u', U, j, c, hu, hfk⟩
            · cases c
            · cases c
              refine fin u U true rfl hu ?_
              simp [Instr.lookup, hun, ← hm, run_getMap e2, plain_check hk hp hq, hfk]
          · cases hfound
        · cases hfound
      · -- not found
        rename_i hfound
        cases h
        refine fin z Z false rfl hZ' ?_
        split at hfound
        · simp only [real, Option.some.injEq] at hm
          have hfk : (Instr.findKey kt (a.eval k) []).run P w = .ok none w := by
            have := findKey_run hk hp hq (es := []) (l := []) (r := none) rfl ⟨rfl, fun i e h => by simp at h⟩ w
            rcases this with ⟨_, h⟩ | ⟨v, V, i, h, _⟩
            · exact h
            · cases h
          simp [Instr.lookup, hun, ← hm, plain_check hk hp hq, hfk, hZ]
        · rename_i r
          split at hfound
          · rename_i es clock hr
            obtain ⟨R, l, e1, e2, e3⟩ := map_obj hh hr
            simp only [real, e1, Option.map_some, Option.some.injEq] at hm
            rcases findKey_run hk hp hq hfound e3 w with ⟨_, hfk⟩ | ⟨u', U, j, c, hu, hfk, _⟩
            · simp [Instr.lookup, hun, ← hm, run_getMap e2, plain_check hk hp hq, hfk, hZ]
            · cases c
          · rename_i es hr
            obtain ⟨R, es', clock, e1, e2, e3⟩ := mapU_obj hh hr
            simp only [real, e1, Option.map_some, Option.some.injEq] at hm
            rcases findKeyU_run hk hp hq hfound e3 w with ⟨_, hfk⟩ | ⟨u', U, j, c, hu, hfk⟩
            · simp [Instr.lookup, hun, ← hm, run_getMap e2, plain_check hk hp hq, hfk, hZ]
            · cases c
          · cases hfound
        · cases hfound
      · cases h
  · cases h

theorem read_lenMap {c : Go.Call} {t : TypeId} {x : Operand} {i : TyE} {kt et : TypeId} (hc : c.callee = .builtin .len) (hts : c.argTypes.toList = [t]) (has : c.args.toList = [x]) (ht : tyOf P t = some i) (hi : i.desc = .map kt et)
    (ho : o.op = .call c) : ReadOK P o (lenMap (opd P x)) := by
  intro ρ nt tm a v S w hf hg hh h
  have hts := types_one hts
  have has := args_one has
  have hun := run_underlying' ht w
  rw [hi] at hun
  obtain ⟨cs, e⟩ := call_builtin (P := P) hc ho a w
  unfold lenMap at h
  split at h
  · rename_i hx
    have hx := opd_real hf hg x _ hx
    cases h
    simp only [real, Option.some.injEq] at hx
    refine ⟨_, rfl, ?_⟩
    rw [e, hts, has]
    simp [builtin, Builtin.len_, hun, ← hx, goInt]
  · rename_i r hx
    have hx := opd_real hf hg x _ hx
    split at h
    · rename_i es clock hr
      cases h
      obtain ⟨R, l, e1, e2, e3⟩ := map_obj hh hr
      simp only [real, e1, Option.map_some, Option.some.injEq] at hx
      refine ⟨_, rfl, ?_⟩
      rw [e, hts, has]
      simp [builtin, Builtin.len_, hun, ← hx, run_getMap e2, goInt, e3.1]
    · cases h
  · cases h

/-! string(bytes) -/

theorem toBytes_some : ∀ {l : List CV} {s : List Nat}, toBytes l = some s → l = s.map (fun n => CV.int .u8 (.ofNat n)) ∧ ∀ n, n ∈ s → n < 256
  | [], s, h => by simp [toBytes] at h; subst h; exact ⟨rfl, fun n hn => by cases hn⟩
  | v :: l, s, h => by
    unfold toBytes at h
    split at h
    · rename_i hv; cases hv
    · rename_i n l' hv
      cases hv
      split at h
      · rename_i s' hs
        cases hb : Nat.blt n 256 with
        | false => rw [hb] at h; cases h
        | true =>
          rw [hb, cond_true] at h
          cases h
          obtain ⟨h1, h2⟩ := toBytes_some hs
          refine ⟨by simp [h1], fun m hm => ?_⟩
          rcases List.mem_cons.1 hm with rfl | hm
          · exact blt_of hb
          · exact h2 m hm
      · cases h
    · cases h

theorem reals_bytes {ρ : Ren} : ∀ (s : List Nat), reals ρ (s.map (fun n => CV.int .u8 (.ofNat n))) = some (s.map fun n => Value.int .u8 (.ofNat n))
  | [] => rfl
  | n :: s => by rw [List.map_cons]; exact reals_cons rfl (reals_bytes s)

end
end Go.Ev

namespace Go.Ev

theorem bytesReal_some {ρ : Ren} : ∀ {l : List CV} {L : List Value} {s : List Nat}, reals ρ l = some L → toBytes l = some s → ∃ ns : List Int, L = ns.map (Value.int .u8) ∧ ns.map (fun n => UInt8.ofNat n.toNat) = s.map UInt8.ofNat
  | [], L, s, h, e => by
    simp only [reals, Option.some.injEq] at h
    simp only [toBytes, Option.some.injEq] at e
    subst h; subst e
    exact ⟨[], rfl, rfl⟩
  | v :: l, L, s, h, e => by
    simp only [reals, Option.bind_eq_some_iff, Option.map_eq_some_iff] at h
    obtain ⟨x, hx, y, hy, rfl⟩ := h
    unfold toBytes at e
    split at e
    · cases ‹_ :: _ = []›
    · rename_i n l' heq
      cases heq
      split at e
      · rename_i s' hs'
        cases hb : Nat.blt n 256 with
        | false => rw [hb] at e; cases e
        | true =>
          rw [hb, cond_true] at e
          cases e
          obtain ⟨ns, h1, h2⟩ := bytesReal_some hy hs'
          simp only [real, Option.some.injEq] at hx
          subst hx; subst h1
          exact ⟨.ofNat n :: ns, rfl, by rw [List.map_cons, List.map_cons, h2]; rfl⟩
      · cases e
    · cases e

section
variable {P : Program} {o : Oper}

theorem und_of {t : TypeId} {i : TyE} (h : tyOf P t = some i) : P.underlying t = some i.desc := by
  unfold tyOf at h
  split at h
  · cases h
  · split at h
    · cases h
    · rename_i d hd
      cases h
      exact hd

theorem read_bytesToStr {s d e : TypeId} {x : Operand} {i j k : TyE} (hs : tyOf P s = some i) (hd : tyOf P d = some j) (hi : i.desc = .slice e) (hj : j.desc = .string) (he : tyOf P e = some k) (hk : k.desc = .int .u8) (ho : o.op = .convert s d x) :
    ReadOK P o (bytesToStr (opd P x)) := by
  intro ρ nt tm a v S w hf hg hh h
  have us := und_of hs
  have ud := und_of hd
  have ue := und_of he
  rw [hi] at us
  rw [hj] at ud
  rw [hk] at ue
  unfold bytesToStr at h
  split at h
  · rename_i hx
    cases h
    have hX := opd_real hf hg x _ hx
    simp only [real, Option.some.injEq] at hX
    refine ⟨_, rfl, ?_⟩
    simp only [execOp, ho, ← hX, Sem.run_bind, run_convert_bytes_nil w s e us ue 0 0 d ud, Result.andThen_ok, Sem.run_pure]
    rfl
  · rename_i b o' n c hx
    split at h
    · rename_i cs hcs
      split at h
      · rename_i t ht
        cases h
        have hX := opd_real hf hg x _ hx
        obtain ⟨B, D, L, e1, e2, e3, e4, e5⟩ := loadN_run (P := P) hh hcs
        simp only [real, e1, Option.bind_some, Option.map_eq_some_iff] at hX
        obtain ⟨c', hc', hX⟩ := hX
        obtain ⟨ns, h1, h2⟩ := bytesReal_some e2 ht
        refine ⟨_, rfl, ?_⟩
        subst h1
        simp only [execOp, ho, ← hX, Sem.run_bind, run_convert_bytes_string w s d e _ n c' us ue ud, run_bytesToString w _ n c' ns e5, Result.andThen_ok, Sem.run_pure, foldl_push_bytes, h2]
        simp [strReal, ByteArray.empty, ByteArray.emptyWithCapacity]
        rfl
      · cases h
    · cases h
  · cases h

end
end Go.Ev

namespace Go.Ev

theorem lay_get : ∀ (vs : List CV) (t : Tr CV) (i k : Nat), i + vs.length < 281474976710655 →
    (lay t i vs).get k = if i ≤ k ∧ k < i + vs.length then vs[k - i]? else t.get k
  | [], t, i, k, h => by
    rw [if_neg (by simp only [List.length_nil]; omega)]
    rfl
  | v :: vs, t, i, k, h => by
    simp only [List.length_cons] at h
    simp only [lay, forced2_eq]
    rw [lay_get vs _ (i + 1) k (by omega)]
    by_cases h1 : i + 1 ≤ k ∧ k < i + 1 + vs.length
    · rw [if_pos h1, if_pos (by simp; omega)]
      rw [show k - i = (k - (i + 1)) + 1 by omega]
      simp
    · rw [if_neg h1]
      by_cases h2 : k = i
      · subst h2
        rw [if_pos (by simp), Tr.get_set_eq _ _ _ _ (by simp [big]; omega)]
        simp
      · rw [if_neg (by simp; omega), Tr.get_set_ne _ _ _ _ _ (Ne.symm h2)]

theorem rowOfT_rel {ρ : Ren} {cs : List CV} {L : List Value} (h : reals ρ cs = some L) (hl : cs.length < lim) (t ty : TypeId) (hty : ty ≠ 0 → t + 1 = ty) : ObjRel ρ 0 (rowOfT ty cs) (.cells L.toArray t) := by
  unfold rowOfT ObjRel
  refine ⟨fun i hi => ?_, .inl ⟨rfl, rfl⟩, hty⟩
  unfold lim at hl
  have hlen := reals_length h
  have hg := lay_get cs .leaf 0 i (by omega)
  rw [if_pos ⟨Nat.zero_le _, by omega⟩, Nat.sub_zero] at hg
  have hi' : cs[i]? = some cs[i] := List.getElem?_eq_getElem hi
  obtain ⟨V, hV, hV'⟩ := reals_get h i _ hi'
  refine ⟨cs[i], V, by rw [Nat.add_zero, hg, hi'], hV, by simpa using hV', fun _ => by simp⟩

theorem rowOf_rel {ρ : Ren} {cs : List CV} {L : List Value} (h : reals ρ cs = some L) (hl : cs.length < lim) (t : TypeId) : ObjRel ρ 0 (rowOf cs) (.cells L.toArray t) :=
  rowOfT_rel h hl t 0 (fun h => absurd rfl h)

/-- An operation that makes one block and looks at no memory. -/
def NewOK (P : Program) (o : Oper) (f : Tm → Option (CObj × (Nat → CV))) : Prop :=
  ∀ (ρ : Ren) (nt : Nat) (tm : Tm) (a : Act) (obj : CObj) (mk : Nat → CV), FrRel ρ nt tm a → Glob P ρ → f tm = some (obj, mk) →
    ∃ O, ObjRel ρ 0 obj O ∧ ∀ w : World, ∃ V, (execOp a.eval o).run P w = .ok (.value V) { w with heap := w.heap.push O } ∧
      ∀ (ρ' : Ren) (b : Nat), ρ'.b b = some (w.heap.size, 0) → real ρ' (mk b) = some V

section
variable {P : Program} {o : Oper}

theorem run_newRow (t : TypeId) (c : Array Value) (w : World) : (newRow t c).run P w = .ok ⟨w.heap.size, 0, none⟩ { w with heap := w.heap.push (.cells c t) } := rfl

theorem toArray_cells {ρ : Ren} {v : CV} {V : Value} (h : real ρ v = some V) {L : List Value} (hL : reals ρ v.cells = some L) : L.toArray = V.cells := by
  have := cells_real h
  rw [this] at hL
  cases hL
  simp

theorem new_alloc {t : TypeId} {z : CV} (hz : zeroOf P t = some z) (hl : z.cells.length < lim) (ho : o.op = .alloc t) : NewOK P o (fun _ => some (rowOfT (t + 1) z.cells, fun b => .ptr b 0)) := by
  intro ρ nt tm a obj mk hf hg h
  cases h
  obtain ⟨Z, hZ, hZ'⟩ := zeroOf_real hz (ρ := ρ) default
  refine ⟨.cells Z.cells t, ?_, fun w => ⟨.pointer (some ⟨w.heap.size, 0, none⟩), ?_, fun ρ' b hb => by simp [real, hb]⟩⟩
  · have := rowOfT_rel (cells_real hZ') hl t (t + 1) (fun _ => rfl)
    simpa using this
  · obtain ⟨Z2, hZ2, hZ2'⟩ := zeroOf_real hz (ρ := ρ) w
    rw [hZ'] at hZ2'
    cases hZ2'
    simp [execOp, ho, Instr.alloc, hZ2, newVar, run_newRow]

theorem new_box {t : TypeId} {x : Operand} (ho : o.op = .box t x) : NewOK P o (boxC (opd P x)) := by
  intro ρ nt tm a obj mk hf hg h
  unfold boxC at h
  split at h
  · rename_i v hv
    cases hl : Nat.blt v.cells.length lim with
    | false => rw [hl] at h; cases h
    | true =>
      rw [hl, cond_true] at h
      cases h
      have hv := opd_real hf hg x v hv
      refine ⟨.cells (a.eval x).cells t, ?_, fun w => ⟨.pointer (some ⟨w.heap.size, 0, none⟩), ?_, fun ρ' b hb => by simp [real, hb]⟩⟩
      · have := rowOf_rel (cells_real hv) (blt_of hl) t
        simpa using this
      · simp [execOp, ho, Instr.box, newVar, run_newRow]
  · cases h

theorem new_makeMap {t : TypeId} (ho : o.op = .makeMap t none) : NewOK P o mkMap := by
  intro ρ nt tm a obj mk hf hg h
  cases h
  refine ⟨.map #[] 0, ⟨rfl, rfl, [], rfl, rfl, fun i e h => by simp at h⟩, fun w => ⟨.map (some w.heap.size), ?_, fun ρ' b hb => by simp [real, hb]⟩⟩
  simp [execOp, ho, Instr.makeMap]

theorem new_rangeStr {t : TypeId} {x : Operand} {i : TyE} (ht : tyOf P t = some i) (hi : i.desc = .string) (ho : o.op = .range t x) : NewOK P o (rangeStr (opd P x)) := by
  intro ρ nt tm a obj mk hf hg h
  unfold rangeStr at h
  split at h
  · rename_i s hs
    cases h
    have hs := opd_real hf hg x _ hs
    simp only [real, Option.some.injEq] at hs
    refine ⟨.stringIter (strReal s) 0, ⟨rfl, rfl, rfl⟩, fun w => ⟨.pointer (some ⟨w.heap.size, 0, none⟩), ?_, fun ρ' b hb => by simp [real, hb]⟩⟩
    have hun := run_underlying' ht w
    rw [hi] at hun
    simp [execOp, ho, Instr.range, hun, ← hs]
  · cases h

theorem rep_length (zs : List CV) : ∀ n, (rep zs n).length = n * zs.length
  | 0 => by simp [rep]
  | n + 1 => by simp [rep, rep_length zs n, Nat.succ_mul]; omega

def repV (zs : List Value) : Nat → List Value
  | 0 => []
  | n + 1 => zs ++ repV zs n

theorem reals_rep {ρ : Ren} {zs : List CV} {Z : List Value} (h : reals ρ zs = some Z) : ∀ n, reals ρ (rep zs n) = some (repV Z n)
  | 0 => rfl
  | n + 1 => reals_append h (reals_rep h n)

theorem repV_get (Z : List Value) (hz : Z ≠ []) : ∀ (n i : Nat), i < n * Z.length → (repV Z n)[i]? = Z[i % Z.length]?
  | 0, i, h => by omega
  | n + 1, i, h => by
    have hp : 0 < Z.length := List.length_pos_iff.2 hz
    simp only [repV]
    by_cases hi : i < Z.length
    · rw [List.getElem?_append_left hi, Nat.mod_eq_of_lt hi]
    · rw [List.getElem?_append_right (by omega), repV_get Z hz n (i - Z.length) (by rw [Nat.succ_mul] at h; omega)]
      rw [Nat.mod_eq_sub_mod (by omega : i ≥ Z.length)]

theorem repV_length (Z : List Value) : ∀ n, (repV Z n).length = n * Z.length
  | 0 => by simp [repV]
  | n + 1 => by simp [repV, repV_length Z n, Nat.succ_mul]; omega

/-- The model's row of zeros. -/
theorem zeros_eq (Z : Array Value) (n : Nat) (hz : Z.size ≠ 0) : (Array.range (n * Z.size)).map (fun i => Z[i % Z.size]!) = (repV Z.toList n).toArray := by
  apply Array.ext'
  apply List.ext_getElem?
  intro i
  simp only [Array.toList_map, Array.toList_range, List.getElem?_map]
  by_cases hi : i < n * Z.size
  · rw [List.getElem?_range hi]
    have := repV_get Z.toList (by intro e; apply hz; rw [← Array.length_toList, e]; rfl) n i (by simpa using hi)
    rw [this]
    have hm : i % Z.size < Z.size := Nat.mod_lt _ (by omega)
    simp only [Array.length_toList, Option.map_some]
    rw [getElem!_pos Z _ hm]
    simp [hm]
  · rw [List.getElem?_eq_none (by simp; omega), List.getElem?_eq_none (by rw [repV_length]; simp; omega)]
    rfl

theorem fillC_length : ∀ (vs : List (Nat × Nat × CV)) (cells cs : List CV), fillC cells vs = some cs → cs.length = cells.length
  | [], cells, cs, h => by simp [fillC] at h; subst h; rfl
  | (off, size, v) :: vs, cells, cs, h => by
    simp only [fillC] at h
    cases hc : (Nat.beq v.cells.length size && Nat.ble (off + v.cells.length) cells.length) with
    | false => rw [hc] at h; cases h
    | true =>
      rw [hc, cond_true] at h
      rw [fillC_length vs _ cs h]
      have : ∀ (us cs : List CV) (i : Nat), (setCells cs i us).length = cs.length := by
        intro us
        induction us with
        | nil => intro cs i; rfl
        | cons u us ih => intro cs i; simp [setCells, ih]
      exact this _ _ _

theorem new_buildSlice {t : TypeId} {len : Nat} {ps : Array (Nat × Operand)} {i : TyE} {e : TypeId} {ei : TyE} {l : List (Nat × Nat × Opd)} (ht : tyOf P t = some i) (hi : i.desc = .slice e) (he : tyOf P e = some ei)
    (hl : placed P (fun i => some (i * ei.size, ei.size)) ps.toList = some l) {zs : List CV} (hz : (len * ei.size = 0 ∧ zs = []) ∨ (len * ei.size ≠ 0 ∧ len * ei.size ≤ 16777216 ∧ ∃ z, zeroOf P e = some z ∧ z.cells.length = ei.size ∧ zs = rep z.cells len))
    (ho : o.op = .buildSlice t len ps) : NewOK P o (buildSliceC len zs l) := by
  intro ρ nt tm a obj mk hf hg h
  unfold buildSliceC at h
  split at h
  · rename_i vs hvs
    split at h
    · rename_i cs hcs
      cases hlt : Nat.blt cs.length lim with
      | false => rw [hlt] at h; cases h
      | true =>
        rw [hlt, cond_true] at h
        cases h
        -- the zeros
        have key : ∃ (zc : Array Value) (Z : List Value), reals ρ zs = some Z ∧ (∀ w : World, (if len * ei.size = 0 then pure #[] else do pure (← zeroValue e).cells : Sem (Array Value)).run P w = .ok zc w) ∧
            (Array.range (len * ei.size)).map (fun i => zc[i % zc.size]!) = Z.toArray := by
          rcases hz with ⟨h0, rfl⟩ | ⟨h0, _, z, hz, hzl, rfl⟩
          · exact ⟨#[], [], rfl, fun w => by simp [h0], by simp [h0]⟩
          · obtain ⟨Z, hZ, hZ'⟩ := zeroOf_real hz (ρ := ρ) default
            have hc := cells_real hZ'
            have hlen := reals_length hc
            have hsz : Z.cells.size = ei.size := by rw [← hzl, ← hlen, Array.length_toList]
            have hne : ei.size ≠ 0 := by intro e0; rw [e0] at h0; simp at h0
            refine ⟨Z.cells, repV Z.cells.toList len, reals_rep hc len, fun w => ?_, ?_⟩
            · obtain ⟨Z2, hZ2, hZ2'⟩ := zeroOf_real hz (ρ := ρ) w
              rw [hZ'] at hZ2'
              cases hZ2'
              rw [if_neg h0]
              simp [hZ2]
            · rw [← hsz]
              exact zeros_eq Z.cells len (by omega)
        obtain ⟨zc, Z, hZ, r1, r2⟩ := key
        obtain ⟨C, hC, hC'⟩ := fill_run hf hg _ ps.toList l vs zs cs Z hl hvs hcs hZ
        refine ⟨.cells C.toArray e, rowOf_rel hC (blt_of hlt) e, fun w => ⟨.slice (some ⟨w.heap.size, 0, none⟩) len len, ?_, fun ρ' b hb => by simp [real, hb, Ren.cap]⟩⟩
        have hun := run_underlying' ht w
        rw [hi] at hun
        have hsz := run_sizeOf' he w
        have hbig : ¬ len * ei.size > 2 ^ 24 := by
          rcases hz with ⟨h0, _⟩ | ⟨_, h0, _⟩ <;> omega
        have e2 : (ps.map fun x => (x.1, a.eval x.2)).toList = ps.toList.map fun x => (x.1, a.eval x.2) := by simp
        have r1 := r1 w
        by_cases h0 : len * ei.size = 0
        · rw [if_pos h0] at r1
          simp only [Sem.run_pure, Result.ok.injEq, and_true] at r1
          subst r1
          rw [h0] at r2 hbig
          simp only [execOp, ho, Instr.buildSlice, Sem.run_bind, hun, Result.andThen_ok, hsz, h0, hbig, if_false, if_true, Sem.run_pure, e2]
          rw [r2, hC']
          simp only [Sem.run_bind, run_newRow, Result.andThen_ok, Sem.run_pure]
        · rw [if_neg h0] at r1
          simp only [Sem.run_bind, Sem.run_pure] at r1
          cases hzr : (zeroValue e).run P w with
          | halt x w' => rw [hzr] at r1; simp at r1
          | ok x w' =>
            rw [hzr] at r1
            simp only [Result.andThen_ok, Result.ok.injEq] at r1
            obtain ⟨r1, rfl⟩ := r1
            subst r1
            simp only [execOp, ho, Instr.buildSlice, Sem.run_bind, hun, Result.andThen_ok, hsz, h0, hbig, if_false, hzr, Sem.run_pure, e2]
            rw [r2, hC']
            simp only [Sem.run_bind, run_newRow, Result.andThen_ok, Sem.run_pure]
    · cases h
  · cases h

end
end Go.Ev

namespace Go.Ev

theorem Rel.has {ρ : Ren} {S : St} {w : World} (h : Rel ρ S w) : Has ρ S w := h.obj

/-- The world's heap alone counts. -/
theorem Rel.heap {ρ : Ren} {S : St} {w w' : World} (h : Rel ρ S w) (e : w'.heap = w.heap) : Rel ρ S w' :=
  ⟨fun b o hb => by rw [e]; exact h.obj b o hb, h.inj, h.fresh, h.freshk⟩

theorem Has.heap {ρ : Ren} {S : St} {w w' : World} (h : Has ρ S w) (e : w'.heap = w.heap) : Has ρ S w' :=
  fun b o hb => by rw [e]; exact h b o hb

section
variable {ρ : Ren} {S : St} {w : World}

/-- A block is written. -/
theorem Stp.write (h : Rel ρ S w) {b B D : Nat} {o : CObj} {O' : Obj} {w' : World} (hS : S.hasW b) (hb : ρ.b b = some (B, D)) (hlt : b < lim)
    (hB : w'.heap[B]? = some O') (ho : ObjRel ρ D o O') (hx : ∀ k, k ≠ B → w'.heap[k]? = w.heap[k]?) (hs : w'.heap.size = w.heap.size) (h1 : w'.os = w.os) (h2 : w'.tape = w.tape) (h3 : w'.output = w.output) :
    Stp ρ S w ρ ⟨S.heap.set big b (some o), S.next, S.nk⟩ w' := by
  have hbig : b + 1 < 2 ^ big := by unfold lim at hlt; simp [big]; omega
  have hhas : ∀ c, St.has ⟨S.heap.set big b (some o), S.next, S.nk⟩ c → S.has c := by
    rintro c ⟨o', ho'⟩
    by_cases e : b = c
    · subst e; exact hS.has
    · rw [Tr.get_set_ne _ _ _ _ _ e] at ho'
      exact ⟨o', ho'⟩
  have hhasW : ∀ c, St.hasW ⟨S.heap.set big b (some o), S.next, S.nk⟩ c → S.hasW c := by
    rintro c ⟨o', ho', hw⟩
    by_cases e : b = c
    · subst e; exact hS
    · rw [Tr.get_set_ne _ _ _ _ _ e] at ho'
      exact ⟨o', ho', hw⟩
  refine ⟨.refl ρ, ⟨?_, ?_, h.fresh, h.freshk⟩, Nat.le_refl _, Nat.le_refl _, ?_, by omega, ?_, h1, h2, h3, fun _ _ => rfl, fun c C E hc e1 _ => ⟨c, E, hhasW c hc, e1⟩⟩
  · intro c o' hc
    by_cases e : b = c
    · subst e
      rw [Tr.get_set_eq _ _ _ _ hbig] at hc
      cases hc
      exact ⟨B, D, O', hb, hB, ho⟩
    · have hc' := hc
      rw [Tr.get_set_ne _ _ _ _ _ e] at hc
      obtain ⟨C, D', O, h1, h2, h3⟩ := h.obj c o' hc
      refine ⟨C, D', O, h1, ?_, h3⟩
      rw [hx C (fun eC => ?_)]
      · exact h2
      · subst eC
        exact e (h.inj b c C D D' hS.has ⟨o', hc⟩ (.inl hS) hb h1)
  · intro c c' C E E' hc hc' hw e1 e2
    exact h.inj c c' C E E' (hhas c hc) (hhas c' hc') (hw.imp (hhasW c) (hhasW c')) e1 e2
  · intro x hx' hn
    exact hx x (fun e => hn b D hS (by rw [e]; exact hb))
  · intro c C E hc e1 _
    exact ⟨c, E, hhas c hc, e1⟩

/-- A new block is made. -/
theorem Stp.fresh (h : Rel ρ S w) {O : Obj} {o : CObj} {w' : World} {ρ' : Ren} {heap' : Tr CObj} {nk' : Nat} (hh : w'.heap = w.heap.push O) (h1 : w'.os = w.os) (h2 : w'.tape = w.tape) (h3 : w'.output = w.output)
    (hle : ρ.Le ρ') (hb : ρ'.b S.next = some (w.heap.size, 0)) (hbo : ∀ i, i ≠ S.next → ρ'.b i = ρ.b i) (hk : S.nk ≤ nk') (hkf : ∀ i, nk' ≤ i → ρ'.k i = none)
    (ho : ObjRel ρ' 0 o O) (hnew : heap'.get S.next = some o) (hold : ∀ b, b ≠ S.next → ∀ o', heap'.get b = some o' → S.heap.get b = some o') :
    Stp ρ S w ρ' ⟨heap', S.next + 1, nk'⟩ w' := by
  have hblt : ∀ b o', S.heap.get b = some o' → ∀ B D, ρ.b b = some (B, D) → B < w.heap.size := by
    intro b o' hbo B D e
    obtain ⟨C, E, O, e1, e2, _⟩ := h.obj b o' hbo
    rw [e] at e1
    cases e1
    exact (Array.getElem?_eq_some_iff.1 e2).1
  refine ⟨hle, ⟨?_, ?_, ?_, hkf⟩, by simp, hk, ?_, by rw [hh]; simp, ?_, h1, h2, h3, fun b hb => hbo b (by omega), ?_⟩
  · intro b o' hbo'
    by_cases e : b = S.next
    · subst e
      have : heap'.get S.next = some o' := hbo'
      rw [hnew] at this
      cases this
      exact ⟨_, 0, O, hb, by rw [hh]; simp, ho⟩
    · have hS := hold b e o' hbo'
      obtain ⟨B, D, O', e1, e2, e3⟩ := h.obj b o' hS
      refine ⟨B, D, O', hle.b _ _ e1, ?_, e3.mono hle⟩
      have := hblt b o' hS B D e1
      rw [hh, Array.getElem?_push_lt this, Array.getElem?_eq_getElem this] at *
      exact e2
  · rintro b b' B D D' ⟨o1, hb1⟩ ⟨o2, hb2⟩ hw e1 e2
    by_cases i1 : b = S.next <;> by_cases i2 : b' = S.next
    · rw [i1, i2]
    · subst i1
      rw [hb] at e1
      cases e1
      rw [hbo _ i2] at e2
      have := hblt b' o2 (hold b' i2 o2 hb2) _ _ e2
      omega
    · subst i2
      rw [hb] at e2
      cases e2
      rw [hbo _ i1] at e1
      have := hblt b o1 (hold b i1 o1 hb1) _ _ e1
      omega
    · rw [hbo _ i1] at e1
      rw [hbo _ i2] at e2
      exact h.inj b b' B D D' ⟨o1, hold b i1 o1 hb1⟩ ⟨o2, hold b' i2 o2 hb2⟩ (hw.imp (fun ⟨o, g, g'⟩ => ⟨o, hold b i1 o g, g'⟩) (fun ⟨o, g, g'⟩ => ⟨o, hold b' i2 o g, g'⟩)) e1 e2
  · intro b hb'
    have hb' : S.next + 1 ≤ b := hb'
    rw [hbo b (by omega)]
    exact h.fresh b (by omega)
  · intro x hx hn
    rw [hh, Array.getElem?_push_lt hx, Array.getElem?_eq_getElem hx]
  · rintro b B D ⟨o1, hb1⟩ e1 hB
    by_cases i1 : b = S.next
    · subst i1
      rw [hb] at e1
      cases e1
      omega
    · rw [hbo _ i1] at e1
      exact ⟨b, D, ⟨o1, hold b i1 o1 hb1⟩, e1⟩
  · rintro b B D ⟨o1, hb1, hw⟩ e1 hB
    by_cases i1 : b = S.next
    · subst i1
      rw [hb] at e1
      cases e1
      omega
    · rw [hbo _ i1] at e1
      exact ⟨b, D, ⟨o1, hold b i1 o1 hb1, hw⟩, e1⟩

/-- A row grows where it is; it gets a new name. -/
theorem Stp.moved (h : Rel ρ S w) {b B D D' : Nat} {o : CObj} {O' : Obj} {w' : World} {ρ' : Ren} {heap' : Tr CObj} {nk' : Nat} (hS : S.hasW b) (hbB : ρ.b b = some (B, D))
    (hB : w'.heap[B]? = some O') (hx : ∀ k, k ≠ B → w'.heap[k]? = w.heap[k]?) (hs : w'.heap.size = w.heap.size) (h1 : w'.os = w.os) (h2 : w'.tape = w.tape) (h3 : w'.output = w.output)
    (hle : ρ.Le ρ') (hb : ρ'.b S.next = some (B, D')) (hbo : ∀ i, i ≠ S.next → ρ'.b i = ρ.b i) (hk : S.nk ≤ nk') (hkf : ∀ i, nk' ≤ i → ρ'.k i = none)
    (ho : ObjRel ρ' D' o O') (hnew : heap'.get S.next = some o) (hold : ∀ c, c ≠ S.next → ∀ o', heap'.get c = some o' → S.heap.get c = some o' ∧ c ≠ b) :
    Stp ρ S w ρ' ⟨heap', S.next + 1, nk'⟩ w' := by
  refine ⟨hle, ⟨?_, ?_, ?_, hkf⟩, by simp, hk, ?_, by omega, ?_, h1, h2, h3, fun b hb => hbo b (by omega), ?_⟩
  · intro c o' hc
    by_cases e : c = S.next
    · subst e
      have : heap'.get S.next = some o' := hc
      rw [hnew] at this
      cases this
      exact ⟨_, _, O', hb, hB, ho⟩
    · obtain ⟨hc', hcb⟩ := hold c e o' hc
      obtain ⟨C, E, O, e1, e2, e3⟩ := h.obj c o' hc'
      refine ⟨C, E, O, hle.b _ _ e1, ?_, e3.mono hle⟩
      rw [hx C (fun eC => ?_)]
      · exact e2
      · subst eC
        exact hcb (h.inj c b C E D ⟨o', hc'⟩ hS.has (.inr hS) e1 hbB)
  · rintro c c' C E E' ⟨o1, hb1⟩ ⟨o2, hb2⟩ hw e1 e2
    by_cases i1 : c = S.next <;> by_cases i2 : c' = S.next
    · rw [i1, i2]
    · subst i1
      rw [hb] at e1
      cases e1
      rw [hbo _ i2] at e2
      obtain ⟨hc', hcb⟩ := hold c' i2 o2 hb2
      exact absurd (h.inj c' b B E' D ⟨o2, hc'⟩ hS.has (.inr hS) e2 hbB) hcb
    · subst i2
      rw [hb] at e2
      cases e2
      rw [hbo _ i1] at e1
      obtain ⟨hc', hcb⟩ := hold c i1 o1 hb1
      exact absurd (h.inj c b B E D ⟨o1, hc'⟩ hS.has (.inr hS) e1 hbB) hcb
    · rw [hbo _ i1] at e1
      rw [hbo _ i2] at e2
      exact h.inj c c' C E E' ⟨o1, (hold c i1 o1 hb1).1⟩ ⟨o2, (hold c' i2 o2 hb2).1⟩ (hw.imp (fun ⟨o, g, g'⟩ => ⟨o, (hold c i1 o g).1, g'⟩) (fun ⟨o, g, g'⟩ => ⟨o, (hold c' i2 o g).1, g'⟩)) e1 e2
  · intro c hc
    have hc : S.next + 1 ≤ c := hc
    rw [hbo c (by omega)]
    exact h.fresh c (by omega)
  · intro x hx' hn
    exact hx x (fun e => hn b D hS (by rw [e]; exact hbB))
  · rintro c C E ⟨o1, hb1⟩ e1 hC
    by_cases i1 : c = S.next
    · subst i1
      rw [hb] at e1
      cases e1
      exact ⟨b, D, hS.has, hbB⟩
    · rw [hbo _ i1] at e1
      exact ⟨c, E, ⟨o1, (hold c i1 o1 hb1).1⟩, e1⟩
  · rintro c C E ⟨o1, hb1, hw⟩ e1 hC
    by_cases i1 : c = S.next
    · subst i1
      rw [hb] at e1
      cases e1
      exact ⟨b, D, hS, hbB⟩
    · rw [hbo _ i1] at e1
      exact ⟨c, E, ⟨o1, (hold c i1 o1 hb1).1, hw⟩, e1⟩
end

/-! ### Cells written one by one -/

theorem setCells_row {B : Nat} {t : TypeId} {fz : Nat × Nat} : ∀ (vs : List Value) (o : Nat) (w : World) (cs : Array Value), w.heap[B]? = some (.cells cs t fz) →
    ∃ cs', (w.setCells B o vs).heap[B]? = some (.cells cs' t fz) ∧ cs'.size = cs.size ∧ (∀ j, j < o ∨ o + vs.length ≤ j → cs'[j]? = cs[j]?) ∧ (∀ j, j < vs.length → o + j < cs.size → cs'[o + j]? = vs[j]?)
  | [], o, w, cs, h => ⟨cs, h, rfl, fun _ _ => rfl, fun j hj => by simp at hj⟩
  | v :: vs, o, w, cs, h => by
    have h' : (w.setCell ⟨B, o, none⟩ v).heap[B]? = some (.cells (cs.setIfInBounds o v) t fz) := by
      simp [World.setCell, Array.getElem?_modify, h]
    obtain ⟨cs', e1, e2, e3, e4⟩ := setCells_row vs (o + 1) _ _ h'
    refine ⟨cs', e1, by simpa using e2, fun j hj => ?_, fun j hj hj' => ?_⟩
    · simp only [List.length_cons] at hj
      rw [e3 j (by omega), Array.getElem?_setIfInBounds_ne (by omega)]
    · cases j with
      | zero =>
        rw [e3 (o + 0) (by omega)]
        simp only [Nat.add_zero, List.getElem?_cons_zero]
        rw [Array.getElem?_setIfInBounds_self_of_lt (by omega)]
      | succ j =>
        have := e4 j (by simpa using hj) (by simp; omega)
        rw [show o + 1 + j = o + (j + 1) by omega] at this
        simpa using this

theorem setCells_other {B k : Nat} (h : k ≠ B) : ∀ (vs : List Value) (o : Nat) (w : World), (w.setCells B o vs).heap[k]? = w.heap[k]?
  | [], _, _ => rfl
  | v :: vs, o, w => by
    rw [World.setCells, setCells_other h vs]
    simp [World.setCell, Array.getElem?_modify, Ne.symm h]

theorem setCells_size {B : Nat} : ∀ (vs : List Value) (o : Nat) (w : World), (w.setCells B o vs).heap.size = w.heap.size
  | [], _, _ => rfl
  | v :: vs, o, w => by rw [World.setCells, setCells_size vs]; simp

theorem setCells_rest {B : Nat} : ∀ (vs : List Value) (o : Nat) (w : World), (w.setCells B o vs).os = w.os ∧ (w.setCells B o vs).tape = w.tape ∧ (w.setCells B o vs).output = w.output
  | [], _, _ => ⟨rfl, rfl, rfl⟩
  | v :: vs, o, w => by rw [World.setCells]; exact setCells_rest vs _ _

theorem plain_one {ρ : Ren} : ∀ {vs : List CV} {L : List Value}, plainCells vs = true → reals ρ vs = some L → ∀ v ∈ L, v.oneCell' = true
  | [], L, _, h, v, hv => by simp [reals] at h; subst h; cases hv
  | u :: vs, L, hp, h, v, hv => by
    simp only [reals, Option.bind_eq_some_iff, Option.map_eq_some_iff] at h
    obtain ⟨U, hU, L', hL', rfl⟩ := h
    have hp' : plainCells vs = true := by cases u <;> simp_all [plainCells]
    rcases List.mem_cons.1 hv with rfl | hv
    · cases u <;> simp only [plainCells, Bool.false_eq_true] at hp <;> simp only [real, Option.some.injEq, Option.map_eq_some_iff, Option.bind_eq_some_iff] at hU
      all_goals (first | (subst hU; rfl) | (obtain ⟨_, _, rfl⟩ := hU; rfl) | (obtain ⟨a, _, rfl⟩ := hU; cases a <;> rfl) | (obtain ⟨_, _, _, _, rfl⟩ := hU; rfl))
    · exact plain_one hp' hL' v hv

section
variable {P : Program} {ρ : Ren} {S : St} {w : World}

/-- A store. -/
theorem storeN_run (h : Rel ρ S w) {b o : Nat} {vs : List CV} {L : List Value} {S' : St} (hs : storeN S b o vs = some S') (hv : reals ρ vs = some L) (hp : plainCells vs = true) :
    ∃ B D, ρ.b b = some (B, D) ∧ (∀ w' : World, w'.heap = w.heap → (storeCells ⟨B, o + D, none⟩ L).run P w' = .ok () (w'.setCells B (o + D) L)) ∧ Stp ρ S w ρ S' (w.setCells B (o + D) L) := by
  obtain ⟨hp0, nx, nk⟩ := S
  simp only [storeN] at hs
  split at hs
  · rename_i c sh hi id sz ty hb
    cases hc : (Nat.ble (o + vs.length) hi && Nat.blt (hi + sh) lim && Nat.blt b lim) with
    | false => rw [hc] at hs; cases hs
    | true =>
      rw [hc, cond_true] at hs
      cases hs
      simp only [Bool.and_eq_true] at hc
      obtain ⟨⟨hc1, hc2⟩, hc3⟩ := hc
      have hc1 := ble_of hc1
      have hc2 := blt_of hc2
      have hc3 := blt_of hc3
      have hlen := reals_length hv
      obtain ⟨B, D, O, h1, h2, h3⟩ := h.obj b _ hb
      cases O with
      | cells cs t fz =>
        obtain ⟨h3, h4, h5⟩ := h3
        refine ⟨B, D, h1, fun w' hw' => ?_, ?_⟩
        · have hcell : ∀ j, j < L.length → (w'.cell? ⟨B, o + D + 0 + j, none⟩).isSome = true ∧ w'.frozen? ⟨B, o + D + 0 + j, none⟩ = false := by
            intro j hj
            obtain ⟨v, V, _, _, e3, e4⟩ := h3 (o + j) (by omega)
            have e4 := e4 rfl
            have e5 : o + D + 0 + j = o + j + D := by omega
            rw [e5]
            refine ⟨by simp [World.cell?, hw', h2, e3], ?_⟩
            obtain ⟨lo, up⟩ := fz
            simp only [World.frozen?, hw', h2]
            simp only [not_and] at e4
            by_cases hl : lo ≤ o + j + D
            · have := e4 hl
              simp [hl]; omega
            · simp [hl]
          have := run_storeCells_cells (P := P) B (o + D) L 0 w' (fun j hj => (hcell j hj).1) (fun j hj => (hcell j hj).2) (plain_one hp hv)
          simpa using this
        · obtain ⟨cs', e1, e2, e3, e4⟩ := setCells_row L (o + D) w cs h2
          obtain ⟨g1, g2, g3⟩ := setCells_rest (B := B) L (o + D) w
          refine Stp.write h ⟨_, hb, rfl⟩ h1 hc3 e1 ?_ (fun k hk => setCells_other hk L _ w) (setCells_size L _ w) g1 g2 g3
          refine ⟨fun i hi' => ?_, ?_, h5⟩
          · obtain ⟨v, V, a1, a2, a3, a4⟩ := h3 i hi'
            have hsz : i + D < cs.size := (Array.getElem?_eq_some_iff.1 a3).1
            have hg := lay_get vs c (o + sh) (i + sh) (by unfold lim at hc2; omega)
            by_cases hin : o ≤ i ∧ i < o + vs.length
            · rw [if_pos (by omega), show i + sh - (o + sh) = i - o by omega] at hg
              obtain ⟨u, hu⟩ : ∃ u, vs[i - o]? = some u := ⟨vs[i - o]'(by omega), List.getElem?_eq_getElem (by omega)⟩
              obtain ⟨U, hU, hU'⟩ := reals_get hv _ _ hu
              refine ⟨u, U, by rw [hg, hu], hU, ?_, a4⟩
              have := e4 (i - o) (by omega) (by omega)
              rw [show o + D + (i - o) = i + D by omega, hU'] at this
              exact this
            · rw [if_neg (by omega)] at hg
              exact ⟨v, V, by rw [hg, a1], a2, by rw [e3 _ (by omega)]; exact a3, a4⟩
          · rcases h4 with h4 | ⟨hz, x, hx, h4⟩
            · exact .inl h4
            · refine .inr ⟨hz, x, hx, fun j hj => ?_⟩
              obtain ⟨⟨V, hV⟩, hf⟩ := h4 j hj
              exact ⟨⟨V, by rw [e3 _ (by omega)]; exact hV⟩, hf⟩
      | _ => exact h3.elim
  · cases hs
end

end Go.Ev

namespace Go.Ev

/-- A deferred call that does nothing where there is no panic. -/
def IdleD (P : Program) (d : Deferred) : Prop :=
  ∃ fv cap f args, d.target = .fn fv cap ∧ (∀ w, (invoke d.target d.args).run P w = .ok (.enter f args) w) ∧ ∀ w, CallsD P f args .returning w fun e u' w' => (∃ v, e = .returned v) ∧ u' = .returning ∧ w' = w

/-- More deferred calls, all idle. -/
def IdleExt (P : Program) (l l' : List Deferred) : Prop := ∃ m, l' = m ++ l ∧ ∀ d, d ∈ m → IdleD P d

theorem IdleExt.refl {P : Program} (l : List Deferred) : IdleExt P l l := ⟨[], rfl, fun d h => by cases h⟩
theorem IdleExt.of {P : Program} {l l' : List Deferred} (h : l' = l) : IdleExt P l l' := by subst h; exact .refl _
theorem IdleExt.trans {P : Program} {l l' l'' : List Deferred} (h : IdleExt P l l') (h' : IdleExt P l' l'') : IdleExt P l l'' := by
  obtain ⟨m, rfl, hm⟩ := h
  obtain ⟨m', rfl, hm'⟩ := h'
  refine ⟨m' ++ m, by simp, fun d hd => ?_⟩
  rcases List.mem_append.1 hd with h | h
  · exact hm' d h
  · exact hm d h
theorem IdleExt.cons {P : Program} {l : List Deferred} {d : Deferred} (h : IdleD P d) : IdleExt P l (d :: l) := ⟨[d], rfl, fun e he => by simp at he; subst he; exact h⟩

/-- An operation that changes the state. -/
def ChainOK (P : Program) (o : Oper) (f : Tm → St → Option (ORes × St)) : Prop :=
  ∀ (ρ : Ren) (nt : Nat) (tm : Tm) (a : Act) (r : ORes) (S S' : St) (w : World), FrRel ρ nt tm a → Glob P ρ → Rel ρ S w → f tm S = some (r, S') →
    match r with
    | .val v => ∃ ρ' w' V, Stp ρ S w ρ' S' w' ∧ real ρ' v = some V ∧ (execOp a.eval o).run P w = .ok (.value V) w'
    | .undef => ∃ ρ' w', Stp ρ S w ρ' S' w' ∧ ((execOp a.eval o).run P w = .ok .skip w' ∨ ∃ d, IdleD P d ∧ (execOp a.eval o).run P w = .ok (.defer d) w')
    | .call f args => S' = S ∧ ∃ L, reals ρ args = some L ∧ (execOp a.eval o).run P w = (callFunc f L.toArray).run P w

section
variable {P : Program} {o : Oper}

theorem chain_store {t : TypeId} {x y : Operand} {i : TyE} (ht : tyOf P t = some i) (ho : o.op = .store t x y) : ChainOK P o (storeR i.size (opd P x) (opd P y)) := by
  intro ρ nt tm a r S S' w hf hg hr h
  unfold storeR at h
  split at h
  · rename_i p v hp hv
    have hp := opd_real hf hg x p hp
    have hv := opd_real hf hg y v hv
    cases hs : storeC i.size p v S with
    | none => rw [hs] at h; simp [unitO] at h
    | some S1 =>
      rw [hs] at h
      simp only [unitO, Option.some.injEq, Prod.mk.injEq] at h
      obtain ⟨rfl, rfl⟩ := h
      unfold storeC at hs
      split at hs
      · rename_i b off
        cases hc : (Nat.beq v.cells.length i.size && plainCells v.cells) with
        | false => rw [hc] at hs; cases hs
        | true =>
          rw [hc, cond_true] at hs
          simp only [Bool.and_eq_true] at hc
          have hlen := beq_of hc.1
          have hcr := cells_real hv
          have hl2 := reals_length hcr
          obtain ⟨B, D, h1, h2, h3⟩ := storeN_run (P := P) hr hs hcr hc.2
          simp only [real, h1, Option.map_some, Option.some.injEq] at hp
          refine ⟨ρ, _, h3, .inl ?_⟩
          have h2 := h2 w rfl
          have hsz : (a.eval y).cells.size = i.size := by rw [← hlen, ← hl2, Array.length_toList]
          simp [execOp, ho, Instr.storeAt, Instr.sureAddr, ← hp, storeVar, run_sizeOf' ht w, hsz, h2]
      · cases hs
  · cases h

/-! Maps. -/

theorem one_bits {ρ : Ren} {k : CV} {K : Value} (hp : (∃ d, plainOne d k = true) ∨ ∃ e, plainCell e k = true) (hK : real ρ k = some K) (n : Nat) : Instr.sameBits n K K = true := by
  cases k with
  | bool b => simp only [real, Option.some.injEq] at hK; subst hK; simp [Instr.sameBits]
  | int q m => simp only [real, Option.some.injEq] at hK; subst hK; simp [Instr.sameBits]
  | str t =>
    simp only [real, Option.some.injEq] at hK
    subst hK
    simp only [Instr.sameBits]
    rw [bytes_beq]
    simp
  | _ => rcases hp with ⟨d, hp⟩ | ⟨e, hp⟩ <;> first | (cases d <;> simp [plainOne] at hp; done) | (cases e <;> simp [plainCell] at hp; done)

theorem cells_bits {ρ : Ren} (n : Nat) : ∀ (l : List (Nat × Nat × Bool × EqT)) (i : Nat) (xs : List CV) (L : List Value), plainParts i l xs = true → reals ρ xs = some L → (L.zip L).all (fun (x, y) => Instr.sameBits n x y) = true
  | [], i, [], L, _, h => by
    simp only [reals, Option.some.injEq] at h
    subst h
    rfl
  | [], i, x :: xs, L, hp, h => by simp [plainParts] at hp
  | _ :: _, i, [], L, hp, h => by simp [plainParts] at hp
  | (o, s, g, e) :: l, i, x :: xs, L, hp, h => by
    simp only [plainParts, Bool.and_eq_true] at hp
    simp only [reals, Option.bind_eq_some_iff, Option.map_eq_some_iff] at h
    obtain ⟨X, hX, LX, hLX, rfl⟩ := h
    simp only [List.zip_cons_cons, List.all_cons, Bool.and_eq_true]
    exact ⟨one_bits (.inr ⟨e, hp.1.2⟩) hX n, cells_bits n l (i + 1) xs LX hp.2 hLX⟩

theorem keyEq_bits {ρ : Ren} {q : KeyT} {k k' : CV} {K K' : Value} (hp : plainKey q k = true) (h : keyEq k k' = some true) (hK : real ρ k = some K) (hK' : real ρ k' = some K') :
    Instr.sameBits 10000 K' K = true := by
  obtain rfl := keyEq_eq h
  rw [hK] at hK'
  cases hK'
  cases q with
  | one d => exact one_bits (.inl ⟨d, hp⟩) hK 10000
  | parts l =>
    cases k <;> simp only [plainKey, Bool.false_eq_true] at hp
    rename_i xs
    simp only [real, Option.map_eq_some_iff] at hK
    obtain ⟨LX, hX, rfl⟩ := hK
    have := cells_bits 9999 l 0 xs LX hp hX
    simp only [Instr.sameBits, Bool.and_eq_true]
    exact ⟨by simp, by simpa using this⟩
  | no => simp [plainKey] at hp

theorem Ents.cons {ρ : Ren} {e : CV × CV × Nat} {es : List (CV × CV × Nat)} {e' : Value × Value × Nat} {l : List (Value × Value × Nat)} (h : Ents ρ es l)
    (h1 : real ρ e.1 = some e'.1) (h2 : real ρ e.2.1 = some e'.2.1) (h3 : e.2.2 = e'.2.2) : Ents ρ (e :: es) (e' :: l) := by
  refine ⟨by simp [h.1], fun i x hx => ?_⟩
  cases i with
  | zero =>
    simp only [List.getElem?_cons_zero, Option.some.injEq] at hx
    subst hx
    exact ⟨e', by simp, h1, h2, h3⟩
  | succ i => simpa using h.2 i x (by simpa using hx)

theorem upd_run {ρ : Ren} {kt : TypeId} {ki : TyE} (hk : tyOf P kt = some ki) {k v : CV} {K V : Value} (hp : plainKey (keyTy P kt ki.desc) k = true) (hK : real ρ k = some K) (hV : real ρ v = some V) : ∀ (es : List (CV × CV × Nat)) (l : List (Value × Value × Nat)) (u : CV),
    find k es = some (some u) → Ents ρ es l →
    ∃ i U e', l[i]? = some e' ∧ HitAt P kt ki.desc K (l.map entryOf) i U ∧ Instr.sameBits 10000 e'.1 K = true ∧ Ents ρ (upd k v es) (l.set i (K, V, e'.2.2))
  | [], l, u, h, he => by simp [find] at h
  | (k', v', b) :: es, l, u, h, he => by
    obtain ⟨e', l', rfl, a1, a2, a3, he'⟩ := he.tail
    simp only [find] at h
    split at h
    · rename_i hq
      refine ⟨0, e'.2.1, e', rfl, HitAt.zero (x := entryOf e') (keyEq_some hk hp hq hK a1), keyEq_bits hp hq hK a1, ?_⟩
      simp only [upd, hq, List.set_cons_zero]
      exact he'.cons hK hV a3
    · rename_i hq
      obtain ⟨i, U, e2, b1, b2, b3, b4⟩ := upd_run hk hp hK hV es l' u h he'
      refine ⟨i + 1, U, e2, by simpa using b1, HitAt.succ (y := entryOf e') (keyEq_some hk hp hq hK a1) b2, b3, ?_⟩
      simp only [upd, hq, List.set_cons_succ]
      exact b4.cons a1 a2 a3
    · cases h

theorem Ents.push {ρ : Ren} {k v : CV} {K V : Value} (hK : real ρ k = some K) (hV : real ρ v = some V) (n : Nat) : ∀ {es : List (CV × CV × Nat)} {l : List (Value × Value × Nat)}, Ents ρ es l → Ents ρ (es ++ [(k, v, n)]) (l ++ [(K, V, n)])
  | [], l, h => by
    have : l = [] := List.length_eq_zero_iff.1 h.1
    subst this
    exact Ents.cons (by simpa using h) hK hV rfl
  | e :: es, l, h => by
    obtain ⟨e', l', rfl, a1, a2, a3, he'⟩ := h.tail
    exact (Ents.push hK hV n he').cons a1 a2 a3

theorem Ents.obj {ρ : Ren} {es : List (CV × CV × Nat)} {l : List (Value × Value × Nat)} (h : Ents ρ es l) (clock : Nat) : ObjRel ρ 0 (.map es clock) (.map (l.map entryOf).toArray clock) :=
  ⟨rfl, rfl, l, by simp [entryOf], h.1, h.2⟩

theorem run_setMap {w : World} {R : Nat} {es es' : Array MapEntry} {clock clock' : Nat} (h : w.heap[R]? = some (.map es clock)) :
    (setObj R (.map es' clock')).run P w = .ok () { w with heap := w.heap.setIfInBounds R (.map es' clock') } := by
  simp [setObj, Sem.run, h]

theorem Stp.setObj {ρ : Ren} {S : St} {w : World} (h : Rel ρ S w) {b R : Nat} {o o' : CObj} {O O' : Obj} (hS : S.heap.get b = some o) (hb : ρ.b b = some (R, 0)) (hlt : b < lim) (hR : w.heap[R]? = some O) (ho : ObjRel ρ 0 o' O') (hw : o.wr = true := by rfl) :
    Stp ρ S w ρ ⟨S.heap.set big b (some o'), S.next, S.nk⟩ { w with heap := w.heap.setIfInBounds R O' } := by
  have hlt' := (Array.getElem?_eq_some_iff.1 hR).1
  refine Stp.write h ⟨o, hS, hw⟩ hb hlt ?_ ho (fun k hk => ?_) (by simp) rfl rfl rfl
  · show (w.heap.setIfInBounds R O')[R]? = _
    rw [Array.getElem?_setIfInBounds_self_of_lt hlt']
  · show (w.heap.setIfInBounds R O')[k]? = _
    rw [Array.getElem?_setIfInBounds_ne (Ne.symm hk)]

theorem chain_mapUpdate {t : TypeId} {m k x : Operand} {i : TyE} {kt et : TypeId} {ki : TyE} (ht : tyOf P t = some i) (hi : i.desc = .map kt et) (hk : tyOf P kt = some ki)
    (ho : o.op = .mapUpdate t m k x ∨ o.op = .insert t m k x) : ChainOK P o (mapUpdateR (keyTy P kt ki.desc) (opd P m) (opd P k) (opd P x)) := by
  intro ρ nt tm a r S S' w hf hg hr h
  obtain ⟨hp0, nx, nk⟩ := S
  unfold mapUpdateR at h
  split at h
  · rename_i m' k' v hm hq hv
    have hm := opd_real hf hg m m' hm
    have hq := opd_real hf hg k k' hq
    have hv := opd_real hf hg x v hv
    cases hs : mapUpdateC (keyTy P kt ki.desc) m' k' v ⟨hp0, nx, nk⟩ with
    | none => rw [hs] at h; simp [unitO] at h
    | some S1 =>
      rw [hs] at h
      simp only [unitO, Option.some.injEq, Prod.mk.injEq] at h
      obtain ⟨rfl, rfl⟩ := h
      unfold mapUpdateC at hs
      cases hp : plainKey (keyTy P kt ki.desc) k' with
      | false => rw [hp] at hs; cases hs
      | true =>
        rw [hp, cond_true] at hs
        have hun := run_underlying' ht w
        rw [hi] at hun
        have hex : (execOp a.eval o).run P w = ((Instr.mapUpdate t (a.eval m) (a.eval k) (a.eval x)).run P w).andThen (fun _ w' => .ok .skip w') := by
          rcases ho with ho | ho <;> simp [execOp, ho]
        obtain ⟨R0, rfl⟩ : ∃ r, m' = .map r := by cases m' <;> first | exact ⟨_, rfl⟩ | cases hs
        · simp only at hs
          split at hs
          · rename_i es clock hes
            obtain ⟨R, l, e1, e2, e3⟩ := map_obj hr.has hes
            simp only [real, e1, Option.map_some, Option.some.injEq] at hm
            have hun' := run_underlying' hk w
            split at hs
            · -- there is one
              rename_i u hfound
              cases hlt : Nat.blt R0 lim with
              | false => rw [hlt] at hs; cases hs
              | true =>
                rw [hlt, cond_true] at hs
                cases hs
                obtain ⟨j, U, e', b1, b2, b3, b4⟩ := upd_run hk hp hq hv es l u hfound e3
                have b2 := b2.run (fun w => run_underlying' (P := P) hk w) w
                refine ⟨ρ, _, Stp.setObj hr hes e1 (blt_of hlt) e2 (b4.obj clock), .inl ?_⟩
                have hmod : ((l.map entryOf).toArray.modify j fun e => { e with key := a.eval k, val := a.eval x }) = ((l.set j (a.eval k, a.eval x, e'.2.2)).map entryOf).toArray := by
                  apply Array.ext'
                  apply List.ext_getElem?
                  intro q
                  rw [Array.toList_modify, List.getElem?_modify, List.getElem?_map, List.getElem?_map, List.getElem?_set]
                  by_cases hjq : j = q
                  · subst hjq
                    have hlt := (List.getElem?_eq_some_iff.1 b1).1
                    rw [if_pos rfl, if_pos hlt, b1]
                    simp [entryOf]
                  · rw [if_neg hjq]
                    cases l[q]? <;> simp [hjq]
                have hke : ((((l.map entryOf).toArray[j]?).map (·.key)).getD (a.eval k)) = e'.1 := by simp [b1, entryOf]
                rw [hex]
                simp only [Instr.mapUpdate, Sem.run_bind, hun, Result.andThen_ok, ← hm, run_getMap e2, plain_check hk hp hq, List.toList_toArray, b2, Sem.run_pure]
                rw [hke]
                simp only [Instr.keyThatStays, b3, if_true, Sem.run_pure, Result.andThen_ok]
                rw [hmod, run_setMap e2]
                rfl
            · rename_i hfound
              cases hlt : Nat.blt R0 lim with
              | false => rw [hlt] at hs; cases hs
              | true =>
                rw [hlt, cond_true] at hs
                cases hs
                rcases find_run hk hp hq es l none hfound e3 with ⟨_, b2⟩ | ⟨_, _, _, c, _⟩
                · have b2 := b2.run (fun w => run_underlying' (P := P) hk w) w
                  refine ⟨ρ, _, Stp.setObj hr hes e1 (blt_of hlt) e2 ((e3.push hq hv clock).obj (clock + 1)), .inl ?_⟩
                  have hpush : (l.map entryOf).toArray.push { key := a.eval k, val := a.eval x, born := clock } = ((l ++ [(a.eval k, a.eval x, clock)]).map entryOf).toArray := by
                    apply Array.ext'
                    simp [entryOf]
                  rw [hex]
                  simp only [Instr.mapUpdate, Sem.run_bind, hun, Result.andThen_ok, ← hm, run_getMap e2, plain_check hk hp hq, List.toList_toArray, b2, Sem.run_pure]
                  rw [hpush, run_setMap e2]
                  rfl
                · cases c
            · cases hs
          · cases hs
  · cases h

/-! The string's iterator. -/

theorem run_setIter {w : World} {R : Nat} {s s' : ByteArray} {p p' : Nat} (h : w.heap[R]? = some (.stringIter s p)) :
    (setObj R (.stringIter s' p')).run P w = .ok () { w with heap := w.heap.setIfInBounds R (.stringIter s' p') } := by
  simp [setObj, Sem.run, h]

theorem chain_callC {c : Go.Call} {f : Operand} (hc : c.callee = .value f) (ho : o.op = .call c) : ChainOK P o (callC (opd P f) (opds P c.args.toList)) := by
  intro ρ nt tm a r S S' w hf hg hr h
  unfold callC at h
  split at h
  · rename_i g fi ca hq
    have hq := opd_real hf hg f _ hq
    split at h
    · rename_i args hargs
      have hargs := opds_real hf hg _ _ hargs
      cases h
      simp only [real, Option.bind_eq_some_iff, Option.map_eq_some_iff] at hq
      obtain ⟨FI, hFI, CA, hCA, hq⟩ := hq
      refine ⟨rfl, FI ++ c.args.toList.map a.eval ++ CA, ?_, ?_⟩
      · have := reals_append hFI (reals_append hargs hCA)
        rwa [← List.append_assoc, ← List.append_assoc] at this
      · simp only [execOp, ho, resolve, hc, Sem.run_bind, Sem.run_pure, Result.andThen_ok]
        rw [← hq]
        simp only [Deferred.ofValue, Sem.run_pure, Result.andThen_ok, invoke]
        congr 2
        apply Array.ext'
        simp
    · cases h
  · cases h

theorem chain_defer {c : Go.Call} {f : Operand} (hc : c.callee = .value f) (has : c.args.toList = []) (ho : o.op = .defer c) : ChainOK P o (deferR (idleFn P) (opd P f)) := by
  intro ρ nt tm a r S S' w hf hg hr h
  unfold deferR at h
  split at h
  · rename_i g fi ca hq
    have hq := opd_real hf hg f _ hq
    cases hi : idleFn P g with
    | false => rw [hi] at h; cases h
    | true =>
      rw [hi, cond_true] at h
      cases h
      simp only [real, Option.bind_eq_some_iff, Option.map_eq_some_iff] at hq
      obtain ⟨FI, hFI, CA, hCA, hq⟩ := hq
      have has : c.args = #[] := by apply Array.ext'; simpa using has
      have hid := fun args w => (idle_sound (P := P) hi args w).1
      have hen := (idle_sound (P := P) hi #[] w).2
      refine ⟨ρ, w, Stp.refl hr, .inr ⟨{ target := .fn (.func g) CA.toArray, args := FI.toArray ++ c.args.map a.eval }, ⟨.func g, CA.toArray, g, FI.toArray ++ c.args.map a.eval ++ CA.toArray, rfl, fun w => ?_, fun w => hid _ w⟩, ?_⟩⟩
      · simp only [invoke]
        exact hen _ w
      · simp only [execOp, ho, resolve, hc, Sem.run_bind, Sem.run_pure, Result.andThen_ok]
        rw [← hq]
        simp only [Deferred.ofValue, Sem.run_pure, Result.andThen_ok]
  · cases h

end
end Go.Ev

namespace Go.Ev

section
variable {P : Program} {o : Oper}

theorem entry_run {ρ : Ren} {kt : TypeId} {ki : TyE} (hk : tyOf P kt = some ki) {k : CV} {K : Value} (hp : plainKey (keyTy P kt ki.desc) k = true) (hK : real ρ k = some K) : ∀ (es : List (CV × CV × Nat)) (l : List (Value × Value × Nat)) (u : CV),
    find k es = some (some u) → Ents ρ es l →
    ∃ i e', l[i]? = some e' ∧ HitAt P kt ki.desc K (l.map entryOf) i e'.2.1 ∧ real ρ u = some e'.2.1 ∧ Instr.sameBits 10000 e'.1 K = true ∧ e'.2.2 = stampOf k es ∧ Ents ρ (upd k u es) (l.set i (K, e'.2.1, e'.2.2))
  | [], l, u, h, he => by simp [find] at h
  | (k', v', b) :: es, l, u, h, he => by
    obtain ⟨e', l', rfl, a1, a2, a3, he'⟩ := he.tail
    simp only [find] at h
    split at h
    · rename_i hq
      cases h
      refine ⟨0, e', rfl, HitAt.zero (x := entryOf e') (keyEq_some hk hp hq hK a1), a2, keyEq_bits hp hq hK a1, by simp only [stampOf, hq]; exact a3.symm, ?_⟩
      simp only [upd, hq, List.set_cons_zero]
      exact he'.cons hK a2 a3
    · rename_i hq
      obtain ⟨i, e2, b1, b2, b3, b4, b5, b6⟩ := entry_run hk hp hK es l' u h he'
      refine ⟨i + 1, e2, by simpa using b1, HitAt.succ (y := entryOf e') (keyEq_some hk hp hq hK a1) b2, b3, b4, by simp only [stampOf, hq]; exact b5, ?_⟩
      simp only [upd, hq, List.set_cons_succ]
      exact b6.cons a1 a2 a3
    · cases h

theorem stamp_run {ρ : Ren} {v : CV} {V : Value} (hV : real ρ v = some V) {n : Nat} : ∀ (es es' : List (CV × CV × Nat)) (l : List (Value × Value × Nat)),
    setStamp n v es = some es' → Ents ρ es l →
    ∃ i e', l[i]? = some e' ∧ (l.map entryOf).findIdx? (fun e => (e.born : Int) == (n : Int)) = some i ∧ Ents ρ es' (l.set i (e'.1, V, e'.2.2))
  | [], es', l, h, he => by simp [setStamp] at h
  | (k, u, t) :: es, es', l, h, he => by
    obtain ⟨e', l', rfl, a1, a2, a3, he'⟩ := he.tail
    simp only [setStamp] at h
    cases hb : Nat.beq t n with
    | true =>
      rw [hb, cond_true] at h
      cases h
      have := Nat.eq_of_beq_eq_true hb
      subst this
      refine ⟨0, e', rfl, ?_, ?_⟩
      · rw [List.map_cons, List.findIdx?_cons, if_pos (by simp only [entryOf]; rw [← a3]; simp)]
      · simp only [List.set_cons_zero]
        exact he'.cons a1 hV a3
    | false =>
      rw [hb, cond_false] at h
      have hne : t ≠ n := fun e => by rw [e, Nat.beq_refl] at hb; cases hb
      split at h
      · rename_i es2 hs
        cases h
        obtain ⟨i, e2, b1, b2, b3⟩ := stamp_run hV es es2 l' hs he'
        refine ⟨i + 1, e2, by simpa using b1, ?_, ?_⟩
        · rw [List.map_cons, List.findIdx?_cons, if_neg (by simp only [entryOf]; rw [← a3]; simp only [beq_iff_eq]; omega), b2]
          rfl
        · simp only [List.set_cons_succ]
          exact b3.cons a1 a2 a3
      · cases h

theorem chain_mapEntry {t : TypeId} {m k : Operand} {i : TyE} {kt et : TypeId} {ki : TyE} {z : CV} (ht : tyOf P t = some i) (hi : i.desc = .map kt et) (hk : tyOf P kt = some ki) (hz : zeroOf P et = some z)
    (ho : o.op = .mapEntry t m k) : ChainOK P o (mapEntryR (keyTy P kt ki.desc) z (opd P m) (opd P k)) := by
  intro ρ nt tm a r S S' w hf hg hr h
  obtain ⟨hp0, nx, nk⟩ := S
  unfold mapEntryR at h
  split at h
  · rename_i S0 R0 k' h0 nx0 nk0 hm hq hS
    cases hS
    have hm := opd_real hf hg m _ hm
    have hq := opd_real hf hg k k' hq
    cases hp : plainKey (keyTy P kt ki.desc) k' with
    | false => rw [hp] at h; cases h
    | true =>
      rw [hp, cond_true] at h
      have hun := run_underlying' ht w
      rw [hi] at hun
      have hun' := run_underlying' hk w
      obtain ⟨Z, hZ, hZ'⟩ := zeroOf_real hz (ρ := ρ) w
      have hex : (execOp a.eval o).run P w = ((Instr.mapEntry t (a.eval m) (a.eval k)).run P w).andThen (fun V w' => .ok (.value V) w') := by
        simp [execOp, ho]
      split at h
      · rename_i es clock hes
        obtain ⟨R, l, e1, e2, e3⟩ := map_obj hr.has hes
        simp only [real, e1, Option.map_some, Option.some.injEq] at hm
        split at h
        · -- there is one
          rename_i u hfound
          cases hlt : Nat.blt R0 lim with
          | false => rw [hlt] at h; cases h
          | true =>
            rw [hlt, cond_true] at h
            simp only [Option.some.injEq, Prod.mk.injEq] at h
            obtain ⟨rfl, rfl⟩ := h
            obtain ⟨j, e', b1, b2, b3, b4, b5, b6⟩ := entry_run hk hp hq es l u hfound e3
            have b2 := b2.run (fun w => run_underlying' (P := P) hk w) w
            have hmod : ((l.map entryOf).toArray.modify j fun e => { e with key := a.eval k }) = ((l.set j (a.eval k, e'.2.1, e'.2.2)).map entryOf).toArray := by
              apply Array.ext'
              apply List.ext_getElem?
              intro q
              rw [Array.toList_modify, List.getElem?_modify, List.getElem?_map, List.getElem?_map, List.getElem?_set]
              by_cases hjq : j = q
              · subst hjq
                have hlt := (List.getElem?_eq_some_iff.1 b1).1
                rw [if_pos rfl, if_pos hlt, b1]
                simp [entryOf]
              · rw [if_neg hjq]
                cases l[q]? <;> simp [hjq]
            have hke : ((((l.map entryOf).toArray[j]?).map (·.key)).getD (a.eval k)) = e'.1 := by simp [b1, entryOf]
            have hbo : ((((l.map entryOf).toArray[j]?).map (fun x => (x.born : Int))).getD 0) = (e'.2.2 : Int) := by simp [b1, entryOf]
            refine ⟨ρ, _, .tuple #[e'.2.1, .int .i64 (stampOf k' es)], Stp.setObj hr hes e1 (blt_of hlt) e2 (b6.obj clock), by simp [real, reals, b3], ?_⟩
            rw [hex]
            simp only [Instr.mapEntry, Sem.run_bind, hun, Result.andThen_ok, ← hm, run_getMap e2, plain_check hk hp hq, List.toList_toArray, b2, Sem.run_pure]
            rw [hke, hbo]
            simp only [Instr.keyThatStays, b4, if_true, Sem.run_pure, Result.andThen_ok]
            rw [hmod, run_setMap e2]
            simp only [Result.andThen_ok, goInt, b5]
        · rename_i hfound
          cases hlt : Nat.blt R0 lim with
          | false => rw [hlt] at h; cases h
          | true =>
            rw [hlt, cond_true] at h
            simp only [Option.some.injEq, Prod.mk.injEq] at h
            obtain ⟨rfl, rfl⟩ := h
            rcases find_run hk hp hq es l none hfound e3 with ⟨_, b2⟩ | ⟨_, _, _, c, _⟩
            · have b2 := b2.run (fun w => run_underlying' (P := P) hk w) w
              have hpush : (l.map entryOf).toArray.push { key := a.eval k, val := Z, born := clock } = ((l ++ [(a.eval k, Z, clock)]).map entryOf).toArray := by
                apply Array.ext'
                simp [entryOf]
              refine ⟨ρ, _, .tuple #[Z, .int .i64 clock], Stp.setObj hr hes e1 (blt_of hlt) e2 ((e3.push hq hZ' clock).obj (clock + 1)), by simp [real, reals, hZ'], ?_⟩
              rw [hex]
              simp only [Instr.mapEntry, Sem.run_bind, hun, Result.andThen_ok, ← hm, run_getMap e2, plain_check hk hp hq, List.toList_toArray, b2, Sem.run_pure, hZ]
              rw [hpush, run_setMap e2]
              rfl
            · cases c
        · cases h
      · cases h
  · cases h

theorem chain_entryStore {t : TypeId} {m s x : Operand} (ho : o.op = .entryStore t m s x) : ChainOK P o (entryStoreR (opd P m) (opd P s) (opd P x)) := by
  intro ρ nt tm a r S S' w hf hg hr h
  obtain ⟨hp0, nx, nk⟩ := S
  unfold entryStoreR at h
  split at h
  · rename_i S0 R0 kd n v h0 nx0 nk0 hm hq hv hS
    cases hS
    have hm := opd_real hf hg m _ hm
    have hq := opd_real hf hg s _ hq
    have hv := opd_real hf hg x v hv
    simp only [real, Option.some.injEq] at hq
    have hex : (execOp a.eval o).run P w = ((Instr.entryStore t (a.eval m) (a.eval s) (a.eval x)).run P w).andThen (fun _ w' => .ok .skip w') := by
      simp [execOp, ho]
    split at h
    · rename_i es clock hes
      obtain ⟨R, l, e1, e2, e3⟩ := map_obj hr.has hes
      simp only [real, e1, Option.map_some, Option.some.injEq] at hm
      split at h
      · rename_i es' hset
        cases hlt : Nat.blt R0 lim with
        | false => rw [hlt] at h; cases h
        | true =>
          rw [hlt, cond_true] at h
          simp only [Option.some.injEq, Prod.mk.injEq] at h
          obtain ⟨rfl, rfl⟩ := h
          obtain ⟨j, e', b1, b2, b3⟩ := stamp_run hv es es' l hset e3
          have hmod : ((l.map entryOf).toArray.modify j fun e => { e with val := a.eval x }) = ((l.set j (e'.1, a.eval x, e'.2.2)).map entryOf).toArray := by
            apply Array.ext'
            apply List.ext_getElem?
            intro q
            rw [Array.toList_modify, List.getElem?_modify, List.getElem?_map, List.getElem?_map, List.getElem?_set]
            by_cases hjq : j = q
            · subst hjq
              have hlt := (List.getElem?_eq_some_iff.1 b1).1
              rw [if_pos rfl, if_pos hlt, b1]
              simp [entryOf]
            · rw [if_neg hjq]
              cases l[q]? <;> simp [hjq]
          have hfi : (l.map entryOf).toArray.findIdx? (fun e => (e.born : Int) == (Int.ofNat n)) = some j := by
            rw [List.findIdx?_toArray]
            exact b2
          refine ⟨ρ, _, Stp.setObj hr hes e1 (blt_of hlt) e2 (b3.obj clock), .inl ?_⟩
          rw [hex]
          simp only [Instr.entryStore, Sem.run_bind, ← hm, run_getMap e2, Result.andThen_ok, ← hq, asInt, asIntOf, Sem.run_pure]
          rw [hfi]
          simp only
          rw [hmod, run_setMap e2]
          rfl
      · cases h
    · cases h
  · cases h

end
end Go.Ev
