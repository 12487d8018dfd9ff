/-
  Operations that look at no memory, continued: comparisons, composites, lengths.
-/
import Derived.Test.YtjhmlmiegkjncaaGreatDoorEvD
import Derived.Laws.Strings
set_option linter.all false

namespace Go.Ev

theorem intEq_eq (a b : Int) : intEq a b = (a == b) := by
  cases a <;> cases b <;> simp only [intEq]
  · rename_i m n
    by_cases h : m = n
    · subst h; simp
    · rw [beq_no h]; symm; simp; omega
  · symm; simp
  · symm; simp
  · rename_i m n
    by_cases h : m = n
    · subst h; simp
    · rw [beq_no h]; symm; simp; exact h

theorem blt_eq (n m : Nat) : Nat.blt n m = decide (n < m) := by
  by_cases h : n < m
  · rw [decide_eq_true h]; simpa [Nat.blt_eq] using h
  · rw [decide_eq_false h]
    cases e : Nat.blt n m with
    | false => rfl
    | true => exact absurd (blt_of e) h

theorem intLt_eq (a b : Int) : intLt a b = decide (a < b) := by
  cases a <;> cases b <;> simp only [intLt, blt_eq]
  · simp
  · rename_i m n; symm; simp; omega
  · rename_i m n; symm; simp; omega
  · rename_i m n
    by_cases h : n < m
    · rw [decide_eq_true h]; symm; simp; omega
    · rw [decide_eq_false h]; symm; simp; omega

theorem litInt_eq (k : IntKind) (n : Int) : litInt k n = some (.int k n) := by
  cases n with
  | ofNat m => cases m <;> rfl
  | negSucc m => cases m <;> rfl

theorem kindNo_inj {a b : IntKind} (h : Nat.beq (kindNo a) (kindNo b) = true) : a = b := by
  have := beq_of h
  cases a <;> cases b <;> simp [kindNo] at this <;> rfl

theorem onInt_some {v : CV} {f : IntKind → Int → Option CV} {u : CV} (h : onInt v f = some u) : ∃ k n, v = .int k n ∧ f k n = some u := by
  cases v <;> first | (exact ⟨_, _, rfl, h⟩) | (exact absurd h (by unfold onInt; simp))

theorem onIntU_some {v : CV} {f : IntKind → Int → Option CV} {g : Nat → Nat → Option CV} {u : CV} (h : onIntU v f g = some u) : (∃ k n, v = .int k n ∧ f k n = some u) ∨ ∃ c lo hi, v = .ulen c lo hi ∧ g lo hi = some u := by
  cases v <;> first | (exact .inl ⟨_, _, rfl, h⟩) | (exact .inr ⟨_, _, _, rfl, h⟩) | (exact absurd h (by unfold onIntU; simp))

theorem both_some {op : BinOp} {f : IntKind → Int → Int → Option CV} {x y v : CV} (h : both op f x y = some v) : (∃ k a b, x = .int k a ∧ y = .int k b ∧ f k a b = some v) ∨ ∃ c lo hi, x = .ulen c lo hi ∧ ulenCmp op lo hi y = some v := by
  unfold both at h
  rcases onIntU_some h with ⟨k, a, hx, h1⟩ | h1
  rotate_left
  · exact .inr h1
  obtain ⟨k', b, hy, h2⟩ := onInt_some h1
  cases hk : Nat.beq (kindNo k) (kindNo k') with
  | false => rw [hk] at h2; cases h2
  | true =>
    rw [hk] at h2
    obtain rfl := kindNo_inj hk
    exact .inl ⟨k, a, b, hx, hy, h2⟩

/-! Texts. -/

theorem strReal_data (s : List Nat) : (strReal s).data.toList = s.map UInt8.ofNat := by simp [strReal]
theorem strReal_toList (s : List Nat) : (strReal s).toList = s.map UInt8.ofNat := by rw [ByteArray.toList_eq, strReal_data]

theorem ofNat_inj {a b : Nat} (ha : a < 256) (hb : b < 256) (h : UInt8.ofNat a = UInt8.ofNat b) : a = b := by
  have := congrArg UInt8.toNat h
  simp at this
  omega

theorem strEq_eq : ∀ (a b : List Nat) (r : Bool), strEq a b = some r → ((a.map UInt8.ofNat) == (b.map UInt8.ofNat)) = r
  | [], [], r, h => by simp [strEq] at h; subst h; rfl
  | [], _ :: _, r, h => by simp [strEq] at h; subst h; rfl
  | _ :: _, [], r, h => by simp [strEq] at h; subst h; rfl
  | x :: a, y :: b, r, h => by
    simp only [strEq] at h
    cases hb : Nat.beq x y with
    | true =>
      rw [hb, cond_true] at h
      obtain rfl := beq_of hb
      have := strEq_eq a b r h
      simpa using this
    | false =>
      rw [hb, cond_false] at h
      cases hc : (Nat.blt x 256 && Nat.blt y 256) with
      | false => rw [hc] at h; cases h
      | true =>
        rw [hc, cond_true] at h
        cases h
        simp only [Bool.and_eq_true] at hc
        have hne : x ≠ y := fun e => by rw [beq_yes e] at hb; cases hb
        have : UInt8.ofNat x ≠ UInt8.ofNat y := fun e => hne (ofNat_inj (blt_of hc.1) (blt_of hc.2) e)
        simp [this]

theorem strLt_eq : ∀ (a b : List Nat) (r : Bool), strLt a b = some r → Op.bytesLess (a.map UInt8.ofNat) (b.map UInt8.ofNat) = r
  | [], [], r, h => by simp [strLt] at h; subst h; rfl
  | _ :: _, [], r, h => by simp [strLt] at h; subst h; rfl
  | [], _ :: _, r, h => by simp [strLt] at h; subst h; rfl
  | x :: a, y :: b, r, h => by
    simp only [strLt] at h
    cases hc : (Nat.blt x 256 && Nat.blt y 256) with
    | false => rw [hc] at h; cases h
    | true =>
      rw [hc, cond_true] at h
      simp only [Bool.and_eq_true] at hc
      have hx := blt_of hc.1
      have hy := blt_of hc.2
      simp only [List.map_cons, Op.bytesLess]
      have hlt : (UInt8.ofNat x < UInt8.ofNat y) ↔ x < y := by
        rw [UInt8.lt_iff_toNat_lt]; simp; omega
      cases h1 : Nat.blt x y with
      | true =>
        rw [h1, cond_true] at h
        cases h
        have := hlt.2 (blt_of h1)
        simp [this]
      | false =>
        rw [h1, cond_false] at h
        have h1' : ¬ x < y := fun e => by rw [blt_eq, decide_eq_true e] at h1; cases h1
        have hnl : ¬ (UInt8.ofNat x < UInt8.ofNat y) := fun e => h1' (hlt.1 e)
        cases h2 : Nat.beq x y with
        | true =>
          rw [h2, cond_true] at h
          obtain rfl := beq_of h2
          simpa [hnl] using strLt_eq a b r h
        | false =>
          rw [h2, cond_false] at h
          cases h
          have hne : x ≠ y := fun e => by rw [beq_yes e] at h2; cases h2
          have : UInt8.ofNat x ≠ UInt8.ofNat y := fun e => hne (ofNat_inj hx hy e)
          simp [hnl, this]

theorem bytes_tri : ∀ (a b : List UInt8), Op.bytesLess b a = !(Op.bytesLess a b || a == b)
  | [], [] => rfl
  | [], _ :: _ => rfl
  | _ :: _, [] => rfl
  | x :: a, y :: b => by
    have ih := bytes_tri a b
    simp only [Op.bytesLess]
    by_cases h1 : x < y
    · have h2 : ¬ y < x := by rw [UInt8.lt_iff_toNat_lt] at *; omega
      have h3 : y ≠ x := fun e => by subst e; exact h2 h1
      have h4 : x ≠ y := fun e => h3 e.symm
      simp [h1, h2, h3, h4]
    · by_cases h2 : y < x
      · have h3 : y ≠ x := fun e => by subst e; exact h1 h2
        have h4 : x ≠ y := fun e => h3 e.symm
        simp [h1, h2, h3, h4]
      · have h3 : x = y := by
          apply UInt8.toNat_inj.1
          rw [UInt8.lt_iff_toNat_lt] at h1 h2
          omega
        subst h3
        simp [h1, ih]

theorem bytes_gt (a b : List UInt8) : (!(Op.bytesLess a b || a == b)) = Op.bytesLess b a := (bytes_tri a b).symm
theorem bytes_le (a b : List UInt8) : (Op.bytesLess a b || a == b) = !Op.bytesLess b a := by rw [bytes_tri a b, Bool.not_not]

/-! Comparing data. -/

theorem yesO_some {x : Option Bool} {v : CV} (h : yesO x = some v) : ∃ b, x = some b ∧ v = .bool b := by cases x <;> simp [yesO] at h; exact ⟨_, rfl, h.symm⟩
theorem notO_some {x : Option Bool} {v : CV} (h : notO x = some v) : ∃ b, x = some b ∧ v = .bool (!b) := by cases x <;> simp [notO] at h; exact ⟨_, rfl, h.symm⟩

section
variable {P : Program}

theorem stringOp_run {op : BinOp} {a b : List Nat} {v : CV} (h : binStr op a b = some v) (ρ : Ren) :
    ∃ V, real ρ v = some V ∧ ∀ w, (Op.stringOp op (strReal a) (strReal b)).run P w = .ok V w := by
  unfold binStr at h
  split at h
  · cases hc : Nat.blt (a.length + b.length) lim with
    | false => rw [hc] at h; cases h
    | true =>
      rw [hc, cond_true] at h
      cases h
      have hc := blt_of hc
      refine ⟨_, rfl, fun w => ?_⟩
      have : ¬ (((strReal a).size + (strReal b).size : Nat) : Int) > IntKind.i64.max := by
        rw [strReal_size, strReal_size]
        unfold lim at hc
        simp [IntKind.max, IntKind.signed, IntKind.bits]
        omega
      simp only [Op.stringOp, this, if_false, Sem.run_pure]
      congr 2
      apply ByteArray.ext
      simp [strReal]
  · obtain ⟨r, hr, rfl⟩ := yesO_some h
    refine ⟨_, rfl, fun w => ?_⟩
    simp only [Op.stringOp, strReal_toList, strEq_eq _ _ _ hr, Sem.run_pure]
  · obtain ⟨r, hr, rfl⟩ := notO_some h
    refine ⟨_, rfl, fun w => ?_⟩
    simp only [Op.stringOp, strReal_toList, strEq_eq _ _ _ hr, Sem.run_pure]
  · obtain ⟨r, hr, rfl⟩ := yesO_some h
    refine ⟨_, rfl, fun w => ?_⟩
    simp only [Op.stringOp, strReal_toList, strLt_eq _ _ _ hr, Sem.run_pure]
  · obtain ⟨r, hr, rfl⟩ := yesO_some h
    refine ⟨_, rfl, fun w => ?_⟩
    have := strLt_eq _ _ _ hr
    simp only [Op.stringOp, strReal_toList, Sem.run_pure]
    rw [bytes_gt, this]
  · obtain ⟨r, hr, rfl⟩ := notO_some h
    refine ⟨_, rfl, fun w => ?_⟩
    have := strLt_eq _ _ _ hr
    simp only [Op.stringOp, strReal_toList, Sem.run_pure]
    rw [bytes_le, this]
  · obtain ⟨r, hr, rfl⟩ := notO_some h
    refine ⟨_, rfl, fun w => ?_⟩
    simp only [Op.stringOp, strReal_toList, strLt_eq _ _ _ hr, Sem.run_pure]
  · cases h

theorem eqParts_nil (xs ys : List CV) : eqParts [] xs ys = some true := by simp [eqParts]
theorem eqParts_cons (off size : Nat) (agg : Bool) (e : EqT) (l : List (Nat × Nat × Bool × EqT)) (xs ys : List CV) : eqParts ((off, size, agg, e) :: l) xs ys =
    match partC size agg xs off, partC size agg ys off with
    | some a, some b => (match eqAt e a b with
      | some true => eqParts l xs ys
      | some false => some false
      | none => none)
    | _, _ => none := by simp only [eqParts]; rfl

theorem bytes_beq (a b : ByteArray) : (a == b) = (a.data.toList == b.data.toList) := by
  show (a.data == b.data) = _
  rw [Bool.eq_iff_iff]
  simp

/-- A part's way of comparing. -/
def eqPart (P : Program) (d : Nat) (f : Field) : Nat × Nat × Bool × EqT :=
  (f.offset, (match tyOf P f.type with | some j => j.size | none => 0), (match tyOf P f.type with | some j => isAggD j.desc | none => false), eqTy P d f.type)

theorem loop_run {ρ : Ren} {d D : Nat} (ih : ∀ (t : TypeId) (x y : CV) (X Y : Value) (r : Bool), eqAt (eqTy P d t) x y = some r → real ρ x = some X → real ρ y = some Y → ∀ w, (Op.equalIn D t X Y).run P w = .ok r w)
    {xs ys : List CV} {X Y : List Value} (hX : reals ρ xs = some X) (hY : reals ρ ys = some Y) (w : World) : ∀ (fs : List Field) (r : Bool), eqParts ((fs.filter (·.name ≠ "_")).map (eqPart P d)) xs ys = some r →
    (forIn fs ((none, ()) : Option Bool × Unit) fun f __s =>
            if f.name ≠ "_" then do
              let __do_lift ← part f.type X.toArray f.offset
              let __do_lift_1 ← part f.type Y.toArray f.offset
              let __do_lift ← Op.equalIn D f.type __do_lift __do_lift_1
              if (!__do_lift) = true then pure (ForInStep.done (some false, ())) else pure (ForInStep.yield (none, ()))
            else pure (ForInStep.yield (none, ())) : Sem (Option Bool × Unit)).run P w = .ok (if r then (none, ()) else (some false, ())) w
  | [], r, h => by
    simp [eqParts_nil] at h
    subst h
    rfl
  | f :: fs, r, h => by
    rw [List.forIn_cons]
    by_cases hn : f.name ≠ "_"
    · rw [List.filter_cons_of_pos (by simpa using hn), List.map_cons] at h
      have hp : eqPart P d f = (f.offset, (eqPart P d f).2.1, (eqPart P d f).2.2.1, eqTy P d f.type) := rfl
      rw [hp, eqParts_cons] at h
      split at h
      · rename_i u v hu hv
        simp only [eqPart] at hu hv
        cases hj : tyOf P f.type with
        | none =>
          rw [hj] at hu hv
          have : eqTy P d f.type = .no := by
            cases d with
            | zero => rfl
            | succ d => simp only [eqTy, hj]
          rw [this] at h
          simp [eqAt] at h
        | some j =>
          rw [hj] at hu hv
          obtain ⟨U, hU, hU'⟩ := run_part hj hX hu
          obtain ⟨V, hV, hV'⟩ := run_part hj hY hv
          split at h
          · rename_i he
            have := ih f.type u v U V true he hU hV
            rw [if_pos hn]
            simp only [Sem.run_bind, hU', hV', Result.andThen_ok, this, Bool.not_true, Bool.false_eq_true, if_false, Sem.run_pure]
            exact loop_run ih hX hY w fs r h
          · rename_i he
            cases h
            have := ih f.type u v U V false he hU hV
            rw [if_pos hn]
            simp only [Sem.run_bind, hU', hV', Result.andThen_ok, this, Bool.not_false, if_true, Sem.run_pure, Bool.false_eq_true, if_false]
          · cases h
      · cases h
    · rw [List.filter_cons_of_neg (by simpa using hn)] at h
      rw [if_neg hn]
      simp only [Sem.run_bind, Sem.run_pure, Result.andThen_ok]
      exact loop_run ih hX hY w fs r h

/-- An element's way of comparing. -/
def eqElem (P : Program) (d : Nat) (q : TypeId) (j : TyE) (i : Nat) : Nat × Nat × Bool × EqT := (i * j.size, j.size, isAggD j.desc, eqTy P d q)

theorem elems_run {ρ : Ren} {d D : Nat} (ih : ∀ (t : TypeId) (x y : CV) (X Y : Value) (r : Bool), eqAt (eqTy P d t) x y = some r → real ρ x = some X → real ρ y = some Y → ∀ w, (Op.equalIn D t X Y).run P w = .ok r w)
    {xs ys : List CV} {X Y : List Value} (hX : reals ρ xs = some X) (hY : reals ρ ys = some Y) (q : TypeId) (j : TyE) (hj : tyOf P q = some j) (w : World) : ∀ (is : List Nat) (r : Bool), eqParts (is.map (eqElem P d q j)) xs ys = some r →
    (forIn is ((none, ()) : Option Bool × Unit) fun i __s => do
              let __do_lift ← part q X.toArray (i * j.size)
              let __do_lift_1 ← part q Y.toArray (i * j.size)
              let __do_lift ← Op.equalIn D q __do_lift __do_lift_1
              if (!__do_lift) = true then pure (ForInStep.done (some false, ())) else pure (ForInStep.yield (none, ())) : Sem (Option Bool × Unit)).run P w = .ok (if r then (none, ()) else (some false, ())) w
  | [], r, h => by
    simp [eqParts_nil] at h
    subst h
    rfl
  | i :: is, r, h => by
    rw [List.forIn_cons]
    rw [List.map_cons] at h
    have hp : eqElem P d q j i = (i * j.size, j.size, isAggD j.desc, eqTy P d q) := rfl
    rw [hp, eqParts_cons] at h
    split at h
    · rename_i u v hu hv
      obtain ⟨U, hU, hU'⟩ := run_part hj hX hu
      obtain ⟨V, hV, hV'⟩ := run_part hj hY hv
      split at h
      · rename_i he
        have := ih q u v U V true he hU hV
        simp only [Sem.run_bind, hU', hV', Result.andThen_ok, this, Bool.not_true, Bool.false_eq_true, if_false, Sem.run_pure]
        exact elems_run ih hX hY q j hj w is r h
      · rename_i he
        cases h
        have := ih q u v U V false he hU hV
        simp only [Sem.run_bind, hU', hV', Result.andThen_ok, this, Bool.not_false, if_true, Sem.run_pure, Bool.false_eq_true, if_false]
      · cases h
    · cases h

theorem ustr_eq {ρ : Ren} {c1 l1 m1 c2 l2 m2 : Nat} {s1 s2 : ByteArray} (h1 : ρ.ustr c1 l1 m1 = some s1) (h2 : ρ.ustr c2 l2 m2 = some s2) : (s1 == s2) = Nat.beq c1 c2 := by
  obtain ⟨g1, gi, _⟩ := Ren.ustr_some h1
  obtain ⟨g2, _⟩ := Ren.ustr_some h2
  cases hc : Nat.beq c1 c2 with
  | true =>
    obtain rfl := beq_of hc
    rw [g1] at g2
    cases g2
    rw [bytes_beq]
    simp
  | false =>
    cases hb : s1 == s2 with
    | false => rfl
    | true =>
      rw [bytes_beq] at hb
      have e : s1 = s2 := ByteArray.ext (Array.ext' (by simpa using hb))
      subst e
      have := gi _ _ _ g1 g2
      rw [this, Nat.beq_refl] at hc
      cases hc

theorem eqAt_run {ρ : Ren} : ∀ (d D : Nat), d ≤ D → ∀ (t : TypeId) (x y : CV) (X Y : Value) (r : Bool), eqAt (eqTy P d t) x y = some r → real ρ x = some X → real ρ y = some Y →
    ∀ w, (Op.equalIn D t X Y).run P w = .ok r w
  | 0, D, hD, t, x, y, X, Y, r, h, hx, hy, w => by simp [eqTy, eqAt] at h
  | d + 1, 0, hD, t, x, y, X, Y, r, h, hx, hy, w => by omega
  | d + 1, D + 1, hD, t, x, y, X, Y, r, h, hx, hy, w => by
    simp only [eqTy] at h
    cases ht : tyOf P t with
    | none => rw [ht] at h; simp [eqAt] at h
    | some i =>
      rw [ht] at h
      simp only at h
      have hun := run_underlying' ht w
      simp only [Op.equalIn, Sem.run_bind, hun, Result.andThen_ok]
      cases hd : i.desc with
      | bool =>
        rw [hd] at h
        cases x <;> cases y <;> simp [eqAt] at h
        simp only [real, Option.some.injEq] at hx hy
        subst hx; subst hy; subst h
        simp
      | int k =>
        rw [hd] at h
        cases x <;> cases y <;> simp [eqAt] at h
        obtain ⟨hk, h⟩ := h
        simp only [real, Option.some.injEq] at hx hy
        subst hx; subst hy
        rw [intEq_eq] at h
        subst h
        simp [hk]
      | string =>
        rw [hd] at h
        cases x <;> cases y <;> simp [eqAt] at h
        · simp only [real, Option.some.injEq] at hx hy
          subst hx; subst hy
          rename_i a b
          have := strEq_eq _ _ _ h
          simp only [Sem.run_pure]
          congr 1
          rw [← this, ← strReal_data, ← strReal_data]
          exact bytes_beq _ _
        · rename_i c1 l1 m1 c2 l2 m2
          simp only [real, Option.map_eq_some_iff] at hx hy
          obtain ⟨s1, h1, rfl⟩ := hx
          obtain ⟨s2, h2, rfl⟩ := hy
          simp only [Sem.run_pure]
          congr 1
          rw [← h]
          exact ustr_eq h1 h2
      | pointer q =>
        rw [hd] at h
        simp only at h
        cases hq : tyOf P q with
        | none => rw [hq] at h; simp [eqAt] at h
        | some qi =>
        rw [hq] at h
        simp only at h
        have hsz := run_sizeOf' hq w
        cases x <;> cases y <;> simp only [eqAt, reduceCtorEq, Option.some.injEq] at h
        all_goals (simp only [real, Option.some.injEq, Option.map_eq_some_iff] at hx hy)
        · subst hx; subst hy; subst h; simp
        · obtain ⟨z, hz, rfl⟩ := hy; subst hx; subst h; simp
        · obtain ⟨z, hz, rfl⟩ := hx; subst hy; subst h; simp
        · rename_i b1 o1 b2 o2
          cases hc : (Nat.beq b1 b2 && Nat.beq o1 o2) with
          | false => rw [hc] at h; cases h
          | true =>
            rw [hc, cond_true] at h
            cases h
            simp only [Bool.and_eq_true] at hc
            have e1 := Nat.eq_of_beq_eq_true hc.1
            have e2 := Nat.eq_of_beq_eq_true hc.2
            subst e1 e2
            obtain ⟨z, hz, rfl⟩ := hx
            obtain ⟨z', hz', rfl⟩ := hy
            rw [hz] at hz'
            cases hz'
            simp only [Sem.run_bind, hsz, Result.andThen_ok]
            by_cases h0 : qi.size ≠ 0
            · rw [if_pos h0]
              simp [sameAddr]
            · rw [if_neg h0]
              simp
      | slice q =>
        rw [hd] at h
        cases x <;> cases y <;> simp [eqAt] at h
        all_goals (simp only [real, Option.some.injEq, Option.bind_eq_some_iff, Option.map_eq_some_iff] at hx hy)
        · subst hx; subst hy; subst h; simp
        · obtain ⟨z, hz, c, hc, rfl⟩ := hy; subst hx; subst h; simp
        · obtain ⟨z, hz, c, hc, rfl⟩ := hx; subst hy; subst h; simp
      | map q q' =>
        rw [hd] at h
        cases x <;> cases y <;> simp [eqAt] at h
        all_goals (simp only [real, Option.some.injEq, Option.map_eq_some_iff] at hx hy)
        · subst hx; subst hy; subst h; simp
        · obtain ⟨z, hz, rfl⟩ := hy; subst hx; subst h; simp
        · obtain ⟨z, hz, rfl⟩ := hx; subst hy; subst h; simp
      | func q q' q'' =>
        rw [hd] at h
        cases x <;> cases y <;> simp [eqAt] at h
        all_goals (simp only [real, Option.some.injEq, Option.bind_eq_some_iff, Option.map_eq_some_iff] at hx hy)
        · obtain ⟨z, hz, c, hc, rfl⟩ := hx; subst hy; subst h; simp
        · obtain ⟨z, hz, c, hc, rfl⟩ := hy; subst hx; subst h; simp
        · subst hx; subst hy; subst h; simp
      | struct fields =>
        rw [hd] at h
        simp only at h
        split at h
        · simp [eqAt] at h
        · rename_i hs
          cases x <;> cases y <;> simp only [eqAt, reduceCtorEq] at h
          simp only [real, Option.map_eq_some_iff] at hx hy
          obtain ⟨LX, hX, rfl⟩ := hx
          obtain ⟨LY, hY, rfl⟩ := hy
          have hs' : P.stoodInHeld t = false := by simpa using hs
          simp only [Sem.run_bind, run_program, Result.andThen_ok, hs', Bool.false_eq_true, if_false]
          rw [← Array.forIn_toList]
          have := loop_run (P := P) (d := d) (D := D) (fun t x y X Y r h hx hy w => eqAt_run d D (by omega) t x y X Y r h hx hy w) hX hY w fields.toList r h
          rw [this]
          cases r <;> rfl
      | array n q =>
        rw [hd] at h
        simp only at h
        cases hq : tyOf P q with
        | none => rw [hq] at h; simp [eqAt] at h
        | some j =>
          rw [hq] at h
          cases x <;> cases y <;> simp only [eqAt, reduceCtorEq] at h
          simp only [real, Option.map_eq_some_iff] at hx hy
          obtain ⟨LX, hX, rfl⟩ := hx
          obtain ⟨LY, hY, rfl⟩ := hy
          have hsz := run_sizeOf' hq w
          simp only [Sem.run_bind, hsz, Result.andThen_ok]
          have := elems_run (P := P) (d := d) (D := D) (fun t x y X Y r h hx hy w => eqAt_run d D (by omega) t x y X Y r h hx hy w) hX hY q j hq w (List.range n) r h
          rw [Std.Legacy.Range.forIn_eq_forIn_range', ← List.range_eq_range']
          simp only [Std.Legacy.Range.size, Nat.sub_zero, Nat.add_sub_cancel, Nat.div_one]
          rw [this]
          cases r <;> rfl
      | _ => rw [hd] at h; simp [eqAt] at h

end

end Go.Ev
