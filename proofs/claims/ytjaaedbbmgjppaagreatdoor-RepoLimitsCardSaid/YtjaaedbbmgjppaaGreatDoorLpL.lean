/-
  RepoLimits: what the loops' facts say. RepoLimits: the walk. RepoLimits: the law returns true.
-/
import Derived.Test.YtjaaedbbmgjppaaGreatDoorLpK
set_option linter.all false

namespace Go.Ev
open Go.Proofs Go.RowKit

theorem wr_small {n : Nat} (h : n < 65536) : wr .i64 (.ofNat n) = .ofNat n := by
  show (bif Nat.blt n 9223372036854775808 then Int.ofNat n else _) = _
  rw [show Nat.blt n 9223372036854775808 = true by rw [Nat.blt_eq]; omega, cond_true]

theorem optEq_eq {a b : Option CV} (h : optEq a b = true) : a = b := by
  unfold optEq at h
  split at h
  · rfl
  · rw [cvEq_eq _ _ _ h]
  · cases h

theorem trEq_eq : ∀ (t u : Tr CV), trEq t u = true → t = u
  | .leaf, .leaf, _ => rfl
  | .leaf, .node _ _ _, h => by simp [trEq] at h
  | .node _ _ _, .leaf, h => by simp [trEq] at h
  | .node v l r, .node v' l' r', h => by
    simp only [trEq, Bool.and_eq_true] at h
    rw [optEq_eq h.1.1, trEq_eq l l' h.1.2, trEq_eq r r' h.2]

theorem entsEq_eq : ∀ (l m : List (CV × CV × Nat)), entsEq l m = true → l = m
  | [], [], _ => rfl
  | [], _ :: _, h => by simp [entsEq] at h
  | _ :: _, [], h => by simp [entsEq] at h
  | (a, b, n) :: l, (a', b', n') :: m, h => by
    simp only [entsEq, Bool.and_eq_true] at h
    obtain ⟨⟨⟨h1, h2⟩, h3⟩, h4⟩ := h
    rw [cvEq_eq _ _ _ h1, cvEq_eq _ _ _ h2, show n = n' from beq_of h3, entsEq_eq l m h4]

theorem objEq_row {o : Option CObj} {c : Tr CV} {sh hi : Nat} {w : Bool} {id sz : Nat} (h : objEq o (.row c sh hi w id sz) = true) : o = some (.row c sh hi w id sz) := by
  unfold objEq at h
  split at h
  · rename_i c' sh' hi' w' id' sz' c2 sh2 hi2 w2 id2 sz2 heq
    cases heq
    simp only [Bool.and_eq_true] at h
    obtain ⟨⟨⟨⟨⟨h1, h2⟩, h3⟩, h4⟩, h5⟩, h6⟩ := h
    have h4 : w' = w := by simpa using h4
    rw [trEq_eq _ _ h1, show sh' = sh from beq_of h2, show hi' = hi from beq_of h3, h4, show id' = id from beq_of h5, show sz' = sz from beq_of h6]
  · rename_i heq
    cases heq
  · cases h

theorem objEq_map {o : Option CObj} {es : List (CV × CV × Nat)} {n : Nat} (h : objEq o (.map es n) = true) : o = some (.map es n) := by
  unfold objEq at h
  split at h
  · rename_i heq
    cases heq
  · rename_i heq
    cases heq
    simp only [Bool.and_eq_true] at h
    rw [entsEq_eq _ _ h.1, show _ = _ from beq_of h.2]
  · cases h

theorem isOpq_some {n : Nat} {o : Option CV} (h : isOpq n o = true) : o = some (.opq n) := by
  unfold isOpq at h
  split at h
  · rw [show _ = _ from beq_of h]
  · cases h
theorem isPtr_some {b c : Nat} {o : Option CV} (h : isPtr b c o = true) : o = some (.ptr b c) := by
  unfold isPtr at h
  split at h
  · simp only [Bool.and_eq_true] at h
    rw [show b = _ from beq_of h.1, show c = _ from beq_of h.2]
  · cases h
theorem isNone_some {o : Option CV} (h : isNone o = true) : o = none := by
  unfold isNone at h
  split at h
  · rfl
  · cases h

structure Head (slot n fr : Nat) (tm : Tm) : Prop where
  cnt : getT slot tm = some (.int .i64 (.ofNat n))
  a0 : getT 0 tm = some (.opq 0)
  a1 : getT 1 tm = some (.opq 1)
  a5 : getT 5 tm = some (.ptr 10 0)
  f0 : getT fr tm = none
  f1 : getT (fr + 1) tm = none
  f2 : getT (fr + 2) tm = none
  f3 : getT (fr + 3) tm = none

theorem headOk_head {slot n fr : Nat} {tm : Tm} (h : headOk slot n fr tm = true) : Head slot n fr tm := by
  unfold headOk at h
  simp only [Bool.and_eq_true] at h
  obtain ⟨⟨⟨⟨⟨⟨⟨h1, h2⟩, h3⟩, h4⟩, h5⟩, h6⟩, h7⟩, h8⟩ := h
  exact ⟨isI_some h1, isOpq_some h2, isOpq_some h3, isPtr_some h4, isNone_some h5, isNone_some h6, isNone_some h7, isNone_some h8⟩

theorem lp1_head {n i : Nat} {tm : Tm} {S : St} (h : lp1 n i tm S = true) : Head 7 i 29 tm ∧ ok1 i S = true := by
  cases n <;> simp only [lp1, Bool.and_eq_true] at h
  · exact ⟨headOk_head h.1, h.2⟩
  · exact ⟨headOk_head h.1.1, h.1.2⟩

theorem lp1_next {n i : Nat} {tm : Tm} {S : St} (h : lp1 (n + 1) i tm S = true) : ∃ tm' S', runN rounds (codeCC Tryz.prog nt3 (restOf (lpB cL1)) .fin) cal tm S = .normal tm' S' ∧ lp1 n (i + 1) tm' S' = true := by
  simp only [lp1, Bool.and_eq_true] at h
  have h := h.2
  split at h
  · rename_i tm' S' hr
    exact ⟨tm', S', hr, h⟩
  · cases h

theorem ok1_some {k : Nat} {S : St} (h : ok1 k S = true) : S.heap.get 10 = some row10 ∧ S.heap.get 54 = some row54 ∧ S.heap.get 9 = some (map9 (.int .i64 (.ofNat 0)) (esK k) (clockK k)) ∧ S.next ≤ 200 ∧ S.nk ≤ 1 := by
  unfold ok1 at h
  simp only [Bool.and_eq_true] at h
  obtain ⟨⟨⟨⟨h1, h2⟩, h3⟩, h4⟩, h5⟩ := h
  exact ⟨objEq_row h1, objEq_row h2, objEq_map h3, ble_of h4, ble_of h5⟩

/-! The second loop. -/
theorem lp2_adv {x : Bool × List (CV × CV × Nat) × Nat} : ∀ (n i : Nat) (tm : Tm) (S : St), lp2 n i tm S = List.replicate (n + 1) x → ∀ j, j ≤ n → ∃ tm' S', adv j tm S = .normal tm' S' ∧ (ok2 (i + j) tm' S', mapTail S') = x
  | n, i, tm, S, h, 0, _ => by
    refine ⟨tm, S, rfl, ?_⟩
    cases n <;> simp only [lp2, List.replicate_succ, List.cons.injEq] at h <;> exact h.1
  | 0, i, tm, S, h, j + 1, hj => by omega
  | n + 1, i, tm, S, h, j + 1, hj => by
    simp only [lp2] at h
    rw [List.replicate_succ, List.cons.injEq] at h
    have h2 := h.2
    split at h2
    · rename_i tm' S' hr
      obtain ⟨tm2, S2, e1, e2⟩ := lp2_adv n (i + 1) tm' S' h2 j (by omega)
      refine ⟨tm2, S2, ?_, by rw [show i + (j + 1) = i + 1 + j by omega]; exact e2⟩
      simp only [adv, hr]
      exact e1
    · simp at h2

theorem adv_add : ∀ (a b : Nat) (tm : Tm) (S : St), adv (a + b) tm S = (match adv a tm S with
    | .normal tm' S' => adv b tm' S'
    | _ => .fail)
  | 0, b, tm, S => by rw [Nat.zero_add]; rfl
  | a + 1, b, tm, S => by
    rw [show a + 1 + b = (a + b) + 1 by omega]
    simp only [adv]
    split
    · exact adv_add a b _ _
    · rfl

theorem lpFrom_adv {x : Bool × List (CV × CV × Nat) × Nat} {n i : Nat} {tm0 : Tm} {S0 : St} (h : lpFrom n i (adv i tm0 S0) = List.replicate (n + 1) x) : ∀ j, i ≤ j → j ≤ i + n → ∃ tm' S', adv j tm0 S0 = .normal tm' S' ∧ (ok2 j tm' S', mapTail S') = x := by
  intro j h1 h2
  unfold lpFrom at h
  split at h
  · rename_i tm S hr
    obtain ⟨tm', S', e1, e2⟩ := lp2_adv n i tm S h (j - i) (by omega)
    rw [show i + (j - i) = j by omega] at e2
    refine ⟨tm', S', ?_, e2⟩
    rw [show j = i + (j - i) by omega, adv_add, hr]
    exact e1
  · simp at h

theorem adv_at (es : List (CV × CV × Nat)) (clock : Nat) {j : Nat} (hj : j ≤ 300) : ∃ tm S, adv j tmL2 (startT es clock) = .normal tm S ∧ ok2 j tm S = true ∧ mapTail S = (es, clock) := by
  have key : ∃ tm' S', adv j tmL2 (startT es clock) = .normal tm' S' ∧ (ok2 j tm' S', mapTail S') = (true, es, clock) := by
    rcases Nat.lt_or_ge j 130 with h | h
    · exact lpFrom_adv (f3p0 es clock) j (by omega) (by omega)
    · rcases Nat.lt_or_ge j 225 with h' | h'
      · exact lpFrom_adv (f3p1 es clock) j (by omega) (by omega)
      · exact lpFrom_adv (f3p2 es clock) j (by omega) (by omega)
  obtain ⟨tm, S, e1, e2⟩ := key
  simp only [Prod.mk.injEq] at e2
  exact ⟨tm, S, e1, e2.1, e2.2⟩

theorem adv_one (tm : Tm) (S : St) : adv 1 tm S = (match runP (restOf (lpB cL2)) tm S with
    | .normal tm' S' => .normal tm' S'
    | _ => .fail) := rfl

/-- From one round's head to the next one's. -/
theorem adv_step (es : List (CV × CV × Nat)) (clock : Nat) {j : Nat} (hj : j + 1 ≤ 300) {tm : Tm} {S : St} (h : adv j tmL2 (startT es clock) = .normal tm S) :
    ∃ tm' S', runN rounds (codeCC Tryz.prog nt3 (restOf (lpB cL2)) .fin) cal tm S = .normal tm' S' ∧ adv (j + 1) tmL2 (startT es clock) = .normal tm' S' := by
  obtain ⟨tm', S', e1, _⟩ := adv_at es clock hj
  have e2 := e1
  rw [adv_add, h] at e2
  simp only [adv_one] at e2
  split at e2
  · rename_i tm2 S2 hr
    cases e2
    exact ⟨_, _, hr, e1⟩
  · cases e2

theorem ok2_some {j : Nat} {tm : Tm} {S : St} (h : ok2 j tm S = true) : Head 9 j 68 tm ∧ mapIs S = true ∧ S.next ≤ 100000 ∧ S.nk ≤ 10000 ∧ ∃ cb, repoAt S = some (cb, least (j + 1) 256) ∧ commitsOk S cb (least (j + 1) 256) = true := by
  unfold ok2 at h
  simp only [Bool.and_eq_true] at h
  obtain ⟨⟨⟨⟨h1, h2⟩, h3⟩, h4⟩, h5⟩ := h
  refine ⟨headOk_head h1, h2, ble_of h3, ble_of h4, ?_⟩
  split at h5
  · rename_i cb n hr
    simp only [Bool.and_eq_true] at h5
    have := beq_of h5.1
    subst this
    exact ⟨cb, hr, h5.2⟩
  · cases h5

theorem map_some {S : St} {es : List (CV × CV × Nat)} {clock : Nat} (h1 : mapIs S = true) (h2 : mapTail S = (es, clock)) : ∃ y, S.heap.get 9 = some (map9 y es clock) := by
  unfold mapIs at h1
  split at h1
  · rename_i s y es' clock' heq
    unfold mapTail at h2
    rw [heq] at h2
    simp only [Prod.mk.injEq] at h2
    obtain ⟨rfl, rfl⟩ := h2
    have := strSame_eq _ _ h1
    subst this
    exact ⟨y, heq⟩
  · cases h1

theorem startT_get {es : List (CV × CV × Nat)} {clock b : Nat} {o : CObj} (h : (startT es clock).heap.get b = some o) :
    (b = 54 ∧ o = row54) ∨ (b = 10 ∧ o = row10) ∨ (b = 9 ∧ o = map9 (.int .i64 (.ofNat 0)) es clock) := by
  have h : (((Tr.leaf.set big 9 (some (map9 (.int .i64 (.ofNat 0)) es clock))).set big 10 (some row10)).set big 54 (some row54)).get b = some o := h
  by_cases e : b = 54
  · subst e
    rw [Tr.get_set_eq _ _ _ _ (by simp [big])] at h
    exact .inl ⟨rfl, (Option.some.inj h).symm⟩
  · rw [Tr.get_set_ne _ _ _ _ _ (Ne.symm e)] at h
    by_cases e' : b = 10
    · subst e'
      rw [Tr.get_set_eq _ _ _ _ (by simp [big])] at h
      exact .inr (.inl ⟨rfl, (Option.some.inj h).symm⟩)
    · rw [Tr.get_set_ne _ _ _ _ _ (Ne.symm e')] at h
      by_cases e2 : b = 9
      · subst e2
        rw [Tr.get_set_eq _ _ _ _ (by simp [big])] at h
        exact .inr (.inr ⟨rfl, (Option.some.inj h).symm⟩)
      · rw [Tr.get_set_ne _ _ _ _ _ (Ne.symm e2), Tr.get_leaf] at h
        cases h

end Go.Ev

namespace Go.Ev
open Go.Proofs Go.RowKit

/-- What the two arguments are. -/
def ArgsAre (ρ : Ren) (k m : Nat) : Prop := ρ.v 0 = some (.int .u8 (.ofNat k)) ∧ ρ.v 1 = some (.int .u16 (.ofNat m))

theorem ArgsAre.mono {ρ ρ' : Ren} {k m : Nat} (h : ArgsAre ρ k m) (hl : ρ.Le ρ') : ArgsAre ρ' k m := ⟨hl.v _ _ h.1, hl.v _ _ h.2⟩
theorem ArgsAre.real0 {ρ : Ren} {k m : Nat} (h : ArgsAre ρ k m) : real ρ (.opq 0) = some (.int .u8 (.ofNat k)) := by simp only [real, h.1, Option.map_some, Atom.val]
theorem ArgsAre.real1 {ρ : Ren} {k m : Nat} (h : ArgsAre ρ k m) : real ρ (.opq 1) = some (.int .u16 (.ofNat m)) := by simp only [real, h.2, Option.map_some, Atom.val]

theorem free_of_dsts {tm : Tm} {l : List Oper} {d0 : Nat} (hd : dsts l = [some d0, some (d0 + 1), some (d0 + 2), some (d0 + 3)]) (h0 : getT d0 tm = none) (h1 : getT (d0 + 1) tm = none) (h2 : getT (d0 + 2) tm = none) (h3 : getT (d0 + 3) tm = none) :
    ∀ o ∈ l, ∀ d, o.dst = some d → getT d tm = none := by
  intro o ho d he
  have : some d ∈ dsts l := List.mem_map.2 ⟨o, ho, he⟩
  rw [hd] at this
  simp only [List.mem_cons, List.mem_nil_iff, or_false, Option.some.injEq] at this
  rcases this with rfl | rfl | rfl | rfl
  · exact h0
  · exact h1
  · exact h2
  · exact h3

theorem test7 {ρ : Ren} {tm : Tm} {i k m : Nat} (hh : Head 7 i 29 tm) {a : Act} {w : World} (hf : FrRel ρ nt3 tm a) (hg : Glob Tryz.prog ρ) (ha : ArgsAre ρ k m) (hk : k < 65536) {Q : Exit → Act → World → Prop}
    (hK : ∀ a', FrRel ρ nt3 tm a' → a'.defers = a.defers → a'.eval (.tmp 32) = .bool (Nat.blt i k) → Q .normal a' w) : (Code.region 7 ops7 false).wp Tryz.prog Q a w := by
  obtain ⟨V7, e7, t7⟩ := hf.val 7 _ (by decide) hh.cnt
  obtain ⟨V0, e0, t0⟩ := hf.val 0 _ (by decide) hh.a0
  rw [ha.real0] at e0
  cases e0
  obtain ⟨tmE, r1, r2⟩ := tget_some (run7_eq i k)
  rw [wr_small hk] at r2
  refine wp_region ?_
  have hlen : ops7.toList.length = 4 := size7
  rw [size7]
  have key := ops_quiet (P := Tryz.prog) (Q := Q) (w := w) hg [] [] ops7.toList 0 (by simp) _ a (((FrRel.nought hf.size).know (by decide) e7 t7).know (by decide) rfl t0) hf (free_of_dsts dsts7 hh.f0 hh.f1 hh.f2 hh.f3) r1 (fun a' x1 f1 d1 => ?_)
  · rw [hlen] at key
    exact key
  · obtain ⟨V, e, t⟩ := x1.val 32 _ (by decide) r2
    have := opd_real ((FrRel.nought x1.size).know (by decide) e t) hg (.tmp 32) _ (op32 _)
    simp only [real, Option.some.injEq] at this
    exact hK a' f1 d1 this.symm

theorem test13 {ρ : Ren} {tm : Tm} {i k m : Nat} (hh : Head 9 i 68 tm) {a : Act} {w : World} (hf : FrRel ρ nt3 tm a) (hg : Glob Tryz.prog ρ) (ha : ArgsAre ρ k m) (hm : m < 65536) {Q : Exit → Act → World → Prop}
    (hK : ∀ a', FrRel ρ nt3 tm a' → a'.defers = a.defers → a'.eval (.tmp 71) = .bool (Nat.blt i m) → Q .normal a' w) : (Code.region 13 ops13 false).wp Tryz.prog Q a w := by
  obtain ⟨V9, e9, t9⟩ := hf.val 9 _ (by decide) hh.cnt
  obtain ⟨V1, e1, t1⟩ := hf.val 1 _ (by decide) hh.a1
  rw [ha.real1] at e1
  cases e1
  obtain ⟨tmE, r1, r2⟩ := tget_some (run13_eq i m)
  rw [wr_small hm] at r2
  refine wp_region ?_
  have hlen : ops13.toList.length = 4 := size13
  rw [size13]
  have key := ops_quiet (P := Tryz.prog) (Q := Q) (w := w) hg [] [] ops13.toList 0 (by simp) _ a (((FrRel.nought hf.size).know (by decide) e9 t9).know (by decide) rfl t1) hf (free_of_dsts dsts13 hh.f0 hh.f1 hh.f2 hh.f3) r1 (fun a' x1 f1 d1 => ?_)
  · rw [hlen] at key
    exact key
  · obtain ⟨V, e, t⟩ := x1.val 71 _ (by decide) r2
    have := opd_real ((FrRel.nought x1.size).know (by decide) e t) hg (.tmp 71) _ (op71 _)
    simp only [real, Option.some.injEq] at this
    exact hK a' f1 d1 this.symm

theorem blt_yes {i n : Nat} (h : i < n) : Nat.blt i n = true := by rw [Nat.blt_eq]; exact h
theorem blt_no {i n : Nat} (h : ¬ i < n) : Nat.blt i n = false := by
  cases hb : Nat.blt i n with
  | false => rfl
  | true => exact (h (blt_of hb)).elim

/-- The first loop. -/
theorem loop1 {w0 : World} {k m : Nat} (hk : k ≤ 40) {K : Act → World → Prop} {Q : Exit → Act → World → Prop}
    (hK : ∀ tm S ρ a w, Head 7 k 29 tm → ok1 k S = true → Cfg Tryz.prog w0 S ρ w → FrRel ρ nt3 tm a → a.defers = [] → ArgsAre ρ k m → K a w) :
    ∀ d i tm S ρ a w, i + d = k → lp1 (40 - i) i tm S = true → Cfg Tryz.prog w0 S ρ w → FrRel ρ nt3 tm a → a.defers = [] → ArgsAre ρ k m →
      Code.rounds Tryz.prog (.seq (.seq (.region 7 ops7 false) (.cond (.tmp 32) .skip (.exit 0))) (restOf (lpB cL1))) (Exit.inBlock 0 (Exit.then K Q)) (d + 1) a w := by
  intro d
  induction d with
  | zero =>
    intro i tm S ρ a w hi hl hc hf hd ha
    have hi : i = k := by omega
    subst hi
    obtain ⟨hh, hok⟩ := lp1_head hl
    rw [rounds_succ]
    refine wp_seq (wp_seq (test7 hh hf hc.glob ha (by omega) fun a' f1 d1 e1 => ?_))
    show (Code.cond _ _ _).wp Tryz.prog _ a' w
    refine wp_cond_false (by rw [e1, blt_no (Nat.lt_irrefl _)]) (wp_exit ?_)
    exact hK tm S ρ a' w hh hok hc f1 (d1.trans hd) ha
  | succ d ih =>
    intro i tm S ρ a w hi hl hc hf hd ha
    obtain ⟨hh, hok⟩ := lp1_head hl
    rw [show 40 - i = (40 - (i + 1)) + 1 by omega] at hl
    obtain ⟨tm', S', hr, hl'⟩ := lp1_next hl
    rw [rounds_succ]
    refine wp_seq (wp_seq (test7 hh hf hc.glob ha (by omega) fun a' f1 d1 e1 => ?_))
    show (Code.cond _ _ _).wp Tryz.prog _ a' w
    refine wp_cond_true (by rw [e1, blt_yes (show i < k by omega)]) (wp_skip ?_)
    show (restOf (lpB cL1)).wp Tryz.prog _ a' w
    refine piece1 (restOf (lpB cL1)) ⟨hc.rel, f1, hc.glob⟩ hr (fun ρ' a2 w2 hs hat hd2 => ?_)
    exact ih (i + 1) tm' S' ρ' a2 w2 (by omega) hl' (hc.step hs) hat.fr (by rw [hd2, d1]; exact hd) (ha.mono hs.ext)

/-- The second loop. -/
theorem loop2 {w0 : World} {k m : Nat} (hm : m ≤ 300) (es : List (CV × CV × Nat)) (clock : Nat) {K : Act → World → Prop} {Q : Exit → Act → World → Prop}
    (hK : ∀ tm S ρ a w, ok2 m tm S = true → mapTail S = (es, clock) → Cfg Tryz.prog w0 S ρ w → FrRel ρ nt3 tm a → a.defers = [] → ArgsAre ρ k m → K a w) :
    ∀ d i tm S ρ a w, i + d = m → adv i tmL2 (startT es clock) = .normal tm S → Cfg Tryz.prog w0 S ρ w → FrRel ρ nt3 tm a → a.defers = [] → ArgsAre ρ k m →
      Code.rounds Tryz.prog (.seq (.seq (.region 13 ops13 false) (.cond (.tmp 71) .skip (.exit 2))) (restOf (lpB cL2))) (Exit.inBlock 2 (Exit.then K Q)) (d + 1) a w := by
  intro d
  induction d with
  | zero =>
    intro i tm S ρ a w hi hl hc hf hd ha
    have hi : i = m := by omega
    subst hi
    obtain ⟨tm2, S2, e1, hok, htl⟩ := adv_at es clock hm
    rw [hl] at e1
    cases e1
    obtain ⟨hh, _⟩ := ok2_some hok
    rw [rounds_succ]
    refine wp_seq (wp_seq (test13 hh hf hc.glob ha (by omega) fun a' f1 d1 e1 => ?_))
    show (Code.cond _ _ _).wp Tryz.prog _ a' w
    refine wp_cond_false (by rw [e1, blt_no (Nat.lt_irrefl _)]) (wp_exit ?_)
    exact hK tm S ρ a' w hok htl hc f1 (d1.trans hd) ha
  | succ d ih =>
    intro i tm S ρ a w hi hl hc hf hd ha
    obtain ⟨tm2, S2, e1, hok, htl⟩ := adv_at es clock (show i ≤ 300 by omega)
    rw [hl] at e1
    cases e1
    obtain ⟨hh, _⟩ := ok2_some hok
    obtain ⟨tm', S', hr, hl'⟩ := adv_step es clock (show i + 1 ≤ 300 by omega) hl
    rw [rounds_succ]
    refine wp_seq (wp_seq (test13 hh hf hc.glob ha (by omega) fun a' f1 d1 e1 => ?_))
    show (Code.cond _ _ _).wp Tryz.prog _ a' w
    refine wp_cond_true (by rw [e1, blt_yes (show i < m by omega)]) (wp_skip ?_)
    show (restOf (lpB cL2)).wp Tryz.prog _ a' w
    refine piece1 (restOf (lpB cL2)) ⟨hc.rel, f1, hc.glob⟩ hr (fun ρ' a2 w2 hs hat hd2 => ?_)
    exact ih (i + 1) tm' S' ρ' a2 w2 (by omega) hl' (hc.step hs) hat.fr (by rw [hd2, d1]; exact hd) (ha.mono hs.ext)

end Go.Ev

namespace Go.Ev
open Go.Proofs Go.RowKit

set_option maxRecDepth 100000 in
theorem limits_calls (k m : Nat) (hk : k < 65536) (hm : m < 65536) (w0 : World) : Calls Tryz.prog 3 #[.int .u8 (.ofNat k), .int .u16 (.ofNat m)] w0 (LimR w0) := by
  refine calls_of_wp func3' body3 ?_
  rw [ntmps3, shape3]
  let ρ0 : Ren := ren0 9 fun i => match i with
    | 0 => some (.int .u8 (.ofNat k))
    | 1 => some (.int .u16 (.ofNat m))
    | _ => none
  have args0 : ArgsAre ρ0 k m := ⟨rfl, rfl⟩
  have glob0 : Glob Tryz.prog ρ0 := fun g hg => by rw [nglob] at hg; simp [ρ0, ren0, hg]
  have hno : ∀ b (o : CObj), (Tr.leaf : Tr CObj).get b = some o → False := fun b o e => by
    rw [Tr.get_leaf] at e
    cases e
  have cfg0 : Cfg Tryz.prog w0 S0 ρ0 w0 := ⟨rel0 _ _ _, glob0, fun b B D ⟨o, e⟩ => (hno b o e).elim, Below.refl _ _⟩
  have fr0 : FrRel ρ0 nt3 tmA0 { tmps := #[.int .u8 (.ofNat k), .int .u16 (.ofNat m)] ++ Array.replicate (nt3 - 2) undef, defers := [] } :=
    frame_start (args := [.opq 0, .opq 1]) (L := [.int .u8 (.ofNat k), .int .u16 (.ofNat m)]) (by simp only [reals, args0.real0, args0.real1, Option.bind_some, Option.map_some]) (by decide) (by decide) []
  refine wp_seq (piece1 cR0 (nt := nt3) ⟨cfg0.rel, fr0, glob0⟩ run0 (fun ρ1 a1 w1 k1 at1 d1 => ?_))
  have cfg1 := cfg0.step k1
  have args1 := args0.mono k1.ext
  have d1 : a1.defers = [] := d1
  obtain ⟨V0, e0, t0⟩ := at1.fr.val 0 _ (by decide) tmA0_0
  obtain ⟨V1, e1, t1⟩ := at1.fr.val 1 _ (by decide) tmA0_1
  have f01 : FrRel ρ1 nt3 tm01 a1 := ((FrRel.nought at1.fr.size).know (by decide) e0 t0).know (by decide) e1 t1
  rw [args1.real0] at e0
  cases e0
  rw [args1.real1] at e1
  cases e1
  clear at1 fr0 k1
  -- the guard
  refine wp_seq ?_
  rw [cS1_eq]
  refine wp_seq (wp_region ?_)
  rw [size1]
  generalize hQ : Exit.then ((Code.cond (.tmp 17) cYes .skip).wp Tryz.prog (Exit.then ((Code.seq cR3 (.seq cS4 (.seq cL1 (.seq cL2 cEnd)))).wp Tryz.prog (bodyPost Tryz.prog Tryz.f3 (LimR w0))) (bodyPost Tryz.prog Tryz.f3 (LimR w0)))) (Exit.then ((Code.seq cR3 (.seq cS4 (.seq cL1 (.seq cL2 cEnd)))).wp Tryz.prog (bodyPost Tryz.prog Tryz.f3 (LimR w0))) (bodyPost Tryz.prog Tryz.f3 (LimR w0))) = Q
  obtain ⟨tmE, r1, r2⟩ := tget_some (runS1a_eq k)
  have key := ops_quiet (P := Tryz.prog) (Q := Q) (w := w1) cfg1.glob ((ops1.toList.drop 0).drop 2) [2, 3, 4, 5] (seg1 0 2) 0 (seg1_split 0 2) _ a1 ((FrRel.nought f01.size).know (by decide) rfl t0) f01 (freeB_mem seg1_free0) r1 ?_
  · rw [seg1_len0] at key; exact key
  intro a2 x2 f2 d2
  obtain ⟨V13, e13, t13⟩ := x2.val 13 _ (by decide) r2
  obtain ⟨V1', e1', t1'⟩ := f2.val 1 _ (by decide) tm01_1
  rw [args1.real1] at e1'
  cases e1'
  have key2 : ∀ b17, (∀ tm, runS1b m (Nat.blt 40 k) = some tm → getT 17 tm = some (.bool b17) → True) → tget 17 (runS1b m (Nat.blt 40 k)) = some (.bool b17) → (∀ a3, FrRel ρ1 nt3 tm01 a3 → a3.defers = a2.defers → a3.eval (.tmp 17) = .bool b17 → Q .normal a3 w1) → wpOps Tryz.prog ops1 Q [2, 3, 4, 5] a2 w1 := by
    intro b17 _ hb hK
    obtain ⟨tm3, s1, s2⟩ := tget_some hb
    have key3 := ops_quiet (P := Tryz.prog) (Q := Q) (w := w1) cfg1.glob ((ops1.toList.drop 2).drop 4) [] (seg1 2 4) 2 (seg1_split 2 4) _ a2 (((FrRel.nought x2.size).know (by decide) e13 t13).know (by decide) rfl t1') f2 (freeB_mem seg1_free2) s1 ?_
    · rw [seg1_len2] at key3; exact key3
    · intro a3 x3 f3 d3
      obtain ⟨V, e, t⟩ := x3.val 17 _ (by decide) s2
      have := opd_real ((FrRel.nought x3.size).know (by decide) e t) cfg1.glob (.tmp 17) _ (op17 _)
      simp only [real, Option.some.injEq] at this
      exact hK a3 f3 d3 this.symm
  -- beyond the limits: awake
  have far : ∀ a3, FrRel ρ1 nt3 tm01 a3 → a3.defers = a2.defers → a3.eval (.tmp 17) = .bool true → Q .normal a3 w1 := by
    intro a3 f3 d3 e17
    subst hQ
    show (Code.cond _ _ _).wp Tryz.prog _ a3 w1
    refine wp_cond_true e17 ?_
    have relS : Rel ρ1 ⟨.leaf, 9, 0⟩ w1 := cfg1.rel
    refine wp_mono (code_sound mixed (draw_ok _) calOK cYes .fin (.ret yesT yesS) (fun _ _ => False) (bodyPost Tryz.prog Tryz.f3 (LimR w0)) ρ1 .empty S0 a3 w1 ⟨relS, FrRel.nought f3.size, cfg1.glob⟩ runYes_eq (by simp) (fun ρ' tm' S' a' w'' _ _ _ hh => ?_) (fun e a' w'' he hh => ?_)) (fun e a w hh => ?_)
    · have hh : Res.normal tm' S' = _ := hh
      cases hh
    · obtain ⟨rfl, ρ', hs, hat, hd⟩ := hh
      obtain ⟨V4, e4, t4⟩ := hat.fr.val 4 _ (by decide) yesT4
      have hat' : At Tryz.prog nt3 ρ' (setT 4 (.bool true) .empty) yesS a' w'' := ⟨hat.rel, (FrRel.nought hat.fr.size).know (by decide) e4 t4, hat.glob⟩
      obtain ⟨U, v1, v2⟩ := results_run hat' res3_eq (res3_read _)
      refine ⟨by rw [hd, d3, d2]; exact d1, U, v2, ?_, (cfg1.step hs).below⟩
      have v1 : some (Value.bool true) = some U := v1
      cases v1
      rfl
    · cases e <;> first | exact hh.elim | exact hh
  by_cases hk40 : 40 < k
  · rw [blt_yes hk40] at key2
    exact key2 true (fun _ _ _ => trivial) (runS1b_true m) far
  rw [blt_no hk40] at key2
  by_cases hm300 : 300 < m
  · exact key2 true (fun _ _ _ => trivial) (by rw [runS1b_false, blt_yes hm300]) far
  refine key2 false (fun _ _ _ => trivial) (by rw [runS1b_false, blt_no hm300]) (fun a3 f3 d3 e17 => ?_)
  clear far key2
  subst hQ
  show (Code.cond _ _ _).wp Tryz.prog _ a3 w1
  refine wp_cond_false e17 (wp_skip ?_)
  show (Code.seq _ _).wp Tryz.prog _ a3 w1
  have d3 : a3.defers = [] := by rw [d3, d2]; exact d1
  -- the repository, and the first loop
  refine wp_seq (piece cR3 (nt := nt3) _ ⟨cfg1.rel, f3, cfg1.glob⟩ runB_eq (fun ρ4 tm4 S4 a4 w4 k4 at4 d4 r4 => ?_))
  refine wp_seq (piece cS4 _ at4 r4 (fun ρ5 tm5 S5 a5 w5 k5 at5 d5 r5 => ?_))
  rw [cL1_eq]
  refine wp_seq (wp_seq (piece1 cR6 at5 r5 (fun ρ6 a6 w6 k6 at6 d6 => ?_)))
  have hs6 := (k4.trans k5).trans k6
  have cfg6 := cfg1.step hs6
  have args6 := args1.mono hs6.ext
  have d6 : a6.defers = [] := by rw [d6, d5, d4]; exact d3
  obtain ⟨U0, u0, v0⟩ := at6.fr.val 0 _ (by decide) runB_0
  obtain ⟨U1, u1, v1⟩ := at6.fr.val 1 _ (by decide) runB_1
  obtain ⟨U5, u5, v5⟩ := at6.fr.val 5 _ (by decide) runB_5
  obtain ⟨U7, u7, v7⟩ := at6.fr.val 7 _ (by decide) runB_7
  have f6 : FrRel ρ6 nt3 tmL1 a6 := ((((FrRel.nought at6.fr.size).know (by decide) u0 v0).know (by decide) u1 v1).know (by decide) u5 v5).know (by decide) u7 v7
  have hk40 : k ≤ 40 := by omega
  have hm300 : m ≤ 300 := by omega
  refine wp_block (wp_loop_rounds (k + 1) (loop1 (m := m) hk40 (fun tm S ρ a w hh hok hc hf hd ha => ?_) k 0 tmL1 SN ρ6 a6 w6 (by omega) _root_.Go.Ev.f2 cfg6 f6 d6 args6))
  show (Code.seq _ _).wp Tryz.prog _ a w
  -- the second loop
  rw [cL2_eq]
  obtain ⟨W0, g0, y0⟩ := hf.val 0 _ (by decide) hh.a0
  obtain ⟨W1, g1, y1⟩ := hf.val 1 _ (by decide) hh.a1
  obtain ⟨W5, g5, y5⟩ := hf.val 5 _ (by decide) hh.a5
  have f015 : FrRel ρ nt3 tm015 a := (((FrRel.nought hf.size).know (by decide) g0 y0).know (by decide) g1 y1).know (by decide) g5 y5
  refine wp_seq (wp_seq (piece1 cR12 ⟨hc.rel, f015, hc.glob⟩ (run12 S) (fun ρ7 a7 w7 k7 at7 d7 => ?_)))
  have cfg7 := hc.step k7
  have args7 := ha.mono k7.ext
  obtain ⟨o10, o54, o9, onx, onk⟩ := ok1_some hok
  have cfgT : Cfg Tryz.prog w0 (startT (esK k) (clockK k)) ρ7 w7 := cfg7.weaken (fun b o e => by
    rcases startT_get e with ⟨rfl, rfl⟩ | ⟨rfl, rfl⟩ | ⟨rfl, rfl⟩
    · exact o54
    · exact o10
    · exact o9) onx onk
  have f7 : FrRel ρ7 nt3 tmL2 a7 := by rw [← tmL2_eq]; exact at7.fr
  refine wp_block (wp_loop_rounds (m + 1) (loop2 hm300 (esK k) (clockK k) (fun tm' S' ρ' a' w' hok' htl' hc' hf' hd' ha' => ?_) m 0 tmL2 (startT (esK k) (clockK k)) ρ7 a7 w7 (by omega) rfl cfgT f7 (by rw [d7]; exact hd) args7))
  -- the end
  obtain ⟨hh', hmi, hnx', hnk', cb, hr', hc2'⟩ := ok2_some hok'
  obtain ⟨y, hy⟩ := map_some hmi htl'
  obtain ⟨Z0, z0, x0⟩ := hf'.val 0 _ (by decide) hh'.a0
  obtain ⟨Z1, z1, x1⟩ := hf'.val 1 _ (by decide) hh'.a1
  obtain ⟨Z5, z5, x5⟩ := hf'.val 5 _ (by decide) hh'.a5
  rw [ha'.real0] at z0
  cases z0
  rw [ha'.real1] at z1
  cases z1
  have fE : FrRel ρ' nt3 (tmM k m) a' := (((FrRel.nought hf'.size).know (by decide) rfl x0).know (by decide) rfl x1).know (by decide) z5 x5
  exact end_wp hc' hk40 hm300 hr' hc2' hy hnx' hnk' fE hd'

end Go.Ev
