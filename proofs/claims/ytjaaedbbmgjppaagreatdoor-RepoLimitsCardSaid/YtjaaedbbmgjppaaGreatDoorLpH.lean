/-
  RepoLimits: what All gives. RepoLimits: a round of All. RepoLimits: a round of All keeps what is known. RepoLimits: into a round of All's evaluation, and back. RepoLimits: a round of All, walked. RepoLimits: All gives as many commits as there are.
-/
import Derived.Test.YtjaaedbbmgjppaaGreatDoorLpG
import Derived.Test.YtjaaedbbmgjppaaGreatDoorLpA
set_option linter.all false

namespace Go.Ev
open Go.Proofs Go.RowKit

set_option maxRecDepth 100000 in
theorem calOK : CallOK Tryz.prog cal := callF_ok mixed (draw_ok _) names' prims_ok 60

set_option maxRecDepth 100000 in
/-- A piece of code that goes straight on. -/
theorem piece {nt : Nat} (c : Code) (next : CC) {tmE : Tm} {SE : St} {ρ : Ren} {tm : Tm} {S : St} {a : Act} {w : World} {K : Act → World → Prop} {Q : Exit → Act → World → Prop} (hat : At Tryz.prog nt ρ tm S a w)
    (hrun : runN rounds (codeCC Tryz.prog nt c next) cal tm S = .normal tmE SE)
    (hK : ∀ ρ' tm' S' a' w', Stp ρ S w ρ' S' w' → At Tryz.prog nt ρ' tm' S' a' w' → a'.defers = a.defers → runN rounds next cal tm' S' = .normal tmE SE → K a' w') : c.wp Tryz.prog (Exit.then K Q) a w :=
  code_sound mixed (draw_ok _) calOK c next _ K Q ρ tm S a w hat hrun (by simp) hK (fun e a' w' he h => (he h.1).elim)

theorem piece1 {nt : Nat} (c : Code) {tmE : Tm} {SE : St} {ρ : Ren} {tm : Tm} {S : St} {a : Act} {w : World} {K : Act → World → Prop} {Q : Exit → Act → World → Prop} (hat : At Tryz.prog nt ρ tm S a w)
    (hrun : runN rounds (codeCC Tryz.prog nt c .fin) cal tm S = .normal tmE SE)
    (hK : ∀ ρ' a' w', Stp ρ S w ρ' SE w' → At Tryz.prog nt ρ' tmE SE a' w' → a'.defers = a.defers → K a' w') : c.wp Tryz.prog (Exit.then K Q) a w :=
  piece c .fin hat hrun fun ρ' tm' S' a' w' h1 h2 h3 h4 => by
    have h4 : Res.normal tm' S' = _ := h4
    cases h4
    exact hK ρ' a' w' h1 h2 h3

theorem repoAt_some {S : St} {cb n : Nat} (h : repoAt S = some (cb, n)) : ∃ id, S.heap.get 10 = some (row10x (.slice cb 0 n (.sy id n))) := by
  unfold repoAt at h
  split at h
  · rename_i cb' n' id m heq
    cases hb : Nat.beq n' m with
    | false => rw [hb] at h; cases h
    | true =>
      rw [hb, cond_true] at h
      cases h
      have := beq_of hb
      subst this
      exact ⟨id, heq⟩
  · cases h

theorem commitsOk_some {S : St} {cb n : Nat} (h : commitsOk S cb n = true) : ∃ c id, S.heap.get cb = some (.row c 0 (n * 5) true id 5) ∧ treeOk S (n * 5) c 1 0 = true := by
  unfold commitsOk at h
  split at h
  · rename_i c hi id heq
    simp only [Bool.and_eq_true] at h
    have h1 : hi = n * 5 := beq_of h.1
    subst h1
    exact ⟨c, id, heq, h.2⟩
  · cases h

theorem treeOk_get {S : St} {m : Nat} : ∀ (t : Tr CV) (a b : Nat), treeOk S m t a b = true → ∀ k v, t.get k = some v → a * k + b < m → cellOk S (a * k + b) v = true
  | .leaf, a, b, h, k, v, e, hm => by rw [Tr.get_leaf] at e; cases e
  | .node x l r, a, b, h, k, v, e, hm => by
    have h : (optOk S m b x && (treeOk S m l (2 * a) (a + b) && treeOk S m r (2 * a) (2 * a + b))) = true := h
    simp only [Bool.and_eq_true] at h
    obtain ⟨h1, h2, h3⟩ := h
    rw [Tr.get_node] at e
    split at e
    · rename_i h0
      subst h0
      subst e
      rw [Nat.mul_zero, Nat.zero_add] at hm ⊢
      unfold optOk at h1
      rw [show Nat.blt b m = true by rw [Nat.blt_eq]; exact hm] at h1
      exact h1
    · split at e
      · have := treeOk_get l (2 * a) (a + b) h2 (k / 2) v e
        have ek : a * k + b = 2 * a * (k / 2) + (a + b) := by
          have : k = 2 * (k / 2) + 1 := by omega
          generalize k / 2 = q at this
          subst this
          rw [Nat.mul_add, Nat.mul_one, ← Nat.mul_assoc, Nat.mul_comm a 2]
          omega
        rw [ek] at hm ⊢
        exact this hm
      · have := treeOk_get r (2 * a) (2 * a + b) h3 (k / 2 - 1) v e
        have ek : a * k + b = 2 * a * (k / 2 - 1) + (2 * a + b) := by
          have : k = 2 * (k / 2 - 1) + 2 := by omega
          generalize k / 2 - 1 = q at this
          subst this
          rw [Nat.mul_add, ← Nat.mul_assoc, Nat.mul_comm a 2]
          omega
        rw [ek] at hm ⊢
        exact this hm

theorem cell0 {S : St} {i : Nat} {v : CV} (h : cellOk S (5 * i) v = true) : ∃ z, v = .int .i64 z := by
  unfold cellOk at h
  rw [show Nat.mod (5 * i) 5 = 0 from (by show (5 * i) % 5 = 0; omega)] at h
  cases v <;> first | (exact (Bool.false_ne_true h).elim) | skip
  rename_i k z
  cases k <;> first | (exact ⟨_, rfl⟩) | (exact (Bool.false_ne_true h).elim)
theorem cell2 {S : St} {i : Nat} {v : CV} (h : cellOk S (5 * i + 2) v = true) : v = .nils := by
  unfold cellOk at h
  rw [show Nat.mod (5 * i + 2) 5 = 2 from (by show (5 * i + 2) % 5 = 2; omega)] at h
  cases v <;> first | rfl | (exact (Bool.false_ne_true h).elim)
theorem cell3 {S : St} {i : Nat} {v : CV} (h : cellOk S (5 * i + 3) v = true) : ∃ s, v = .str s := by
  unfold cellOk at h
  rw [show Nat.mod (5 * i + 3) 5 = 3 from (by show (5 * i + 3) % 5 = 3; omega)] at h
  cases v <;> first | (exact ⟨_, rfl⟩) | (exact (Bool.false_ne_true h).elim)
theorem cell4 {S : St} {i : Nat} {v : CV} (h : cellOk S (5 * i + 4) v = true) : v = .nils := by
  unfold cellOk at h
  rw [show Nat.mod (5 * i + 4) 5 = 4 from (by show (5 * i + 4) % 5 = 4; omega)] at h
  cases v <;> first | rfl | (exact (Bool.false_ne_true h).elim)
theorem cell1 {S : St} {i : Nat} {v : CV} (h : cellOk S (5 * i + 1) v = true) : (i = 0 ∧ v = .nils) ∨ (0 < i ∧ ∃ p id y, v = .slice p 0 1 (.sy id 1) ∧ S.heap.get p = some (rowP (.int .i64 y) id)) := by
  unfold cellOk at h
  rw [show Nat.mod (5 * i + 1) 5 = 1 from (by show (5 * i + 1) % 5 = 1; omega)] at h
  cases v <;> first | (exact (Bool.false_ne_true h).elim) | skip
  · have h : Nat.blt (5 * i + 1) 5 = true := h
    have := blt_of h
    exact .inl ⟨by omega, rfl⟩
  · rename_i p o l c
    split at h
    all_goals first
      | contradiction
      | skip
    rename_i p' id _ heq
    cases heq
    simp only [Bool.and_eq_true] at h
    have h1 : 5 < 5 * i + 1 := blt_of h.1
    have h2 := h.2
    unfold parentOk at h2
    split at h2
    · rename_i y id' heq'
      have := beq_of h2
      subst this
      exact .inr ⟨by omega, _, _, y, rfl, heq'⟩
    · cases h2

/-- The i-th commit's cells. -/
theorem commit_at {S : St} {ρ : Ren} {w : World} (hr : Rel ρ S w) {cb n : Nat} (hc : commitsOk S cb n = true) {i : Nat} (hi : i < n) :
    ∃ z ps s, loadN S cb (0 + i * 5) 5 = some [.int .i64 z, ps, .nils, .str s, .nils] ∧ ((i = 0 ∧ ps = .nils) ∨ (0 < i ∧ ∃ p id y, ps = .slice p 0 1 (.sy id 1) ∧ S.heap.get p = some (rowP (.int .i64 y) id))) := by
  obtain ⟨c, id, hcb, ht⟩ := commitsOk_some hc
  obtain ⟨B, D, O, e1, e2, e3⟩ := hr.obj cb _ hcb
  cases O with
  | cells cs t fz =>
    have cell : ∀ r, r < 5 → ∃ v, c.get (5 * i + r) = some v ∧ cellOk S (5 * i + r) v = true := by
      intro r hr5
      obtain ⟨v, V, f1, _⟩ := e3.1 (5 * i + r) (by omega)
      rw [Nat.add_zero] at f1
      refine ⟨v, f1, ?_⟩
      have := treeOk_get c 1 0 ht _ v f1 (by omega)
      rwa [Nat.one_mul, Nat.add_zero] at this
    obtain ⟨v0, a0, b0⟩ := cell 0 (by omega)
    obtain ⟨v1, a1, b1⟩ := cell 1 (by omega)
    obtain ⟨v2, a2, b2⟩ := cell 2 (by omega)
    obtain ⟨v3, a3, b3⟩ := cell 3 (by omega)
    obtain ⟨v4, a4, b4⟩ := cell 4 (by omega)
    obtain ⟨z, rfl⟩ := cell0 b0
    obtain ⟨s, rfl⟩ := cell3 b3
    have := cell2 b2
    subst this
    have := cell4 b4
    subst this
    refine ⟨z, v1, s, ?_, cell1 b1⟩
    unfold loadN
    rw [hcb]
    simp only
    rw [show Nat.ble (0 + i * 5 + 5) (n * 5) = true from Nat.ble_eq_true_of_le (by omega), cond_true]
    have e5 : 0 + i * 5 + 0 = 5 * i := by omega
    rw [e5]
    rw [Nat.add_zero] at a0
    simp only [getN, a0, a1, Nat.add_assoc, Nat.reduceAdd, a2, a3, a4]
  | _ => exact e3.elim

end Go.Ev

namespace Go.Ev
open Go.Proofs Go.RowKit

theorem f5_list (n cap : Nat) (z s y : CV) (oc : Tr CV) : ∀ N, itAll n cap z s y oc N = itExp n cap y N → ∀ i, i < N → itOne n cap z s y oc i = (true, parObj y i, some (.slice 11 0 n (.ex cap)), some (.int .i64 (.ofNat n)))
  | 0, _, i, hi => by omega
  | N + 1, h, i, hi => by
    simp only [itAll, itExp, List.cons.injEq] at h
    by_cases e : i = N
    · subst e; exact h.1
    · exact f5_list n cap z s y oc N h.2 i (by omega)

theorem isI_some {k : IntKind} {n : Nat} {o : Option CV} (h : isI k n o = true) : o = some (.int k (.ofNat n)) := by
  unfold isI at h
  split at h
  · rename_i j m
    simp only [Bool.and_eq_true] at h
    have h1 : k = j := of_decide_eq_true h.1
    have h2 := beq_of h.2
    subst h1; subst h2; rfl
  · cases h

theorem outIs_some {i : Nat} {tm : Tm} {S : St} (h : outIs (i + 1) tm S = true) : getT 3 tm = some (outCV (i + 1)) ∧ ∃ oc, S.heap.get (ob (i + 1)) = some (.row oc 0 ((i + 1) * 5) true (oi (i + 1)) 5) := by
  unfold outIs at h
  split at h
  · rename_i b m id m' heq
    simp only [Bool.and_eq_true] at h
    obtain ⟨⟨⟨⟨h1, h2⟩, h3⟩, h4⟩, h5⟩ := h
    have h1 := beq_of h1
    have h2 := beq_of h2
    have h3 := beq_of h3
    have h4 := beq_of h4
    subst h1; subst h2; subst h3; subst h4
    split at h5
    · rename_i c hi id' heq'
      simp only [Bool.and_eq_true] at h5
      have h6 : hi = (i + 1) * 5 := beq_of h5.1
      have h7 := beq_of h5.2
      subst h6; subst h7
      exact ⟨heq, c, heq'⟩
    · cases h5
  · cases h

theorem f5_at (n cap : Nat) (z y : Int) (s : List Nat) (oc : Tr CV) {i : Nat} (hi : i < 256) :
    ∃ tm1 S1 tm2 S2, itRun n cap (.int .i64 z) (.str s) (.int .i64 y) oc i = .normal tm1 S1 ∧ runC (codeCC Tryz.prog nt10 a8 .fin) cal tm1 S1 = .normal tm2 S2 ∧
      getT 3 tm2 = some (outCV (i + 1)) ∧ (∃ oc', S2.heap.get (ob (i + 1)) = some (.row oc' 0 ((i + 1) * 5) true (oi (i + 1)) 5)) ∧ getT 14 tm2 = some (.int .i64 (.ofNat (i + 1))) ∧
      S2.next ≤ bs (i + 1) ∧ S2.nk ≤ kb (i + 1) ∧ S2.heap.get (bs i) = parObj (.int .i64 y) i ∧ getT 12 tm2 = some (.slice 11 0 n (.ex cap)) ∧ getT 13 tm2 = some (.int .i64 (.ofNat n)) := by
  have h := f5_list n cap _ _ _ oc 256 (f5 n cap z y s oc) i hi
  unfold itOne at h
  split at h
  · rename_i tm1 S1 h1
    split at h
    · rename_i tm2 S2 h2
      simp only [Prod.mk.injEq, Bool.and_eq_true] at h
      obtain ⟨⟨⟨⟨b1, b2⟩, b3⟩, b4⟩, b5, b6, b7⟩ := h
      obtain ⟨o1, o2⟩ := outIs_some b1
      exact ⟨tm1, S1, tm2, S2, h1, h2, o1, o2, isI_some b2, ble_of b3, ble_of b4, b5, b6, b7⟩
    · simp at h
  · simp at h

theorem a5_eq : a5 = .region 5 (opsOf a5) false := by kernel_rfl
theorem a6_eq : a6 = .region 6 (opsOf a6) false := by kernel_rfl
theorem aCond_eq : sqL (sqR aBody) = .cond (.tmp 15) .skip (.exit 0) := by kernel_rfl
noncomputable def op5 : Oper := (opsOf a5)[0]!
noncomputable def op60 : Oper := (opsOf a6)[0]!
noncomputable def op61 : Oper := (opsOf a6)[1]!
theorem op5_at : (opsOf a5)[0]? = some op5 := by kernel_rfl
theorem op60_at : (opsOf a6)[0]? = some op60 := by kernel_rfl
theorem op61_at : (opsOf a6)[1]? = some op61 := by kernel_rfl
theorem size5 : (opsOf a5).size = 1 := by kernel_rfl
theorem size6 : (opsOf a6).size = 4 := by kernel_rfl
theorem free5 : guC (opsOf a5).toList op5 = .free := by kernel_rfl
theorem free60 : guC (opsOf a6).toList op60 = .free := by kernel_rfl
theorem free61 : guC (opsOf a6).toList op61 = .free := by kernel_rfl
theorem dst5 : op5.dst = some 15 := by kernel_rfl
theorem dst60 : op60.dst = some 16 := by kernel_rfl
theorem dst61 : op61.dst = some 17 := by kernel_rfl
theorem opc5 : opC Tryz.prog op5.op = .pure (eval2 (opd Tryz.prog (.tmp 14)) (opd Tryz.prog (.tmp 13)) (both ltI)) := by kernel_rfl
theorem opc60 : opC Tryz.prog op60.op = .pure (eval2 (opd Tryz.prog (.tmp 12)) (opd Tryz.prog (.tmp 14)) (indexAddrSl 5)) := by kernel_rfl
theorem opc61 : opC Tryz.prog op61.op = .read (loadR 5 true (opd Tryz.prog (.tmp 16))) := by kernel_rfl
theorem dstOf15 : ∃ x, dstOf nt10 (some 15) = some x ∧ ∀ v tm, putD x v tm = setT 15 v tm := ⟨_, rfl, fun _ _ => rfl⟩

/-- What is known of the frame at a round's head. -/
noncomputable def tmI (cb n id i : Nat) : Tm := setT 12 (.slice cb 0 n (.sy id n)) (setT 13 (.int .i64 (.ofNat n)) (setT 14 (.int .i64 (.ofNat i)) .empty))

structure AInv (w0 : World) (S : St) (ρ : Ren) (cb n id : Nat) (i : Nat) (a : Act) (w : World) : Prop where
  cfg : Cfg Tryz.prog w0 S ρ w
  fr : FrRel ρ nt10 (tmI cb n id i) a
  dfs : a.defers = []
  out : ∃ ρo : Ren, Glob Tryz.prog ρo ∧ (∀ b, bs i ≤ b → ρo.b b = none) ∧ (∀ k, kb i ≤ k → ρo.k k = none) ∧ FrRel ρo nt10 (setT 3 (outCV i) .empty) a ∧ ρo.b 11 = ρ.b cb ∧
    (0 < i → ∃ oc O D Ob, ρo.b (ob i) = some (O, D) ∧ w.heap[O]? = some Ob ∧ ObjRel ρo D (.row oc 0 (i * 5) true (oi i) 5) Ob ∧ w0.heap.size ≤ O ∧ ∀ b D', S.has b → ρ.b b ≠ some (O, D'))

end Go.Ev

namespace Go.Ev
open Go.Proofs Go.RowKit

theorem put_at {a : Act} {d : Nat} {V : Value} (h : d < a.tmps.size) : (a.put (some d) V).tmps[d]? = some V := by
  simp only [Act.put]
  exact Array.getElem?_setIfInBounds_self_of_lt h

theorem put_other {a : Act} {d t : Nat} {V : Value} (h : d ≠ t) : (a.put (some d) V).tmps[t]? = a.tmps[t]? := by
  simp only [Act.put]
  exact Array.getElem?_setIfInBounds_ne h

theorem put_size {a : Act} {d : Option Tmp} {V : Value} : (a.put d V).tmps.size = a.tmps.size := by
  cases d with
  | none => rfl
  | some d => simp [Act.put]

/-- A row under other names. -/
theorem rowP_rel {ρ ρ' : Ren} {D : Nat} {y : Int} {k k' x : Nat} {O : Obj} (h : ObjRel ρ D (rowP (.int .i64 y) k) O) (hk : ρ.k k = some x) (hk' : ρ'.k k' = some x) : ObjRel ρ' D (rowP (.int .i64 y) k') O := by
  unfold rowP at h ⊢
  cases O with
  | cells c t fz =>
    obtain ⟨h1, h2⟩ := h
    refine ⟨fun i hi => ?_, ?_⟩
    · obtain ⟨v, V, e1, e2, e3, e4⟩ := h1 i hi
      refine ⟨v, V, e1, ?_, e3, e4⟩
      have : i = 0 := by omega
      subst this
      have e1 : some (CV.int .i64 y) = some v := e1
      cases e1
      exact e2
    · rcases h2 with ⟨h2, _⟩ | ⟨hz, x', hx', h2⟩
      · cases h2
      · rw [hk] at hx'
        cases hx'
        exact .inr ⟨hz, x, hk', h2⟩
  | _ => exact h.elim

/-- A round's names: the parent's block and its spare room. -/
noncomputable def renA (ρo : Ren) (i : Nat) (x : Nat × Nat) (y : Nat) : Ren := ⟨fun b => if b = bs i then some x else ρo.b b, fun k => if k = kb i then some y else ρo.k k, ρo.v⟩

theorem renA_le {ρo : Ren} {i : Nat} (hb : ρo.b (bs i) = none) (hk : ρo.k (kb i) = none) (x : Nat × Nat) (y : Nat) : ρo.Le (renA ρo i x y) := by
  refine ⟨fun b z h => ?_, fun k z h => ?_, fun _ _ h => h⟩
  · have : b ≠ bs i := fun e => by rw [e, hb] at h; cases h
    simp [renA, this, h]
  · have : k ≠ kb i := fun e => by rw [e, hk] at h; cases h
    simp [renA, this, h]

theorem ob_ne_bs (i : Nat) : ob (i + 1) ≠ bs (i + 1) := by
  cases i with
  | zero => decide
  | succ j => show 43 + 16 * j ≠ 20 + 16 * (j + 2); omega
theorem ob_ne_bs' (i : Nat) : ob (i + 1) ≠ bs i := by
  cases i with
  | zero => decide
  | succ j => show 43 + 16 * j ≠ 20 + 16 * (j + 1); omega
theorem ob_lt (i : Nat) : ob (i + 1) < bs (i + 1) := by
  cases i with
  | zero => decide
  | succ j => show 43 + 16 * j < 20 + 16 * (j + 2); omega
theorem oi_lt (i : Nat) : oi (i + 1) < kb (i + 1) := by
  cases i with
  | zero => decide
  | succ j => show 8 + 4 * j < 2 + 4 * (j + 2); omega
theorem bs_lim {i : Nat} (h : i < 1000) : bs i + 1 < 2 ^ big := by
  show 20 + 16 * i + 1 < 2 ^ big
  simp [big]; omega
theorem ob_lim {i : Nat} (h : i < 1000) : ob i + 1 < 2 ^ big := by
  match i, h with
  | 0, _ => decide
  | 1, _ => decide
  | j + 2, h => show 43 + 16 * j + 1 < 2 ^ big; simp [big]; omega

theorem stA_heap (y : CV) (oc : Tr CV) (i : Nat) : (stA y oc (i + 1)).heap = (Tr.leaf.set big (bs (i + 1)) (some (rowP y (kb (i + 1))))).set big (ob (i + 1)) (some (.row oc 0 ((i + 1) * 5) true (oi (i + 1)) 5)) := by kernel_rfl
theorem stA_next (y : CV) (oc : Tr CV) (i : Nat) : (stA y oc (i + 1)).next = bs (i + 1) + 1 := by kernel_rfl
theorem stA_nk (y : CV) (oc : Tr CV) (i : Nat) : (stA y oc (i + 1)).nk = kb (i + 1) + 1 := by kernel_rfl

/-- The evaluator's state for a round, the parent's block and what has been gathered. -/
theorem stA_get {y : CV} {oc : Tr CV} {i b : Nat} {o : CObj} (hi : i + 1 < 1000) (h : (stA y oc (i + 1)).heap.get b = some o) :
    (b = bs (i + 1) ∧ o = rowP y (kb (i + 1))) ∨ (b = ob (i + 1) ∧ o = .row oc 0 ((i + 1) * 5) true (oi (i + 1)) 5) := by
  rw [stA_heap] at h
  by_cases e : b = ob (i + 1)
  · subst e
    rw [Tr.get_set_eq _ _ _ _ (ob_lim hi)] at h
    exact .inr ⟨rfl, (Option.some.inj h).symm⟩
  · rw [Tr.get_set_ne _ _ _ _ _ (Ne.symm e)] at h
    by_cases e' : b = bs (i + 1)
    · subst e'
      rw [Tr.get_set_eq _ _ _ _ (bs_lim hi)] at h
      exact .inl ⟨rfl, (Option.some.inj h).symm⟩
    · rw [Tr.get_set_ne _ _ _ _ _ (Ne.symm e'), Tr.get_leaf] at h
      cases h
theorem stA_bs {y : CV} {oc : Tr CV} {i : Nat} (hi : i + 1 < 1000) : (stA y oc (i + 1)).heap.get (bs (i + 1)) = some (rowP y (kb (i + 1))) := by
  rw [stA_heap, Tr.get_set_ne _ _ _ _ _ (ob_ne_bs i), Tr.get_set_eq _ _ _ _ (bs_lim hi)]

end Go.Ev

namespace Go.Ev
open Go.Proofs Go.RowKit

/-- What a round's evaluation starts in. -/
structure InA (w0 : World) (S : St) (ρ ρo : Ren) (ps : CV) (i : Nat) (w : World) (ρA : Ren) (y : Int) (oc : Tr CV) : Prop where
  rel : Rel ρA (stA (.int .i64 y) oc i) w
  own : Own w0.heap.size ρA (stA (.int .i64 y) oc i)
  le : ρo.Le ρA
  par : real ρA (parCV i) = real ρ ps
  back : ∀ ρ2 S2 w2, Stp ρA (stA (.int .i64 y) oc i) w ρ2 S2 w2 → S2.heap.get (bs i) = parObj (.int .i64 y) i → Rel ρ S w2
  out : ∀ ρ2 S2 w2, Stp ρA (stA (.int .i64 y) oc i) w ρ2 S2 w2 → S2.heap.get (bs i) = parObj (.int .i64 y) i → S2.has (ob (i + 1)) → ∀ O D, ρ2.b (ob (i + 1)) = some (O, D) → ∀ b D', S.has b → ρ.b b ≠ some (O, D')

theorem rel_lt {ρ : Ren} {S : St} {w : World} (h : Rel ρ S w) {b B D : Nat} (hb : S.has b) (e : ρ.b b = some (B, D)) : B < w.heap.size := by
  obtain ⟨o, ho⟩ := hb
  obtain ⟨B', D', O, e1, e2, _⟩ := h.obj b o ho
  rw [e] at e1
  cases e1
  exact (Array.getElem?_eq_some_iff.1 e2).1

theorem enter0 {w0 : World} {S : St} {ρ ρo : Ren} {w : World} (h : Cfg Tryz.prog w0 S ρ w) (hf : ∀ b, bs 0 ≤ b → ρo.b b = none) (hk : ∀ k, kb 0 ≤ k → ρo.k k = none) : InA w0 S ρ ρo .nils 0 w ρo 0 .leaf := by
  have hno : ∀ b, ¬ (stA (.int .i64 0) .leaf 0).has b := fun b ⟨o, e⟩ => by
    have e : (Tr.leaf : Tr CObj).get b = some o := e
    cases e
  refine ⟨⟨fun b o e => (hno b ⟨o, e⟩).elim, fun b b' B D D' hb => (hno b hb).elim, fun b hb => hf b ?_, fun k hk' => hk k ?_⟩, fun b B D hb => (hno b hb).elim, .refl _, rfl, fun ρ2 S2 w2 hs _ => ?_, fun ρ2 S2 w2 hs _ hhas O D e b D' hb e' => ?_⟩
  · have hb : bs 0 + 1 ≤ b := hb
    omega
  · have hk' : kb 0 + 1 ≤ k := hk'
    omega
  · refine ⟨fun b o e => ?_, h.rel.inj, h.rel.fresh, h.rel.freshk⟩
    obtain ⟨B, D, O, e1, e2, e3⟩ := h.rel.obj b o e
    exact ⟨B, D, O, e1, by rw [hs.keep B (Array.getElem?_eq_some_iff.1 e2).1 (fun b2 D2 hb2 => (hno b2 hb2).elim)]; exact e2, e3⟩
  · obtain ⟨b0, D0, h0, _⟩ := hs.dom _ O D hhas e (rel_lt h.rel hb e')
    exact hno b0 h0

theorem enter1 {w0 : World} {S : St} {ρ ρo : Ren} {w : World} (h : Cfg Tryz.prog w0 S ρ w) {j : Nat} (hj : j + 1 < 1000) (hf : ∀ b, bs (j + 1) ≤ b → ρo.b b = none) (hk : ∀ k, kb (j + 1) ≤ k → ρo.k k = none)
    {oc : Tr CV} {O D : Nat} {Ob : Obj} (o1 : ρo.b (ob (j + 1)) = some (O, D)) (o2 : w.heap[O]? = some Ob) (o3 : ObjRel ρo D (.row oc 0 ((j + 1) * 5) true (oi (j + 1)) 5) Ob) (o4 : w0.heap.size ≤ O) (o5 : ∀ b D', S.has b → ρ.b b ≠ some (O, D'))
    {p id : Nat} {y : Int} (hp : S.heap.get p = some (rowP (.int .i64 y) id)) : ∃ ρA, InA w0 S ρ ρo (.slice p 0 1 (.sy id 1)) (j + 1) w ρA y oc := by
  obtain ⟨B, E, PO, e1, e2, e3⟩ := h.rel.obj p _ hp
  have hx : ∃ x, ρ.k id = some x := by
    unfold rowP at e3
    cases PO with
    | cells c t fz =>
      rcases e3.2 with ⟨h0, _⟩ | ⟨_, x, hx, _⟩
      · cases h0
      · exact ⟨x, hx⟩
    | _ => exact e3.elim
  obtain ⟨x, hx⟩ := hx
  have hle := renA_le (hf _ (Nat.le_refl _)) (hk _ (Nat.le_refl _)) (B, E) x
  have hBO : B ≠ O := fun e => o5 p E ⟨_, hp⟩ (by rw [e1, e])
  have hbs : (renA ρo (j + 1) (B, E) x).b (bs (j + 1)) = some (B, E) := by simp [renA]
  have hkb : (renA ρo (j + 1) (B, E) x).k (kb (j + 1)) = some x := by simp [renA]
  have hob : (renA ρo (j + 1) (B, E) x).b (ob (j + 1)) = some (O, D) := hle.b _ _ o1
  have hlt : B < w.heap.size := (Array.getElem?_eq_some_iff.1 e2).1
  refine ⟨renA ρo (j + 1) (B, E) x, ⟨⟨fun b o e => ?_, ?_, ?_, ?_⟩, ?_, hle, ?_, ?_, ?_⟩⟩
  · rcases stA_get hj e with ⟨rfl, rfl⟩ | ⟨rfl, rfl⟩
    · exact ⟨B, E, PO, hbs, e2, rowP_rel e3 hx hkb⟩
    · exact ⟨O, D, Ob, hob, o2, o3.mono hle⟩
  · rintro b b' X Y Y' ⟨o, hb⟩ ⟨o', hb'⟩ g g'
    rcases stA_get hj hb with ⟨rfl, _⟩ | ⟨rfl, _⟩ <;> rcases stA_get hj hb' with ⟨rfl, _⟩ | ⟨rfl, _⟩
    · rfl
    · rw [hbs] at g
      rw [hob] at g'
      cases g; cases g'
      exact (hBO rfl).elim
    · rw [hob] at g
      rw [hbs] at g'
      cases g; cases g'
      exact (hBO rfl).elim
    · rfl
  · intro b hb
    rw [stA_next] at hb
    have : b ≠ bs (j + 1) := by omega
    simp [renA, this, hf b (by omega)]
  · intro k hk'
    rw [stA_nk] at hk'
    have : k ≠ kb (j + 1) := by omega
    simp [renA, this, hk k (by omega)]
  · rintro b X Y ⟨o, hb⟩ g
    rcases stA_get hj hb with ⟨rfl, _⟩ | ⟨rfl, _⟩
    · rw [hbs] at g
      cases g
      exact h.own p B E ⟨_, hp⟩ e1
    · rw [hob] at g
      cases g
      exact o4
  · show real _ (.slice (bs (j + 1)) 0 1 (.sy (kb (j + 1)) 1)) = _
    simp only [real, hbs, e1, Ren.cap, hkb, hx]
  · intro ρ2 S2 w2 hs hpar
    refine ⟨fun b o e => ?_, h.rel.inj, h.rel.fresh, h.rel.freshk⟩
    obtain ⟨B', D', O', f1, f2, f3⟩ := h.rel.obj b o e
    by_cases hB : B' = B
    · subst hB
      have := h.rel.inj b p B' D' E ⟨o, e⟩ ⟨_, hp⟩ f1 e1
      subst this
      rw [hp] at e
      cases e
      rw [e1] at f1
      cases f1
      obtain ⟨B2, D2, O2, g1, g2, g3⟩ := hs.rel.obj (bs (j + 1)) _ hpar
      rw [hs.ext.b _ _ hbs] at g1
      cases g1
      exact ⟨B', E, O2, e1, g2, rowP_rel g3 (hs.ext.k _ _ hkb) hx⟩
    · refine ⟨B', D', O', f1, ?_, f3⟩
      rw [hs.keep B' (Array.getElem?_eq_some_iff.1 f2).1 ?_]
      · exact f2
      · rintro b2 D2 ⟨o2', hb2⟩ g
        rcases stA_get hj hb2 with ⟨rfl, _⟩ | ⟨rfl, _⟩
        · rw [hbs] at g
          cases g
          exact hB rfl
        · rw [hob] at g
          cases g
          exact o5 b D' ⟨o, e⟩ f1
  · intro ρ2 S2 w2 hs hpar hhas O2 D2 g b D' hb e'
    obtain ⟨b0, D0, ⟨o0, h0⟩, g0⟩ := hs.dom _ O2 D2 hhas g (rel_lt h.rel hb e')
    rcases stA_get hj h0 with ⟨rfl, _⟩ | ⟨rfl, _⟩
    · rw [hbs] at g0
      cases g0
      exact ob_ne_bs' (j + 1) (hs.rel.inj _ _ _ _ _ hhas ⟨_, hpar⟩ g (hs.ext.b _ _ hbs))
    · rw [hob] at g0
      cases g0
      exact o5 b D' hb e'

end Go.Ev

namespace Go.Ev
open Go.Proofs Go.RowKit

theorem aBody_eq : aBody = .seq a5 (.seq (.cond (.tmp 15) .skip (.exit 0)) (.seq (.block 1 (.seq a6 a7)) a8)) := by kernel_rfl
theorem ev5 (cb n id i : Nat) : eval2 (opd Tryz.prog (.tmp 14)) (opd Tryz.prog (.tmp 13)) (both ltI) (tmI cb n id i) = some (.bool (Nat.blt i n)) := by kernel_rfl
theorem ev60 (cb n id i : Nat) : eval2 (opd Tryz.prog (.tmp 12)) (opd Tryz.prog (.tmp 14)) (indexAddrSl 5) (tmI cb n id i) = (bif Nat.blt i n then some (.ptr cb (0 + i * 5)) else none) := by kernel_rfl
theorem ev61 (cb o : Nat) (S : St) : loadR 5 true (opd Tryz.prog (.tmp 16)) (setT 16 (.ptr cb o) .empty) S = (match loadN S cb o 5 with
      | some l => some (.agg l)
      | none => none) := by kernel_rfl
theorem op15 (b : Bool) : (opd Tryz.prog (.tmp 15)).eval (setT 15 (.bool b) .empty) = some (.bool b) := by kernel_rfl
theorem noI15 (cb n id i : Nat) : getT 15 (tmI cb n id i) = none := by kernel_rfl
theorem noI16 (cb n id i : Nat) : getT 16 (tmI cb n id i) = none := by kernel_rfl
theorem noI17 (cb n id i : Nat) : getT 17 (tmI cb n id i) = none := by kernel_rfl
theorem no3 (v : CV) : getT 15 (setT 3 v .empty) = none ∧ getT 16 (setT 3 v .empty) = none ∧ getT 17 (setT 3 v .empty) = none := by
  refine ⟨?_, ?_, ?_⟩ <;> kernel_rfl
theorem i12 (cb n id i : Nat) : getT 12 (tmI cb n id i) = some (.slice cb 0 n (.sy id n)) := by kernel_rfl
theorem i13 (cb n id i : Nat) : getT 13 (tmI cb n id i) = some (.int .i64 (.ofNat n)) := by kernel_rfl
theorem i14 (cb n id i : Nat) : getT 14 (tmI cb n id i) = some (.int .i64 (.ofNat i)) := by kernel_rfl
theorem i3 (v : CV) : getT 3 (setT 3 v .empty) = some v := by kernel_rfl

theorem freeI {cb n id i d : Nat} (h : d = 15 ∨ d = 16 ∨ d = 17) : ∀ e, (some d : Option Tmp) = some e → getT e (tmI cb n id i) = none := by
  intro e he
  cases he
  rcases h with rfl | rfl | rfl
  · exact noI15 ..
  · exact noI16 ..
  · exact noI17 ..
theorem free3 {v : CV} {d : Nat} (h : d = 15 ∨ d = 16 ∨ d = 17) : ∀ e, (some d : Option Tmp) = some e → getT e (setT 3 v .empty) = none := by
  intro e he
  cases he
  rcases h with rfl | rfl | rfl
  · exact (no3 v).1
  · exact (no3 v).2.1
  · exact (no3 v).2.2

theorem drop6 : (opsOf a6).toList.drop 2 = (opsOf a6).toList.drop 2 := rfl
theorem len6 : ((opsOf a6).toList.drop 2).length = 2 := by kernel_rfl

/-- The test of a round. -/
theorem round_test {w0 : World} {S : St} {ρ : Ren} {cb n id i : Nat} {a : Act} {w : World} (h : AInv w0 S ρ cb n id i a w) {Q : Exit → Act → World → Prop}
    (hK : ∀ a1, a1 = a.put (some 15) (.bool (Nat.blt i n)) → a1.eval (.tmp 15) = .bool (Nat.blt i n) → Q .normal a1 w) : a5.wp Tryz.prog Q a w := by
  rw [a5_eq]
  refine wp_region ?_
  rw [size5]
  show wpOps Tryz.prog (opsOf a5) Q [0] a w
  refine op_pure h.cfg.glob op5_at free5 opc5 h.fr (ev5 cb n id i) (fun V hV => ?_)
  simp only [real, Option.some.injEq] at hV
  subst hV
  rw [dst5]
  have hsz : nt10 ≤ a.tmps.size := h.fr.size
  have hf : FrRel ρ nt10 (setT 15 (.bool (Nat.blt i n)) .empty) (a.put (some 15) (.bool (Nat.blt i n))) :=
    (FrRel.nought (by rw [put_size]; exact hsz)).know (by decide) rfl (put_at (by unfold nt10 at hsz; omega))
  have := opd_real hf h.cfg.glob (.tmp 15) _ (op15 _)
  simp only [real, Option.some.injEq] at this
  exact hK _ rfl this.symm

set_option maxRecDepth 100000 in
/-- A round that goes on. -/
theorem round_on {w0 : World} {S : St} {ρ : Ren} {cb n id i C D cp : Nat} (hc : commitsOk S cb n = true) (hn : n ≤ 256) (hcb : ρ.b cb = some (C, D)) (hcap : ρ.cap (.sy id n) = some cp) {a : Act} {w : World}
    (h : AInv w0 S ρ cb n id i a w) (hi : i < n) {K : Act → World → Prop} {Q : Exit → Act → World → Prop} (hK : ∀ a2 w2, AInv w0 S ρ cb n id (i + 1) a2 w2 → K a2 w2) : aBody.wp Tryz.prog (Exit.then K Q) a w := by
  have hlt : Nat.blt i n = true := by rw [Nat.blt_eq]; exact hi
  rw [aBody_eq]
  refine wp_seq (round_test h fun a1 ha1 he1 => ?_)
  show (Code.seq _ _).wp Tryz.prog (Exit.then K Q) a1 w
  refine wp_seq (wp_cond_true (by rw [he1, hlt]) (wp_skip ?_))
  show (Code.seq _ _).wp Tryz.prog (Exit.then K Q) a1 w
  have hsz : nt10 ≤ a.tmps.size := h.fr.size
  have hsz' : 25 ≤ a.tmps.size := hsz
  have fr1 : FrRel ρ nt10 (tmI cb n id i) a1 := by rw [ha1]; exact h.fr.put_free (freeI (.inl rfl)) _
  obtain ⟨ρo, g1, g2, g3, g4, g5, g6⟩ := h.out
  have fo1 : FrRel ρo nt10 (setT 3 (outCV i) .empty) a1 := by rw [ha1]; exact g4.put_free (free3 (.inl rfl)) _
  have d1 : a1.defers = [] := by rw [ha1, put_defers]; exact h.dfs
  have s1 : 25 ≤ a1.tmps.size := by rw [ha1, put_size]; exact hsz'
  clear ha1 he1
  refine wp_seq (wp_block (wp_seq ?_))
  rw [a6_eq]
  refine wp_region ?_
  rw [size6]
  show wpOps Tryz.prog (opsOf a6) _ [0, 1, 2, 3] a1 w
  refine op_pure h.cfg.glob op60_at free60 opc60 fr1 (v := .ptr cb (0 + i * 5)) (by rw [ev60, hlt, cond_true]) (fun V16 h16 => ?_)
  rw [dst60]
  obtain ⟨z, ps, s, hl, hps⟩ := commit_at h.cfg.rel hc hi
  have f16 : FrRel ρ nt10 (setT 16 (.ptr cb (0 + i * 5)) .empty) (a1.put (some 16) V16) :=
    (FrRel.nought (by rw [put_size]; exact s1)).know (by decide) h16 (put_at (by omega))
  refine op_read h.cfg.rel h.cfg.glob op61_at free61 opc61 f16 (v := .agg [.int .i64 z, ps, .nils, .str s, .nils]) (by rw [ev61, hl]) (fun V17 h17 => ?_)
  rw [dst61]
  generalize ha3 : (a1.put (some 16) V16).put (some 17) V17 = a3
  have fr3 : FrRel ρ nt10 (tmI cb n id i) a3 := by rw [← ha3]; exact (fr1.put_free (freeI (.inr (.inl rfl))) _).put_free (freeI (.inr (.inr rfl))) _
  have fo3 : FrRel ρo nt10 (setT 3 (outCV i) .empty) a3 := by rw [← ha3]; exact (fo1.put_free (free3 (.inr (.inl rfl))) _).put_free (free3 (.inr (.inr rfl))) _
  have d3 : a3.defers = [] := by rw [← ha3, put_defers, put_defers]; exact d1
  have s3 : 25 ≤ a3.tmps.size := by rw [← ha3, put_size, put_size]; exact s1
  have t17 : a3.tmps[17]? = some V17 := by rw [← ha3]; exact put_at (by rw [put_size]; omega)
  clear ha3 f16 h16 fr1 fo1
  -- into the round's own names
  obtain ⟨ρA, y, oc, hA⟩ : ∃ ρA y oc, InA w0 S ρ ρo ps i w ρA y oc := by
    rcases hps with ⟨rfl, rfl⟩ | ⟨hpos, p, pid, y, rfl, hp⟩
    · exact ⟨ρo, 0, .leaf, enter0 h.cfg g2 g3⟩
    · obtain ⟨oc, O, D', Ob, o1, o2, o3, o4, o5⟩ := g6 hpos
      cases i with
      | zero => omega
      | succ j =>
        obtain ⟨ρA, hA⟩ := enter1 h.cfg (by omega) g2 g3 o1 o2 o3 o4 o5 hp
        exact ⟨ρA, y, oc, hA⟩
  have gA : Glob Tryz.prog ρA := g1.mono hA.le
  obtain ⟨V12, e12, t12⟩ := fr3.val 12 _ (by decide) (i12 cb n id i)
  obtain ⟨V13, e13, t13⟩ := fr3.val 13 _ (by decide) (i13 cb n id i)
  obtain ⟨V14, e14, t14⟩ := fr3.val 14 _ (by decide) (i14 cb n id i)
  obtain ⟨V3, e3, t3⟩ := fo3.val 3 _ (by decide) (i3 _)
  have r12 : real ρA (.slice 11 0 n (.ex cp)) = some V12 := by
    rw [← e12]
    have ex : ρA.cap (.ex cp) = some cp := rfl
    simp only [real, hA.le.b _ _ (g5.trans hcb), hcb, Option.bind_some, hcap, ex]
  have r17 : real ρA (.agg [.int .i64 z, parCV i, .nils, .str s, .nils]) = some V17 := by
    rw [← h17]
    simp only [real, reals, hA.par]
  have frA : FrRel ρA nt10 (tmA n cp (.int .i64 z) (.str s) i) a3 := by
    unfold tmA
    refine FrRel.know (FrRel.know (FrRel.know (FrRel.know (FrRel.know (FrRel.nought s3) (by decide) r17 t17) (by decide) (by rw [← e14]; rfl) t14) (by decide) (by rw [← e13]; rfl) t13) (by decide) r12 t12) (by decide) (real_mono hA.le _ _ e3) t3
  obtain ⟨tm1, S1, tm2, S2, q1, q2, q3, ⟨oc', q4⟩, q5, q6, q7, q8, q9, q10⟩ := f5_at n cp z y s oc (show i < 256 by omega)
  have hat : At Tryz.prog nt10 ρA (tmA n cp (.int .i64 z) (.str s) i) (stA (.int .i64 y) oc i) a3 w := ⟨hA.rel, frA, gA⟩
  have key := ops_sound (P := Tryz.prog) calOK (nt := nt10) (ops := opsOf a6) (R := rounds) (next := codeCC Tryz.prog nt10 a7 .fin) (r := .normal tm1 S1) (by simp)
    (K := fun a' w' => a7.wp Tryz.prog (Exit.inBlock 1 (Exit.then (a8.wp Tryz.prog (Exit.then K Q)) (Exit.then K Q))) a' w') (Q := Exit.inBlock 1 (Exit.then (a8.wp Tryz.prog (Exit.then K Q)) (Exit.then K Q)))
    ((opsOf a6).toList.drop 2) 2 rfl ρA _ _ a3 w hat q1 ?_
  · rw [len6] at key
    exact key
  intro ρ' tm' S' a' w' hs1 hat1 hd1 hrun1
  refine wp_mono (piece1 a7 hat1 hrun1 (K := fun a w => a8.wp Tryz.prog (Exit.then K Q) a w) (Q := Exit.inBlock 1 (Exit.then (a8.wp Tryz.prog (Exit.then K Q)) (Exit.then K Q))) (fun ρ1 a4 w1 hs2 hat2 hd2 => ?_)) (fun e a w hh => by cases e <;> exact hh)
  refine piece1 a8 hat2 q2 (fun ρ2 a5' w2 hs3 hat3 hd3 => ?_)
  have hs : Stp ρA (stA (.int .i64 y) oc i) w ρ2 S2 w2 := (hs1.trans hs2).trans hs3
  have hbelow := hA.own.step h.cfg.below h.cfg.below.size hs
  refine hK a5' w2 ⟨⟨hA.back ρ2 S2 w2 hs q8, h.cfg.glob, h.cfg.own, hbelow.2⟩, ?_, by rw [hd3, hd2, hd1]; exact d3, ρ2, hat3.glob, fun b hb => hat3.rel.fresh b (by omega), fun k hk => hat3.rel.freshk k (by omega), ?_, ?_, fun _ => ?_⟩
  · obtain ⟨U12, u12, v12⟩ := hat3.fr.val 12 _ (by decide) q9
    obtain ⟨U13, u13, v13⟩ := hat3.fr.val 13 _ (by decide) q10
    obtain ⟨U14, u14, v14⟩ := hat3.fr.val 14 _ (by decide) q5
    unfold tmI
    refine FrRel.know (FrRel.know (FrRel.know (FrRel.nought hat3.fr.size) (by decide) (by rw [← u14]; rfl) v14) (by decide) (by rw [← u13]; rfl) v13) (by decide) ?_ v12
    rw [e12, ← r12] 
    rw [real_mono hs.ext _ _ r12] at u12
    rw [r12]; exact u12
  · obtain ⟨U3, u3, v3⟩ := hat3.fr.val 3 _ (by decide) q3
    exact FrRel.know (FrRel.nought hat3.fr.size) (by decide) u3 v3
  · rw [hcb]
    exact hs.ext.b _ _ (hA.le.b _ _ (g5.trans hcb))
  · obtain ⟨O, D', Ob, o1, o2, o3⟩ := hat3.rel.obj _ _ q4
    exact ⟨oc', O, D', Ob, o1, o2, o3, hbelow.1 _ _ _ ⟨_, q4⟩ o1, hA.out ρ2 S2 w2 hs q8 ⟨_, q4⟩ O D' o1⟩

end Go.Ev

namespace Go.Ev
open Go.Proofs Go.RowKit

noncomputable def b0 : Code := sqL c10
noncomputable def b1 : Code := sqL (sqR c10)
noncomputable def b3 : Code := sqL (sqR (sqR c10))
noncomputable def b4 : Code := sqL (sqL (sqR (sqR (sqR c10))))
noncomputable def bTail : Code := sqR (sqR (sqR (sqR c10)))
theorem c10_eq : c10 = .seq b0 (.seq b1 (.seq b3 (.seq (.seq b4 (.block 0 (.loop aBody))) bTail))) := by kernel_rfl
theorem body10 : Tryz.f10.body = some c10 := by kernel_rfl
theorem ntmps10 : Tryz.f10.ntmps = nt10 := by kernel_rfl

noncomputable def resT : Res → Tm
  | .normal tm _ => tm
  | _ => .empty
noncomputable def stV (x : CV) (nx nk : Nat) : St := ⟨Tr.leaf.set big 10 (some (row10x x)), nx, nk⟩
noncomputable def runV (x : CV) (nx nk : Nat) : Res := runN rounds (codeCC Tryz.prog nt10 b0 (codeCC Tryz.prog nt10 b1 (codeCC Tryz.prog nt10 b3 (codeCC Tryz.prog nt10 b4 .fin)))) cal (setT 0 (.ptr 10 0) .empty) (stV x nx nk)
theorem runV_eq (cb n id nx nk : Nat) : runV (.slice cb 0 n (.sy id n)) nx nk = .normal (resT (runV (.slice cb 0 n (.sy id n)) nx nk)) (stV (.slice cb 0 n (.sy id n)) nx nk) := by kernel_rfl
theorem runV12 (cb n id nx nk : Nat) : getT 12 (resT (runV (.slice cb 0 n (.sy id n)) nx nk)) = some (.slice cb 0 n (.sy id n)) := by kernel_rfl
theorem runV13 (cb n id nx nk : Nat) : getT 13 (resT (runV (.slice cb 0 n (.sy id n)) nx nk)) = some (.int .i64 (.ofNat n)) := by kernel_rfl
theorem runV14 (cb n id nx nk : Nat) : getT 14 (resT (runV (.slice cb 0 n (.sy id n)) nx nk)) = some (.int .i64 (.ofNat 0)) := by kernel_rfl
theorem runV3 (cb n id nx nk : Nat) : getT 3 (resT (runV (.slice cb 0 n (.sy id n)) nx nk)) = some .nils := by kernel_rfl

noncomputable def tmT (v : CV) : Tm := setT 2 v (setT 24 v (setT 3 v .empty))
theorem runTail (v : CV) (S : St) : runN rounds (codeCC Tryz.prog nt10 bTail .fin) cal (setT 3 v .empty) S = .ret (tmT v) S := by kernel_rfl
noncomputable def res10 : List (Tm → St → Option CV) := match resL Tryz.prog Tryz.f10.results.toList with
  | some l => l
  | none => []
theorem res10_eq : resL Tryz.prog Tryz.f10.results.toList = some res10 := by kernel_rfl
theorem res10_read (v : CV) (S : St) : readL res10 (tmT v) S = some [v] := by kernel_rfl

theorem stV_get {x : CV} {nx nk b : Nat} {o : CObj} (h : (stV x nx nk).heap.get b = some o) : b = 10 ∧ o = row10x x := by
  have h : (Tr.leaf.set big 10 (some (row10x x))).get b = some o := h
  by_cases e : b = 10
  · subst e
    rw [Tr.get_set_eq _ _ _ _ (by simp [big])] at h
    exact ⟨rfl, (Option.some.inj h).symm⟩
  · rw [Tr.get_set_ne _ _ _ _ _ (Ne.symm e), Tr.get_leaf] at h
    cases h

set_option maxRecDepth 100000 in
theorem all_calls {w0 : World} {S : St} {ρ : Ren} {w : World} (h : Cfg Tryz.prog w0 S ρ w) {cb n : Nat} (hr : repoAt S = some (cb, n)) (hc : commitsOk S cb n = true) (hn : n ≤ 256) {V : Value} (hV : real ρ (.ptr 10 0) = some V) :
    Calls Tryz.prog 10 #[V] w fun e w' => (∃ ρo V, Glob Tryz.prog ρo ∧ real ρo (outCV n) = some V ∧ e = .returned V) ∧ Below w0.heap.size w0 w' := by
  obtain ⟨id, h10⟩ := repoAt_some hr
  -- the slice of commits, as it really is
  obtain ⟨C, D, cp, hcb, hcap⟩ : ∃ C D cp, ρ.b cb = some (C, D) ∧ ρ.cap (.sy id n) = some cp := by
    obtain ⟨B, E, O, e1, e2, e3⟩ := h.rel.obj 10 _ h10
    unfold row10x at e3
    cases O with
    | cells c t fz =>
      obtain ⟨v, U, f1, f2, _⟩ := e3.1 0 (by decide)
      have f1 : some (CV.slice cb 0 n (.sy id n)) = some v := f1
      cases f1
      simp only [real, Option.bind_eq_some_iff, Option.map_eq_some_iff] at f2
      obtain ⟨⟨C, D⟩, g1, cp, g2, _⟩ := f2
      exact ⟨C, D, cp, g1, g2⟩
    | _ => exact e3.elim
  refine calls_of_wp Tryz.func10 body10 ?_
  rw [ntmps10, c10_eq]
  have fr0 : FrRel ρ nt10 (setT 0 (.ptr 10 0) .empty) { tmps := #[V] ++ Array.replicate (nt10 - #[V].size) undef, defers := [] } :=
    frame_start (args := [.ptr 10 0]) (L := [V]) (by simp only [reals, hV, Option.bind_some, Option.map_some]) (by decide) (by decide) []
  have hV' : Rel ρ (stV (.slice cb 0 n (.sy id n)) S.next S.nk) w := h.rel.weaken (fun b o e => by obtain ⟨rfl, rfl⟩ := stV_get e; exact h10) (Nat.le_refl _) (Nat.le_refl _)
  have at0 : At Tryz.prog nt10 ρ (setT 0 (.ptr 10 0) .empty) (stV (.slice cb 0 n (.sy id n)) S.next S.nk) _ w := ⟨hV', fr0, h.glob⟩
  refine wp_seq (piece b0 _ at0 (runV_eq cb n id S.next S.nk) (fun ρ1 tm1 S1 a1 w1 k1 at1 e1 r1 => ?_))
  refine wp_seq (piece b1 _ at1 r1 (fun ρ2 tm2 S2 a2 w2 k2 at2 e2 r2 => ?_))
  refine wp_seq (piece b3 _ at2 r2 (fun ρ3 tm3 S3 a3 w3 k3 at3 e3 r3 => ?_))
  refine wp_seq (wp_seq (piece1 b4 at3 r3 (fun ρ4 a4 w4 k4 at4 e4 => ?_)))
  have hs := ((k1.trans k2).trans k3).trans k4
  have cfg4 : Cfg Tryz.prog w0 S ρ w4 := h.back (fun b o e => by obtain ⟨rfl, rfl⟩ := stV_get e; exact h10) hs (fun b o e => e)
  have d4 : a4.defers = [] := by rw [e4, e3, e2, e1]
  have inv0 : AInv w0 S ρ cb n id 0 a4 w4 := by
    obtain ⟨U12, u12, v12⟩ := at4.fr.val 12 _ (by decide) (runV12 cb n id S.next S.nk)
    obtain ⟨U13, u13, v13⟩ := at4.fr.val 13 _ (by decide) (runV13 cb n id S.next S.nk)
    obtain ⟨U14, u14, v14⟩ := at4.fr.val 14 _ (by decide) (runV14 cb n id S.next S.nk)
    obtain ⟨U3, u3, v3⟩ := at4.fr.val 3 _ (by decide) (runV3 cb n id S.next S.nk)
    have r12 : real ρ (.slice cb 0 n (.sy id n)) = some U12 := by
      cases hx : real ρ (.slice cb 0 n (.sy id n)) with
      | none => simp only [real, hcb, Option.bind_some, hcap, Option.map_some, reduceCtorEq] at hx
      | some X =>
        rw [real_mono hs.ext _ _ hx] at u12
        exact u12
    refine ⟨cfg4, ?_, d4, ⟨fun b => if b = 11 then ρ.b cb else if b < Tryz.prog.globals.size then some (b, 0) else none, fun _ => none, fun _ => none⟩, fun g hg => ?_, fun b hb => ?_, fun _ _ => rfl, ?_, rfl, fun h0 => (Nat.lt_irrefl _ h0).elim⟩
    · unfold tmI
      exact FrRel.know (FrRel.know (FrRel.know (FrRel.nought at4.fr.size) (by decide) (by rw [← u14]; rfl) v14) (by decide) (by rw [← u13]; rfl) v13) (by decide) r12 v12
    · rw [nglob] at hg ⊢
      simp [show g ≠ 11 by omega, hg]
    · have hb : 20 ≤ b := hb
      rw [nglob]
      simp [show b ≠ 11 by omega, show ¬ b < 9 by omega]
    · exact FrRel.know (FrRel.nought at4.fr.size) (by decide) (by rw [← u3]; rfl) v3
  refine wp_block (wp_loop_rounds (n + 1) ?_)
  have loop : ∀ d i a w', i + d = n → AInv w0 S ρ cb n id i a w' → Code.rounds Tryz.prog aBody (Exit.inBlock 0 (Exit.then (bTail.wp Tryz.prog (bodyPost Tryz.prog Tryz.f10 fun e w' => (∃ ρo V, Glob Tryz.prog ρo ∧ real ρo (outCV n) = some V ∧ e = .returned V) ∧ Below w0.heap.size w0 w')) (bodyPost Tryz.prog Tryz.f10 fun e w' => (∃ ρo V, Glob Tryz.prog ρo ∧ real ρo (outCV n) = some V ∧ e = .returned V) ∧ Below w0.heap.size w0 w'))) (d + 1) a w' := by
    intro d
    induction d with
    | zero =>
      intro i a w' hi hinv
      have hi : i = n := by omega
      subst hi
      rw [rounds_succ, aBody_eq]
      have hlt : Nat.blt i i = false := by
        cases hb : Nat.blt i i with
        | false => rfl
        | true => have := blt_of hb; omega
      refine wp_seq (round_test hinv fun a1 ha1 he1 => ?_)
      show (Code.seq _ _).wp Tryz.prog _ a1 w'
      refine wp_seq (wp_cond_false (by rw [he1, hlt]) (wp_exit ?_))
      show bTail.wp Tryz.prog _ a1 w'
      obtain ⟨ρo, g1, g2, g3, g4, g5, g6⟩ := hinv.out
      have fo : FrRel ρo nt10 (setT 3 (outCV i) .empty) a1 := by rw [ha1]; exact g4.put_free (free3 (.inl rfl)) _
      have d1 : a1.defers = [] := by rw [ha1, put_defers]; exact hinv.dfs
      have hno : ∀ b (o : CObj), (Tr.leaf : Tr CObj).get b = some o → False := fun b o e => by
        rw [Tr.get_leaf] at e
        cases e
      have relo : Rel ρo ⟨.leaf, bs i, kb i⟩ w' := ⟨fun b o e => (hno b o e).elim, fun b b' B D D' ⟨o, e⟩ => (hno b o e).elim, g2, g3⟩
      refine wp_mono (code_sound mixed (draw_ok _) calOK bTail .fin (.ret (tmT (outCV i)) ⟨.leaf, bs i, kb i⟩) (fun _ _ => False) (bodyPost Tryz.prog Tryz.f10 fun e w' => (∃ ρo V, Glob Tryz.prog ρo ∧ real ρo (outCV i) = some V ∧ e = .returned V) ∧ Below w0.heap.size w0 w') ρo _ _ a1 w' ⟨relo, fo, g1⟩ (runTail _ _) (by simp) (fun ρ' tm' S' a' w'' _ _ _ hh => ?_) (fun e a' w'' he hh => ?_)) (fun e a w hh => ?_)
      · have hh : Res.normal tm' S' = _ := hh
        cases hh
      · obtain ⟨rfl, ρ', k, hat, hd⟩ := hh
        obtain ⟨U, u1, u2⟩ := results_run hat res10_eq (res10_read _ _)
        refine ⟨by rw [hd]; exact d1, U, u2, ?_, ?_⟩
        · exact ⟨ρ', U, hat.glob, u1, rfl⟩
        · refine (Own.step (fun b B D ⟨o, e⟩ => ?_) hinv.cfg.below hinv.cfg.below.size k).2
          exact (hno b o e).elim
      · cases e <;> first | exact hh.elim | exact hh
    | succ d ih =>
      intro i a w' hi hinv
      rw [rounds_succ]
      exact round_on hc hn hcb hcap hinv (by omega) (fun a2 w2 h2 => ih (i + 1) a2 w2 (by omega) h2)
  exact loop n 0 a4 w4 (by omega) inv0

end Go.Ev
