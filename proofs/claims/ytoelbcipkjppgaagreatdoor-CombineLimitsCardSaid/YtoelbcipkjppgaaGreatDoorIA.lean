/-
  Whether two versions have the same of a path; the reference's look-up. The reference's sorted lists: an element put into a list.
-/
import Derived.Test.YtoelbcipkjppgaaGreatDoorCE
set_option linter.all false

namespace Go.Proofs
open Go.RowKit Go.Maps Go.MapKept
open Classical

theorem toList_beq (x y : ByteArray) : (x.toList == y.toList) = decide (x = y) := by
  rw [Bool.eq_iff_iff, beq_iff_eq, decide_eq_true_eq, ByteArray.toList_eq, ByteArray.toList_eq]
  exact ⟨ba_ext, fun h => by rw [h]⟩
theorem opt_same (x y : Option ByteArray) : decide (x = y) = (x.isSome == y.isSome && (x.getD .empty).toList == (y.getD .empty).toList) := by
  cases x with
  | none =>
    cases y with
    | none => rw [toList_beq]; rfl
    | some b => rfl
  | some a =>
    cases y with
    | none => rfl
    | some b =>
      rw [toList_beq]
      simp

set_option maxRecDepth 100000 in
theorem same_calls (b0 n0 b1 n1 : Nat) (f g : ByteArray → Option ByteArray) (s : ByteArray) (w : World) (h0 : SMap w b0 n0 f) (h1 : SMap w b1 n1 g) (hs : s.size ≤ 9223372036854775807) :
    Calls Tryz.prog 21 #[.map (some b0), .map (some b1), .string s] w fun e w' => e = .returned (.bool (decide (f s = g s))) ∧ w = w' := by
  have hl0 := h0.look (t := 49) Tryz.underlying49 s (le_max hs)
  have hl1 := h1.look (t := 49) Tryz.underlying49 s (le_max hs)
  have HR := Lib.hid (opt_same (f s) (g s))
  have p0 := has_calls b0 n0 f s w h0 hs
  have p1 := has_calls b1 n1 g s w h1 hs
  generalize decide (f s = g s) = r at *
  generalize (f s).isSome = x at *
  generalize (g s).isSome = y at *
  generalize (f s).getD .empty = u at *
  generalize (g s).getD .empty = v at *
  cases x <;> cases y
  all_goals
    go_enter Tryz.func21, Tryz.ntmps21
    go_wp2_with fail
    refine p0.mono ?_
    rintro e w' ⟨rfl, rfl⟩
    go_wp2_with fail
    refine p1.mono ?_
    rintro e w' ⟨rfl, rfl⟩
    go_wp2
    go_ret
    exact ⟨ret_bool (by rw [HR.out]; rfl), rfl⟩

/-- The first file of that path. -/
def firstOf : List FileT → ByteArray → Option ByteArray
  | [], _ => none
  | f :: l, p => if f.1 = p then some f.2 else firstOf l p

theorem firstOf_at {p : ByteArray} : ∀ {l : List FileT} {k : Nat} {f : FileT}, l[k]? = some f → f.1 = p → (∀ j (g : FileT), j < k → l[j]? = some g → g.1 ≠ p) → firstOf l p = some f.2
  | [], k, f, h, _, _ => by simp at h
  | a :: l, 0, f, h, hp, _ => by
    simp only [List.getElem?_cons_zero, Option.some.injEq] at h
    subst h
    unfold firstOf
    rw [if_pos hp]
  | a :: l, k + 1, f, h, hp, hj => by
    have ha : a.1 ≠ p := hj 0 a (by omega) rfl
    unfold firstOf
    rw [if_neg ha]
    exact firstOf_at (by simpa using h) hp (fun j g hjk hg => hj (j + 1) g (by omega) (by simpa using hg))
theorem firstOf_none {p : ByteArray} : ∀ {l : List FileT}, (∀ (j : Nat) (g : FileT), l[j]? = some g → g.1 ≠ p) → firstOf l p = none
  | [], _ => rfl
  | a :: l, hj => by
    unfold firstOf
    rw [if_neg (hj 0 a rfl)]
    exact firstOf_none (fun j (g : FileT) (hg : l[j]? = some g) => hj (j + 1) g (by simpa using hg))
theorem firstOf_mem {p x : ByteArray} : ∀ {l : List FileT}, firstOf l p = some x → (p, x) ∈ l
  | [], h => by cases h
  | a :: l, h => by
    unfold firstOf at h
    split at h
    · rename_i e
      cases h
      rw [← e]
      exact List.mem_cons_self ..
    · exact List.mem_cons_of_mem _ (firstOf_mem h)
theorem firstOf_eq {l : List FileT} (h : Ordered l) (p : ByteArray) : firstOf l p = textOf l p := by
  cases hx : firstOf l p with
  | some x => exact (textOf_of_mem h (firstOf_mem hx)).symm
  | none =>
    cases hy : textOf l p with
    | none => rfl
    | some y =>
      exfalso
      have hm := textOf_mem hy
      clear hy h
      induction l with
      | nil => cases hm
      | cons a l ih =>
        unfold firstOf at hx
        split at hx
        · cases hx
        · rename_i hne
          rcases List.mem_cons.1 hm with e | hm
          · subst e; exact hne rfl
          · exact ih hx hm

set_option maxRecDepth 100000 in
set_option maxHeartbeats 1000000 in
theorem rtext_calls (v : Value) (l : List FileT) (p : ByteArray) (w : World) (h : FilesVal w v l) (hll : l.length ≤ 9223372036854775807) :
    Calls Tryz.prog 22 #[v, .string p] w fun e w' => e = .returned (.tuple #[.string ((firstOf l p).getD .empty), .bool (firstOf l p).isSome]) ∧ w = w' := by
  obtain ⟨a, c, rfl⟩ := h.slice
  go_enter Tryz.func22, Tryz.ntmps22
  go_wp2
  go_loop [6] (fun i => ∃ k : Nat, k ≤ l.length ∧ (∀ j (f : FileT), j < k → l[j]? = some f → f.1 ≠ p) ∧ i = .int .i64 k) (fun i => l.length - (intOf i).toNat)
  case atStart => exact ⟨0, by omega, fun j f h => by omega, rfl⟩
  case round =>
    obtain ⟨k, hk, hs, rfl⟩ := hrel
    have HS := Lib.hid hs
    clear hs
    by_cases hlt : k < l.length
    · obtain ⟨b, off, rfl, hb, hc⟩ : ∃ b off, a = some ⟨b, off, none⟩ ∧ b < w.heap.size ∧ FilesAt w b off l := by
        rcases h with ⟨_, hnil⟩ | ⟨b, off, cap, e, hb, hc⟩
        · subst hnil; simp at hlt
        · cases e; exact ⟨b, off, rfl, hb, hc⟩
      obtain ⟨f, hf⟩ : ∃ f, l[k]? = some f := ⟨l[k], List.getElem?_eq_getElem hlt⟩
      obtain ⟨c1, c2⟩ := hc k f hf
      have HF := Lib.hid hf
      clear hf
      by_cases hz : f.1 = p
      · have hq : (f.1.toList == p.toList) = true := by rw [toList_beq]; simpa using hz
        have HR : Hid (firstOf l p = some f.2) := Lib.hid (firstOf_at HF.out hz HS.out)
        go_wp2
        go_ret2
        exact ⟨by rw [HR.out]; rfl, rfl⟩
      · have hq : (f.1.toList == p.toList) = false := by rw [toList_beq]; simpa using hz
        go_wp2
        go_round
        case rel =>
          refine ⟨k + 1, by omega, fun j f' hj hf' => ?_, by go_num⟩
          by_cases e : j = k
          · subst e
            rw [HF.out] at hf'
            cases hf'
            exact hz
          · exact HS.out j f' (by omega) hf'
        case measure => simp [intOf]; omega
    · have HR : Hid (firstOf l p = none) := Lib.hid (firstOf_none fun (j : Nat) (g : FileT) hg => HS.out j g (by have := (List.getElem?_eq_some_iff.1 hg).1; omega) hg)
      go_wp2
      go_ret2
      exact ⟨by rw [HR.out]; rfl, rfl⟩
end Go.Proofs

namespace Go.Proofs
open Go.RowKit Go.Maps Go.MapKept
open Classical

/-- One round: what came so far; whether the new element is in it. -/
noncomputable def putStep (s : ByteArray) (z : List ByteArray × Bool) (x : ByteArray) : List ByteArray × Bool :=
  if z.2 = true ∨ x = s then (z.1 ++ [x], true) else if Op.bytesLess s.toList x.toList = true then (z.1 ++ [s, x], true) else (z.1 ++ [x], false)
noncomputable def putZ (s : ByteArray) (l : List ByteArray) : List ByteArray × Bool := l.foldl (putStep s) ([], false)
noncomputable def putL (l : List ByteArray) (s : ByteArray) : List ByteArray := if (putZ s l).2 = true then (putZ s l).1 else (putZ s l).1 ++ [s]

theorem putZ_take {s : ByteArray} {l : List ByteArray} {k : Nat} {x : ByteArray} (h : l[k]? = some x) : putZ s (l.take (k + 1)) = putStep s (putZ s (l.take k)) x := by
  unfold putZ
  rw [List.take_add_one, h]
  simp
theorem putZ_length (s : ByteArray) (l : List ByteArray) : (putZ s l).1.length ≤ l.length + (if (putZ s l).2 = true then 1 else 0) := by
  refine snoc_ind (Q := fun l => (putZ s l).1.length ≤ l.length + (if (putZ s l).2 = true then 1 else 0)) (by simp [putZ]) (fun l a ih => ?_) l
  have e : putZ s (l ++ [a]) = putStep s (putZ s l) a := by simp [putZ]
  rw [e]
  generalize putZ s l = z at *
  unfold putStep
  simp only [List.length_append, List.length_cons, List.length_nil]
  by_cases h1 : z.2 = true ∨ a = s
  · rw [if_pos h1]
    simp only [List.length_append, List.length_cons, List.length_nil, if_true]
    split at ih <;> omega
  · rw [if_neg h1]
    have h2 : ¬ z.2 = true := fun h => h1 (.inl h)
    rw [if_neg h2] at ih
    split
    · simp only [List.length_append, List.length_cons, List.length_nil, if_true]
      omega
    · simp only [List.length_append, List.length_cons, List.length_nil]
      omega
theorem putL_length (l : List ByteArray) (s : ByteArray) : (putL l s).length ≤ l.length + 1 := by
  have h := putZ_length s l
  unfold putL
  split
  · rename_i h1
    rw [if_pos h1] at h
    omega
  · rename_i h1
    rw [if_neg h1] at h
    simp only [List.length_append, List.length_cons, List.length_nil]
    omega

theorem less_ltB (x y : ByteArray) : Op.bytesLess x.toList y.toList = true ↔ ltB x y := by
  simp only [bytesLess_eq, decide_eq_true_eq, ByteArray.toList_eq]
  exact Iff.rfl

/-- A sorted list without the new element becomes a sorted one with it. -/
theorem putL_sorted {l : List ByteArray} (h : l.Pairwise ltB) (s : ByteArray) : (putL l s).Pairwise ltB ∧ ∀ p, p ∈ putL l s ↔ p ∈ l ∨ p = s := by
  have key : ∀ l : List ByteArray, l.Pairwise ltB →
      ((putZ s l).2 = false → (putZ s l).1 = l ∧ ∀ x ∈ l, ltB x s) ∧
      ((putZ s l).2 = true → (putZ s l).1.Pairwise ltB ∧ (∀ p, p ∈ (putZ s l).1 ↔ p ∈ l ∨ p = s) ∧ ∃ y ∈ l, s = y ∨ ltB s y) := by
    intro l
    refine snoc_ind (Q := fun l => l.Pairwise ltB → ((putZ s l).2 = false → (putZ s l).1 = l ∧ ∀ x ∈ l, ltB x s) ∧
      ((putZ s l).2 = true → (putZ s l).1.Pairwise ltB ∧ (∀ p, p ∈ (putZ s l).1 ↔ p ∈ l ∨ p = s) ∧ ∃ y ∈ l, s = y ∨ ltB s y)) (fun _ => by simp [putZ]) (fun l a ih hs => ?_) l
    obtain ⟨hl, _, hla⟩ := List.pairwise_append.1 hs
    obtain ⟨i0, i1⟩ := ih hl
    have e : putZ s (l ++ [a]) = putStep s (putZ s l) a := by simp [putZ]
    rw [e]
    generalize putZ s l = z at *
    obtain ⟨o, d⟩ := z
    unfold putStep
    cases d with
    | true =>
      obtain ⟨j0, j1, y, j2, j3⟩ := i1 rfl
      simp only [true_or, if_true]
      refine ⟨fun h => by simp at h, fun _ => ⟨?_, fun p => ?_, y, by simp [j2], j3⟩⟩
      · refine List.pairwise_append.2 ⟨j0, by simp, fun x hx b hb => ?_⟩
        obtain rfl : b = a := by simpa using hb
        rcases (j1 x).1 hx with hx | rfl
        · exact hla x hx b (by simp)
        · rcases j3 with rfl | j3
          · exact hla x j2 b (by simp)
          · exact ltB_trans j3 (hla y j2 b (by simp))
      · simp only [List.mem_append, j1 p, List.mem_singleton]
        constructor
        · rintro ((h | h) | h) <;> simp [h]
        · rintro ((h | h) | h) <;> simp [h]
    | false =>
      obtain ⟨rfl, i2⟩ := i0 rfl
      by_cases ha : a = s
      · subst ha
        simp only [or_true, if_true]
        refine ⟨fun h => by simp at h, fun _ => ⟨hs, fun p => ?_, a, by simp, .inl rfl⟩⟩
        simp only [List.mem_append, List.mem_singleton]
        constructor
        · intro h; exact .inl h
        · rintro (h | h)
          · exact h
          · exact .inr h
      · have hn : ¬ ((false = true) ∨ a = s) := by simp [ha]
        rw [if_neg hn]
        by_cases hlt : ltB s a
        · rw [if_pos ((less_ltB s a).2 hlt)]
          refine ⟨fun h => by simp at h, fun _ => ⟨?_, fun p => ?_, a, by simp, .inr hlt⟩⟩
          · refine List.pairwise_append.2 ⟨hl, ?_, fun x hx b hb => ?_⟩
            · simp [hlt]
            · rcases List.mem_cons.1 hb with rfl | hb
              · exact i2 x hx
              · obtain rfl : b = a := by simpa using hb
                exact hla x hx b (by simp)
          · simp only [List.mem_append, List.mem_cons, List.not_mem_nil, or_false]
            constructor
            · rintro (h | h | h) <;> simp [h]
            · rintro ((h | h) | h) <;> simp [h]
        · have hlt' : ¬ Op.bytesLess s.toList a.toList = true := fun h => hlt ((less_ltB s a).1 h)
          rw [if_neg hlt']
          refine ⟨fun _ => ⟨rfl, fun x hx => ?_⟩, fun h => by simp at h⟩
          rcases List.mem_append.1 hx with hx | hx
          · exact i2 x hx
          · obtain rfl : x = a := by simpa using hx
            rcases ltB_total x s with h | h | h
            · exact h
            · exact absurd h ha
            · exact absurd h hlt
  obtain ⟨k0, k1⟩ := key l h
  unfold putL
  generalize putZ s l = z at *
  obtain ⟨o, d⟩ := z
  cases d with
  | true =>
    obtain ⟨j0, j1, _⟩ := k1 rfl
    simp only [if_true]
    exact ⟨j0, j1⟩
  | false =>
    obtain ⟨rfl, i2⟩ := k0 rfl
    simp only [Bool.false_eq_true, if_false]
    refine ⟨List.pairwise_append.2 ⟨h, by simp, fun x hx b hb => ?_⟩, fun p => by simp⟩
    obtain rfl : b = s := by simpa using hb
    exact i2 x hx

/-- The sorted list of the elements and another one. -/
noncomputable def insertL (l : List ByteArray) (s : ByteArray) : List ByteArray := putL (l.foldl putL []) s
theorem fold_length (l : List ByteArray) : ∀ o, (l.foldl putL o).length ≤ o.length + l.length := by
  induction l with
  | nil => intro o; simp
  | cons a l ih =>
    intro o
    have h1 := ih (putL o a)
    have h2 := putL_length o a
    simp only [List.foldl_cons, List.length_cons]
    omega
theorem insertL_length (l : List ByteArray) (s : ByteArray) : (insertL l s).length ≤ l.length + 1 := by
  have h1 := putL_length (l.foldl putL []) s
  have h2 := fold_length l []
  simp only [List.length_nil] at h2
  unfold insertL
  omega
theorem fold_sorted : ∀ (l o : List ByteArray), o.Pairwise ltB → (l.foldl putL o).Pairwise ltB ∧ ∀ p, p ∈ l.foldl putL o ↔ p ∈ o ∨ p ∈ l
  | [], o, h => ⟨h, fun p => by simp⟩
  | a :: l, o, h => by
    obtain ⟨h1, h2⟩ := putL_sorted h a
    obtain ⟨h3, h4⟩ := fold_sorted l (putL o a) h1
    refine ⟨h3, fun p => ?_⟩
    rw [List.foldl_cons, h4 p, h2 p, List.mem_cons, or_assoc]
theorem insertL_sorted (l : List ByteArray) (s : ByteArray) : (insertL l s).Pairwise ltB ∧ ∀ p, p ∈ insertL l s ↔ p ∈ l ∨ p = s := by
  obtain ⟨h1, h2⟩ := fold_sorted l [] .nil
  obtain ⟨h3, h4⟩ := putL_sorted h1 s
  refine ⟨h3, fun p => ?_⟩
  unfold insertL
  rw [h4 p, h2 p]
  simp

/-- The paths of more files, sorted. -/
noncomputable def insAll (o : List ByteArray) (l : List FileT) : List ByteArray := l.foldl (fun o f => insertL o f.1) o
theorem insAll_take {o : List ByteArray} {l : List FileT} {k : Nat} {f : FileT} (h : l[k]? = some f) : insAll o (l.take (k + 1)) = insertL (insAll o (l.take k)) f.1 := by
  unfold insAll
  rw [List.take_add_one, h]
  simp
theorem insAll_length (l : List FileT) : ∀ o, (insAll o l).length ≤ o.length + l.length := by
  induction l with
  | nil => intro o; simp [insAll]
  | cons a l ih =>
    intro o
    have h1 := ih (insertL o a.1)
    have h2 := insertL_length o a.1
    have e : insAll o (a :: l) = insAll (insertL o a.1) l := rfl
    rw [e]
    simp only [List.length_cons]
    omega
theorem insAll_sorted : ∀ (l : List FileT) (o : List ByteArray), o.Pairwise ltB → (insAll o l).Pairwise ltB ∧ ∀ p, p ∈ insAll o l ↔ p ∈ o ∨ ∃ f ∈ l, f.1 = p
  | [], o, h => ⟨h, fun p => by simp [insAll]⟩
  | a :: l, o, h => by
    obtain ⟨h1, h2⟩ := insertL_sorted o a.1
    obtain ⟨h3, h4⟩ := insAll_sorted l (insertL o a.1) h1
    have e : insAll o (a :: l) = insAll (insertL o a.1) l := rfl
    rw [e]
    refine ⟨h3, fun p => ?_⟩
    rw [h4 p, h2 p]
    simp only [List.mem_cons, exists_eq_or_imp, or_assoc]
    rw [show (p = a.1) = (a.1 = p) from propext eq_comm]
theorem insAll_paths (b l r : List FileT) : insAll (insAll (insAll [] b) l) r = pathsL b l r := by
  obtain ⟨h1, h2⟩ := insAll_sorted b [] .nil
  obtain ⟨h3, h4⟩ := insAll_sorted l _ h1
  obtain ⟨h5, h6⟩ := insAll_sorted r _ h3
  refine sorted_ext ltB_irrefl (fun _ _ _ => ltB_trans) h5 (pathsL_sorted b l r) fun p => ?_
  rw [h6 p, h4 p, h2 p, mem_pathsL]
  simp [or_assoc]
end Go.Proofs
