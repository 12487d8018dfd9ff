/-
  Few versions; the box that holds the three versions; what a list of merged files has for a path. CombineIndependent: the law's function answers true. CombineIndependent: the law's function answers true, whatever the three versions; an argument that is a struct of three lists of files.
-/
import Derived.Test.YtlkfgnknkoeepaaGreatDoorIC
import Derived.Deep.QuietTactic
import Derived.BigQuiet
import Derived.Test.YtlkfgnknkoeepaaGreatDoorCO
import Derived.Lib.SmallJoins
set_option linter.all false

namespace Go.Proofs
open Go.RowKit Go.Maps Go.MapKept
open Classical

set_option maxRecDepth 100000 in
set_option maxHeartbeats 1000000 in
theorem few_calls (v0 v1 v2 : Value) (l0 l1 l2 : List FileT) (w : World) (h0 : FilesVal w v0 l0) (h1 : FilesVal w v1 l1) (h2 : FilesVal w v2 l2) (k0 : FilesOK l0) (k1 : FilesOK l1) (k2 : FilesOK l2) :
    Calls Tryz.prog 10 #[.agg #[v0, v1, v2]] w fun e w' => e = .returned (.bool (littleB l0 && (littleB l1 && littleB l2))) ∧ Below w.heap.size w w' := by
  have hba := below_alloc (w := w) (.cells #[v0, v1, v2] 32)
  have p0 := little_calls v0 l0 _ (h0.below hba) k0
  have p1 := little_calls v1 l1 _ (h1.below hba) k1
  have p2 := little_calls v2 l2 _ (h2.below hba) k2
  have HBA := Lib.hid hba
  clear hba h0 h1 h2 k0 k1 k2
  generalize littleB l0 = a0 at *
  generalize littleB l1 = a1 at *
  generalize littleB l2 = a2 at *
  go_enter Tryz.func10, Tryz.ntmps10
  go_wp2_with fail
  refine p0.mono ?_
  rintro e w1 ⟨rfl, rfl⟩
  cases a0 with
  | false =>
    go_wp2
    go_ret
    exact ⟨rfl, HBA.out⟩
  | true =>
    go_wp2_with fail
    refine p1.mono ?_
    rintro e w1 ⟨rfl, rfl⟩
    cases a1 with
    | false =>
      go_wp2
      go_ret
      exact ⟨rfl, HBA.out⟩
    | true =>
      go_wp2_with fail
      refine p2.mono ?_
      rintro e w1 ⟨rfl, rfl⟩
      go_wp2
      go_ret
      exact ⟨rfl, HBA.out⟩

/-- Three versions in a variable. -/
structure Box (w0 w : World) (b : Nat) (v0 v1 v2 : Value) (l0 l1 l2 : List FileT) : Prop where
  bel : Below w0.heap.size w0 w
  lt : b < w.heap.size
  c0 : w.cell? ⟨b, 0, none⟩ = some v0
  c1 : w.cell? ⟨b, 1, none⟩ = some v1
  c2 : w.cell? ⟨b, 2, none⟩ = some v2
  f0 : FilesVal w v0 l0
  f1 : FilesVal w v1 l1
  f2 : FilesVal w v2 l2
theorem Box.below {w0 w w' : World} {b : Nat} {v0 v1 v2 : Value} {l0 l1 l2 : List FileT} (h : Box w0 w b v0 v1 v2 l0 l1 l2) (hb : Below w.heap.size w w') : Box w0 w' b v0 v1 v2 l0 l1 l2 :=
  ⟨h.bel.trans (hb.mono h.bel.size), Nat.lt_of_lt_of_le h.lt hb.size, (hb.cell (p := ⟨b, 0, none⟩) h.lt).trans h.c0, (hb.cell (p := ⟨b, 1, none⟩) h.lt).trans h.c1, (hb.cell (p := ⟨b, 2, none⟩) h.lt).trans h.c2, h.f0.below hb, h.f1.below hb, h.f2.below hb⟩
theorem Box.new {w : World} {v0 v1 v2 : Value} {l0 l1 l2 : List FileT} (h0 : FilesVal w v0 l0) (h1 : FilesVal w v1 l1) (h2 : FilesVal w v2 l2) : Box w (w.alloc (.cells #[v0, v1, v2] 32)) w.heap.size v0 v1 v2 l0 l1 l2 := by
  have hba := below_alloc (w := w) (.cells #[v0, v1, v2] 32)
  have hx := (MapKept.heap_alloc w (.cells #[v0, v1, v2] 32)).1
  refine ⟨hba, by simp, ?_, ?_, ?_, h0.below hba, h1.below hba, h2.below hba⟩ <;> (simp only [World.cell?, hx]; rfl)

/-- What merged files have for a path. -/
theorem firstOf_filterMap (g : ByteArray → Option ByteArray) (q : ByteArray) : ∀ ps : List ByteArray, q ∈ ps → firstOf (ps.filterMap fun p => (g p).map fun t => (p, t)) q = g q
  | [], h => by cases h
  | a :: ps, h => by
    have hno : q ∉ ps → firstOf (ps.filterMap fun p => (g p).map fun t => (p, t)) q = none := by
      intro hn
      refine firstOf_none fun j f hf => ?_
      obtain ⟨p, hp, he⟩ := List.mem_filterMap.1 (List.mem_of_getElem? hf)
      cases hg : g p with
      | none => rw [hg] at he; cases he
      | some t =>
        rw [hg] at he
        cases he
        intro e
        have e' : p = q := e
        exact hn (e' ▸ hp)
    by_cases ha : a = q
    · subst ha
      cases hg : g a with
      | some t =>
        rw [List.filterMap_cons_some (b := (a, t)) (by rw [hg]; rfl)]
        unfold firstOf
        rw [if_pos rfl]
      | none =>
        rw [List.filterMap_cons_none (by rw [hg]; rfl)]
        by_cases hm : a ∈ ps
        · rw [firstOf_filterMap g a ps hm, hg]
        · exact hno hm
    · have hm : q ∈ ps := by
        rcases List.mem_cons.1 h with e | h
        · exact absurd e.symm ha
        · exact h
      cases hg : g a with
      | some t =>
        rw [List.filterMap_cons_some (b := (a, t)) (by rw [hg]; rfl)]
        unfold firstOf
        rw [if_neg ha]
        exact firstOf_filterMap g q ps hm
      | none =>
        rw [List.filterMap_cons_none (by rw [hg]; rfl)]
        exact firstOf_filterMap g q ps hm

theorem firstOf_merged {b l r : List FileT} {q : ByteArray} (h : q ∈ pathsL b l r) : firstOf (mergedL b l r (pathsL b l r)) q = if textOf l q = textOf b q then textOf r q else textOf l q :=
  firstOf_filterMap (fun p => Go.Ev.mergeO (textOf b p) (textOf l p) (textOf r p)) q _ h

theorem rtext_quiet {v : Value} {l : List FileT} {p : ByteArray} {w : World} (h : FilesVal w v l) (hll : l.length ≤ 9223372036854775807) {x : Option ByteArray} (hx : firstOf l p = x) (n : Nat) :
    Calls Tryz.prog 13 #[v, .string p] (w.drewN n) fun e w'' => e = .returned (.tuple #[.string (x.getD .empty), .bool x.isSome]) ∧ ∃ m, w'' = w.drewN m := by
  have h' : FilesVal (w.drewN n) v l := h.below (below_drewN (Below.refl _ _))
  subst hx
  exact Calls.quiet_of_same ((rtext_calls v l p _ h' hll).mono fun _ _ ⟨a, b⟩ => ⟨a, b.symm⟩)

theorem rtext_quiet' {v : Value} {l : List FileT} {p : ByteArray} {w : World} (h : FilesVal w v l) (hll : l.length ≤ 9223372036854775807) {x : Option ByteArray} (hx : firstOf l p = x) (a n : Nat) :
    Calls Tryz.prog 13 #[v, .string p] (w.drewN (a + n)) fun e w'' => e = .returned (.tuple #[.string (x.getD .empty), .bool x.isSome]) ∧ ∃ m, w'' = w.drewN (a + m) := by
  have h' : FilesVal (w.drewN (a + n)) v l := h.below (below_drewN (Below.refl _ _))
  subst hx
  exact (rtext_calls v l p _ h' hll).mono fun _ _ ⟨e, b⟩ => ⟨e, n, b.symm⟩

theorem little_length {l : List FileT} (h : littleB l = true) : l.length ≤ 5 := by
  unfold littleB at h
  exact (of_decide_eq_true h).1
theorem pathsL_le (b l r : List FileT) : (pathsL b l r).length ≤ b.length + l.length + r.length := by
  unfold pathsL
  rw [sortS_length]
  have h1 := collect_length [] b
  have h2 := collect_length (collect [] b) l
  have h3 := collect_length (collect (collect [] b) l) r
  simp only [List.foldl_cons, List.foldl_nil, List.length_nil] at *
  omega
end Go.Proofs

namespace Go.Proofs
open Go.RowKit Go.Maps Go.MapKept
open Classical

set_option maxRecDepth 100000 in
set_option maxHeartbeats 1000000 in
theorem indep_little (v0 v1 v2 : Value) (l0 l1 l2 : List FileT) (w : World) (h0 : FilesVal w v0 l0) (h1 : FilesVal w v1 l1) (h2 : FilesVal w v2 l2) (k0 : FilesOK l0) (k1 : FilesOK l1) (k2 : FilesOK l2)
    (hf : (littleB l0 && (littleB l1 && littleB l2)) = false) :
    Calls Tryz.prog 4 #[.agg #[v0, v1, v2]] w fun e w' => e = .returned (.bool true) ∧ Below w.heap.size w w' := by
  have HX := Lib.hid (Box.new h0 h1 h2)
  have pf := few_calls v0 v1 v2 l0 l1 l2 _ HX.out.f0 HX.out.f1 HX.out.f2 k0 k1 k2
  rw [hf] at pf
  clear hf h0 h1 h2
  go_enter Tryz.func4, Tryz.ntmps4
  go_wp2_with fail
  refine pf.mono ?_
  rintro e w1 ⟨rfl, hb⟩
  have HX1 := Lib.hid (HX.out.below hb)
  clear hb pf
  go_wp2_with fail
  refine (Go.Ev.awake_calls _).mono ?_
  rintro e w10 ⟨rfl, hb10⟩
  have HB10 := Lib.hid (HX1.out.bel.trans (hb10.mono HX1.out.bel.size))
  clear hb10
  go_wp2
  go_ret
  exact ⟨rfl, HB10.out⟩

set_option maxRecDepth 100000 in
set_option maxHeartbeats 2000000 in
theorem indep_no (v0 v1 v2 : Value) (l0 l1 l2 : List FileT) (w : World) (h0 : FilesVal w v0 l0) (h1 : FilesVal w v1 l1) (h2 : FilesVal w v2 l2) (k0 : FilesOK l0) (k1 : FilesOK l1) (k2 : FilesOK l2)
    (hf : (littleB l0 && (littleB l1 && littleB l2)) = true) (x : Int) (hx : ∀ u e w', Indep u l0 l1 l2 e w' → e = .returned (.tuple #[.bool false, .int .i64 x]) ∧ Below u.heap.size u w') :
    Calls Tryz.prog 4 #[.agg #[v0, v1, v2]] w fun e w' => e = .returned (.bool true) ∧ Below w.heap.size w w' := by
  have HX := Lib.hid (Box.new h0 h1 h2)
  have pf := few_calls v0 v1 v2 l0 l1 l2 _ HX.out.f0 HX.out.f1 HX.out.f2 k0 k1 k2
  rw [hf] at pf
  have HXX := Lib.hid hx
  clear hf h0 h1 h2 hx
  go_enter Tryz.func4, Tryz.ntmps4
  go_wp2_with fail
  refine pf.mono ?_
  rintro e w1 ⟨rfl, hb⟩
  have HX1 := Lib.hid (HX.out.below hb)
  clear hb pf HX
  have c0 := HX1.out.c0
  have c1 := HX1.out.c1
  have c2 := HX1.out.c2
  go_wp2_with fail
  refine (cindep_calls v0 v1 v2 l0 l1 l2 _ HX1.out.f0 HX1.out.f1 HX1.out.f2 k0 k1 k2).mono ?_
  intro e w2 he
  obtain ⟨rfl, hb⟩ := HXX.out _ _ _ he
  have HX2 := Lib.hid (HX1.out.below hb)
  clear hb he HX1 c0 c1 c2
  have c0 := HX2.out.c0
  have c1 := HX2.out.c1
  have c2 := HX2.out.c2
  go_wp2_with fail
  refine (rindep_calls v0 v1 v2 l0 l1 l2 _ HX2.out.f0 HX2.out.f1 HX2.out.f2 k0 k1 k2).mono ?_
  intro e w3 he
  obtain ⟨rfl, hb⟩ := HXX.out _ _ _ he
  have HX3 := Lib.hid (HX2.out.below hb)
  clear hb he HX2 c0 c1 c2
  go_wp2_with fail
  refine (Go.Ev.awake_calls _).mono ?_
  rintro e w10 ⟨rfl, hb10⟩
  have HB10 := Lib.hid (HX3.out.bel.trans (hb10.mono HX3.out.bel.size))
  clear hb10
  go_wp2
  go_ret
  exact ⟨rfl, HB10.out⟩

theorem RepsVal.slice {w : World} {v : Value} {ps : List ByteArray} (h : RepsVal w v ps) : ∃ a c, v = .slice a ps.length c := by
  rcases h with ⟨rfl, rfl⟩ | ⟨b, cap, rfl, _⟩
  · exact ⟨_, _, rfl⟩
  · exact ⟨_, _, rfl⟩
theorem RepsVal.at {w : World} {a : Option Addr} {n c : Nat} {ps : List ByteArray} (h : RepsVal w (.slice a n c) ps) {k : Nat} {p : ByteArray} (hp : ps[k]? = some p) : ∃ b, a = some ⟨b, 0, none⟩ ∧ b < w.heap.size ∧ w.cell? ⟨b, k * 4, none⟩ = some (.string p) := by
  rcases h with ⟨_, rfl⟩ | ⟨b, cap, e, hlt, hc⟩
  · simp at hp
  · cases e
    exact ⟨b, rfl, hlt, (hc k p hp).1⟩

set_option maxRecDepth 100000 in
set_option maxHeartbeats 4000000 in
theorem indep_yes (v0 v1 v2 : Value) (l0 l1 l2 : List FileT) (w : World) (h0 : FilesVal w v0 l0) (h1 : FilesVal w v1 l1) (h2 : FilesVal w v2 l2) (k0 : FilesOK l0) (k1 : FilesOK l1) (k2 : FilesOK l2)
    (hf : (littleB l0 && (littleB l1 && littleB l2)) = true) (hgood : chk3 l0 l1 l2 = 0) (hin : indepB l0 l1 l2 = true) :
    Calls Tryz.prog 4 #[.agg #[v0, v1, v2]] w fun e w' => e = .returned (.bool true) ∧ Below w.heap.size w w' := by
  have HX := Lib.hid (Box.new h0 h1 h2)
  have pf := few_calls v0 v1 v2 l0 l1 l2 _ HX.out.f0 HX.out.f1 HX.out.f2 k0 k1 k2
  rw [hf] at pf
  have HXX : Hid (∀ u e w', Indep u l0 l1 l2 e w' → e = .returned (.tuple #[.bool true, .int .i64 0]) ∧ Below u.heap.size u w') := Lib.hid (by
    rintro u e w' ⟨hb, ⟨h, _⟩ | ⟨_, h⟩⟩
    · exact absurd hgood h
    · rw [hin] at h
      exact ⟨h, hb⟩)
  obtain ⟨g0, g1, g2⟩ := chk3_zero hgood
  have HF0 := Lib.hid (firstOf_eq (ordered_of (chkE_zero g0).2.2.1))
  have HF1 := Lib.hid (firstOf_eq (ordered_of (chkE_zero g1).2.2.1))
  have HF2 := Lib.hid (firstOf_eq (ordered_of (chkE_zero g2).2.2.1))
  have hor : ∀ p, textOf l1 p = textOf l0 p ∨ textOf l2 p = textOf l0 p ∨ textOf l1 p = textOf l2 p := by
    intro p
    by_cases hp : p ∈ pathsL l0 l1 l2
    · rcases (of_decide_eq_true hin) p hp with h | h
      · exact .inl h.symm
      · exact .inr (.inl h.symm)
    · have no : ∀ l, (∀ f ∈ l, f.1 ≠ p) → textOf l p = none := by
        intro l hl
        cases hx : textOf l p with
        | none => rfl
        | some y => exact absurd rfl (hl _ (textOf_mem hx))
      refine .inl ?_
      rw [no l0 (fun f hf e => hp (mem_pathsL.2 (.inl ⟨f, hf, e⟩))), no l1 (fun f hf e => hp (mem_pathsL.2 (.inr (.inl ⟨f, hf, e⟩))))]
  have hfew : l0.length ≤ 5 ∧ l1.length ≤ 5 ∧ l2.length ≤ 5 := by
    simp only [Bool.and_eq_true] at hf
    exact ⟨little_length hf.1, little_length hf.2.1, little_length hf.2.2⟩
  have hpl : (pathsL l0 l1 l2).length ≤ 15 := by have := pathsL_le l0 l1 l2; omega
  have hml : (mergedL l0 l1 l2 (pathsL l0 l1 l2)).length ≤ 15 := by have := mergedL_length l0 l1 l2 (pathsL l0 l1 l2); omega
  have HPL := Lib.hid hpl
  have HML := Lib.hid hml
  have HG := Lib.hid hgood
  have HOR := Lib.hid hor
  have HFM : Hid (∀ q, q ∈ pathsL l0 l1 l2 → firstOf (mergedL l0 l1 l2 (pathsL l0 l1 l2)) q = if textOf l1 q = textOf l0 q then textOf l2 q else textOf l1 q) := Lib.hid (fun q h => firstOf_merged h)
  have n0 := hfew.1
  have n1 := hfew.2.1
  have n2 := hfew.2.2
  clear hf h0 h1 h2 hgood hin hor hpl hml hfew g0 g1 g2
  go_enter Tryz.func4, Tryz.ntmps4
  go_wp2_with fail
  refine pf.mono ?_
  rintro e w1 ⟨rfl, hb⟩
  have HX1 := Lib.hid (HX.out.below hb)
  clear hb pf HX
  have c0 := HX1.out.c0
  have c1 := HX1.out.c1
  have c2 := HX1.out.c2
  go_wp2_with fail
  refine (cindep_calls v0 v1 v2 l0 l1 l2 _ HX1.out.f0 HX1.out.f1 HX1.out.f2 k0 k1 k2).mono ?_
  intro e w2 he
  obtain ⟨rfl, hb⟩ := HXX.out _ _ _ he
  have HX2 := Lib.hid (HX1.out.below hb)
  clear hb he HX1 c0 c1 c2
  have c0 := HX2.out.c0
  have c1 := HX2.out.c1
  have c2 := HX2.out.c2
  go_wp2_with fail
  refine (rindep_calls v0 v1 v2 l0 l1 l2 _ HX2.out.f0 HX2.out.f1 HX2.out.f2 k0 k1 k2).mono ?_
  intro e w3 he
  obtain ⟨rfl, hb⟩ := HXX.out _ _ _ he
  have HX3 := Lib.hid (HX2.out.below hb)
  clear hb he HX2 c0 c1 c2
  have c0 := HX3.out.c0
  have c1 := HX3.out.c1
  have c2 := HX3.out.c2
  go_wp2_with fail
  refine (merge_calls v0 v1 v2 l0 l1 l2 _ HX3.out.f0 HX3.out.f1 HX3.out.f2 k0 k1 k2 HOR.out).mono ?_
  rintro e w4 ⟨hb, ⟨h, _⟩ | ⟨_, h, _⟩ | ⟨_, _, fv, rv, rfl, hfv, hrv⟩⟩
  · exact absurd HG.out h
  · have := HML.out; omega
  have HX4 := Lib.hid (HX3.out.below hb)
  have HFV := Lib.hid hfv
  have HRV := Lib.hid hrv
  clear hb hfv hrv HX3 c0 c1 c2
  generalize mergedL l0 l1 l2 (pathsL l0 l1 l2) = M at *
  generalize pathsL l0 l1 l2 = P at *
  obtain ⟨ra, rc, rfl⟩ := HRV.out.slice
  have hpl := HPL.out
  go_wp2_with fail
  refine (clean_calls _ P _ HRV.out (by omega)).mono ?_
  rintro e w5 ⟨rfl, hb⟩
  have HX5 := Lib.hid (HX4.out.below hb)
  have HFV5 := Lib.hid (HFV.out.below hb)
  have HRV5 := Lib.hid (HRV.out.below hb)
  clear hb HX4 HFV HRV
  go_wp2
  go_loopw [10] (fun i w' => ∃ k : Nat, k ≤ P.length ∧ Below w5.heap.size w5 w' ∧ i = .int .i64 k) (fun i _ => P.length - (intOf i).toNat)
  case atStart => exact ⟨0, by omega, Below.refl _ _, rfl⟩
  case round =>
    rename_i wr hrel
    obtain ⟨k, hk, hbel, rfl⟩ := hrel
    have HB := Lib.hid hbel
    clear hbel
    by_cases hlt : k < P.length
    · obtain ⟨p, hp⟩ : ∃ p, P[k]? = some p := ⟨P[k], List.getElem?_eq_getElem hlt⟩
      obtain ⟨rb, rfl, hrl, hcell0⟩ := HRV5.out.at hp
      have hcell := (HB.out.cell (p := ⟨rb, k * 4, none⟩) hrl).trans hcell0
      clear hcell0
      have hbx := HX5.out.below HB.out
      have c0 := hbx.c0
      have c1 := hbx.c1
      have c2 := hbx.c2
      have HBX := Lib.hid hbx
      have HFVr := Lib.hid (HFV5.out.below HB.out)
      have HT0 : Hid (∀ a n, Calls Tryz.prog 13 #[v0, .string p] (wr.drewN (a + n)) fun e w'' => e = .returned (.tuple #[.string ((textOf l0 p).getD .empty), .bool (textOf l0 p).isSome]) ∧ ∃ m, w'' = wr.drewN (a + m)) :=
        Lib.hid (fun a n => rtext_quiet' HBX.out.f0 (by omega) (HF0.out p) a n)
      have HT1 : Hid (∀ wq, Below wr.heap.size wr wq → ∀ n, Calls Tryz.prog 13 #[v1, .string p] (wq.drewN n) fun e w'' => e = .returned (.tuple #[.string ((textOf l1 p).getD .empty), .bool (textOf l1 p).isSome]) ∧ ∃ m, w'' = wq.drewN m) :=
        Lib.hid (fun wq hq n => rtext_quiet (HBX.out.f1.below hq) (by omega) (HF1.out p) n)
      have HT2 : Hid (∀ a n, Calls Tryz.prog 13 #[v2, .string p] (wr.drewN (a + n)) fun e w'' => e = .returned (.tuple #[.string ((textOf l2 p).getD .empty), .bool (textOf l2 p).isSome]) ∧ ∃ m, w'' = wr.drewN (a + m)) :=
        Lib.hid (fun a n => rtext_quiet' HBX.out.f2 (by omega) (HF2.out p) a n)
      have HTM : Hid (∀ wq, Below wr.heap.size wr wq → Calls Tryz.prog 13 #[fv, .string p] wq fun e w'' => e = .returned (.tuple #[.string ((if textOf l1 p = textOf l0 p then textOf l2 p else textOf l1 p).getD .empty), .bool (if textOf l1 p = textOf l0 p then textOf l2 p else textOf l1 p).isSome]) ∧ wq = w'') :=
        Lib.hid (fun wq hq => by
          have h := rtext_calls fv M p wq (HFVr.out.below hq) (by have := HML.out; omega)
          rwa [HFM.out p (List.mem_of_getElem? hp)] at h)
      clear hp hbx
      generalize textOf l0 p = x0 at *
      generalize textOf l1 p = x1 at *
      generalize textOf l2 p = x2 at *
      by_cases e1 : x1 = x0
      · subst e1
        rw [if_pos rfl] at HTM
        go_wp2
        go_quiet ((go_at_call 13; exact HT1.out _ (Below.refl _ _) _))
        go_wp2
        go_quiet ((go_at_call 13; exact HT0.out _ _))
        go_wp2
        go_quiet ((go_at_call 13; exact HT2.out _ _))
        go_wp2_with fail
        refine (HTM.out (wr.drewN _) (below_drewN (Below.refl _ _))).mono ?_
        rintro e w' ⟨rfl, rfl⟩
        go_wp2
        go_roundw
        case rel => exact ⟨k + 1, by omega, below_drewN HB.out, by go_num⟩
        case measure => simp [intOf]; omega
      · rw [if_neg e1] at HTM
        have HE := Lib.hid (opt_same x1 x0)
        rw [decide_eq_false e1] at HE
        have hcase : (x1.isSome == x0.isSome) = false ∨ ((x1.isSome == x0.isSome) = true ∧ ((x1.getD .empty).toList == (x0.getD .empty).toList) = false) := by
          have h := HE.out
          cases hb : (x1.isSome == x0.isSome) with
          | false => exact .inl rfl
          | true => rw [hb] at h; exact .inr ⟨rfl, by simpa using h.symm⟩
        clear HE HT2
        generalize x0.isSome = i0 at *
        generalize x1.isSome = i1 at *
        generalize x0.getD .empty = s0 at *
        generalize x1.getD .empty = s1 at *
        rcases hcase with q1 | ⟨q1, q2⟩
        all_goals
          go_wp2
          go_quiet ((go_at_call 13; exact HT1.out _ (Below.refl _ _) _))
          go_wp2
          go_quiet ((go_at_call 13; exact HT0.out _ _))
          go_wp2_with fail
          refine (HTM.out (wr.drewN _) (below_drewN (Below.refl _ _))).mono ?_
          rintro e w' ⟨rfl, rfl⟩
          go_wp2
          go_roundw
          case rel => exact ⟨k + 1, by omega, below_drewN HB.out, by go_num⟩
          case measure => simp [intOf]; omega
    · go_wp2_with fail
      refine (Go.Ev.awake_calls _).mono ?_
      rintro e w10 ⟨rfl, hb10⟩
      have HB10 := Lib.hid (((HX5.out.below HB.out).below hb10).bel)
      clear hb10
      go_wp2
      go_ret
      exact ⟨rfl, HB10.out⟩
end Go.Proofs

namespace Go.Proofs
open Go.ChangeShapes Go.WideShapes Go.Deep Go.RowKit
open Classical

theorem indep_calls (v0 v1 v2 : Value) (l0 l1 l2 : List FileT) (w : World) (h0 : FilesVal w v0 l0) (h1 : FilesVal w v1 l1) (h2 : FilesVal w v2 l2) (k0 : FilesOK l0) (k1 : FilesOK l1) (k2 : FilesOK l2) :
    Calls Tryz.prog 4 #[.agg #[v0, v1, v2]] w fun e w' => e = .returned (.bool true) ∧ Below w.heap.size w w' := by
  by_cases hf : (littleB l0 && (littleB l1 && littleB l2)) = true
  · by_cases hg : chk3 l0 l1 l2 = 0
    · by_cases hi : indepB l0 l1 l2 = true
      · exact indep_yes v0 v1 v2 l0 l1 l2 w h0 h1 h2 k0 k1 k2 hf hg hi
      · have hi : indepB l0 l1 l2 = false := by simpa using hi
        refine indep_no v0 v1 v2 l0 l1 l2 w h0 h1 h2 k0 k1 k2 hf 0 ?_
        rintro u e w' ⟨hb, ⟨h, _⟩ | ⟨_, h⟩⟩
        · exact absurd hg h
        · rw [hi] at h
          exact ⟨h, hb⟩
    · refine indep_no v0 v1 v2 l0 l1 l2 w h0 h1 h2 k0 k1 k2 hf (chk3 l0 l1 l2) ?_
      rintro u e w' ⟨hb, ⟨_, h⟩ | ⟨h, _⟩⟩
      · exact ⟨h, hb⟩
      · exact absurd h hg
  · exact indep_little v0 v1 v2 l0 l1 l2 w h0 h1 h2 k0 k1 k2 (by simpa using hf)

set_option maxRecDepth 100000
theorem cellsP : Tryz.prog.cellTypes Tryz.prog.depth 32 = some [22, 22, 22] := by kernel_rfl

theorem open_projects {H : Type} {enc : TypeId × Value → H} {W : World} {b0 b1 : Nat} {spare : Nat → Bool} {held : Bool} {v : Value} {d : DataW H} {p : List MemPlace}
    (hv : Value.okWide Tryz.prog W .any b1 32 v) (h : DataW.Trod enc Tryz.prog W b0 spare held 32 v d p) :
    ∃ (vb vl vr : Value) (l0 l1 l2 : List FileT), v = .agg #[vb, vl, vr] ∧ FilesVal W vb l0 ∧ FilesVal W vl l1 ∧ FilesVal W vr l2 ∧ FilesOK l0 ∧ FilesOK l1 ∧ FilesOK l2 := by
  obtain ⟨x0, x1, x2, y0, y1, y2, nn, rfl, _, _, t0, t1, t2⟩ := Go.Joins.open_agg3 Tryz.underlying32 (by kernel_rfl) (by kernel_rfl) hv h
  unfold Value.okWide at hv
  simp only [Tryz.underlying32] at hv
  obtain ⟨cs, hcs, _, ts, hts, _, hrow⟩ := hv
  cases hcs
  rw [cellsP] at hts
  cases hts
  obtain ⟨u0, e0, o0⟩ := hrow 0 x0 rfl
  obtain ⟨u1, e1, o1⟩ := hrow 1 x1 rfl
  obtain ⟨u2, e2, o2⟩ := hrow 2 x2 rfl
  cases e0
  cases e1
  cases e2
  obtain ⟨l0, m0, k0⟩ := open_files_at o0 t0
  obtain ⟨l1, m1, k1⟩ := open_files_at o1 t1
  obtain ⟨l2, m2, k2⟩ := open_files_at o2 t2
  exact ⟨x0, x1, x2, l0, l1, l2, rfl, m0, m1, m2, k0, k1, k2⟩
end Go.Proofs
