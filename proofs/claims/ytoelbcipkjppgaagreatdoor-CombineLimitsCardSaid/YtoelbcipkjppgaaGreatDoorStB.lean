/-
  What becomes of a path: the contract.
-/
import Derived.Test.YtoelbcipkjppgaaGreatDoorStA
import Derived.Test.YtoelbcipkjppgaaGreatDoorCC
set_option linter.all false

namespace Go.Ev
open Go.Proofs

/-- The blocks of a merger. -/
def mB (mp B L R : Nat) : Nat → Nat × Nat
  | 7 => (mp, 0)
  | 8 => (B, 0)
  | 9 => (L, 0)
  | _ => (R, 0)
/-- A path and two texts. -/
def three (p x y : ByteArray) : Nat → Option Atom
  | 0 => some (.raw p)
  | 1 => some (.str x)
  | 2 => if x = y then none else some (.str y)
  | _ => none
theorem three_inj (p x y : ByteArray) : ∀ (i j : Nat) (u : ByteArray), three p x y i = some (.str u) → three p x y j = some (.str u) → i = j := by
  intro i j u hi hj
  match i, j with
  | 0, _ => simp [three] at hi
  | _, 0 => simp [three] at hj
  | 1, 1 => rfl
  | 2, 2 => rfl
  | 1, 2 =>
    simp only [three, Option.some.injEq, Atom.str.injEq] at hi
    simp only [three] at hj
    split at hj
    · cases hj
    · rename_i hne
      simp only [Option.some.injEq, Atom.str.injEq] at hj
      exact absurd (hi.trans hj.symm) hne
  | 2, 1 =>
    simp only [three, Option.some.injEq, Atom.str.injEq] at hj
    simp only [three] at hi
    split at hi
    · cases hi
    · rename_i hne
      simp only [Option.some.injEq, Atom.str.injEq] at hi
      exact absurd (hj.trans hi.symm) hne
  | n + 3, _ => simp [three] at hi
  | _, n + 3 => simp [three] at hj

/-- What is known of a text of a path. -/
def Knows (ρ : Ren) (v : Option CV) (o : Option ByteArray) : Prop :=
  match v, o with
  | none, none => True
  | some c, some x => real ρ c = some (.string x)
  | _, _ => False

theorem file_rel {mp B L R : Nat} {fb fl fr : ByteArray → Option ByteArray} {w : World} (h : Merger w mp B L R fb fl fr) {p x y : ByteArray} (hp : p.size ≤ 9223372036854775807) {b l r : Option CV}
    (hb : Knows (ren1 7 11 (mB mp B L R) (three p x y)) b (fb p)) (hl : Knows (ren1 7 11 (mB mp B L R) (three p x y)) l (fl p)) (hr : Knows (ren1 7 11 (mB mp B L R) (three p x y)) r (fr p)) :
    Rel (ren1 7 11 (mB mp B L R) (three p x y)) (sQ b l r) w := by
  have rb : ∀ k, 7 ≤ k → k < 11 → (ren1 7 11 (mB mp B L R) (three p x y)).b k = some (mB mp B L R k) := fun k h1 h2 => by
    simp only [ren1]
    rw [if_neg (by omega), if_pos h2]
  have get : ∀ k, (sQ b l r).heap.get k = if k = 10 then some (.mapQ [(.opq 0, r)]) else if k = 9 then some (.mapQ [(.opq 0, l)]) else if k = 8 then some (.mapQ [(.opq 0, b)]) else if k = 7 then some (LObj.obj (.row [.map 8, .map 9, .map 10, .nils] false 0 1 0)) else none := by
    intro k
    simp only [sQ]
    by_cases e10 : k = 10
    · subst e10; rw [Tr.get_set_eq _ _ _ _ (by decide), if_pos rfl]
    rw [Tr.get_set_ne _ _ _ _ _ (Ne.symm e10), if_neg e10]
    by_cases e9 : k = 9
    · subst e9; rw [Tr.get_set_eq _ _ _ _ (by decide), if_pos rfl]
    rw [Tr.get_set_ne _ _ _ _ _ (Ne.symm e9), if_neg e9]
    by_cases e8 : k = 8
    · subst e8; rw [Tr.get_set_eq _ _ _ _ (by decide), if_pos rfl]
    rw [Tr.get_set_ne _ _ _ _ _ (Ne.symm e8), if_neg e8]
    by_cases e7 : k = 7
    · subst e7; rw [Tr.get_set_eq _ _ _ _ (by decide), if_pos rfl]
    rw [Tr.get_set_ne _ _ _ _ _ (Ne.symm e7), if_neg e7, Tr.get_leaf]
  have mq : ∀ (X : Nat) (v : Option CV) (f : ByteArray → Option ByteArray), (∃ n, SMap w X n f) → Knows (ren1 7 11 (mB mp B L R) (three p x y)) v (f p) → ∃ O, w.heap[X]? = some O ∧ ObjRel (ren1 7 11 (mB mp B L R) (three p x y)) 0 (.mapQ [(.opq 0, v)]) O := by
    intro X v f ⟨n, hm⟩ hk
    obtain ⟨es, clock, h1, h2⟩ := hm.now p hp
    refine ⟨_, h1, rfl, fun q hq => ?_⟩
    simp only [List.mem_singleton] at hq
    subst hq
    refine ⟨p, rfl, ?_⟩
    cases v with
    | none =>
      cases hf : f p with
      | none => rw [hf] at h2; exact h2
      | some z => rw [hf] at hk; exact hk.elim
    | some c =>
      cases hf : f p with
      | none => rw [hf] at hk; exact hk.elim
      | some z =>
        rw [hf] at hk h2
        obtain ⟨i, h2⟩ := h2
        exact ⟨_, i, hk, h2⟩
  refine ⟨fun k o e => ?_, fun k k' B1 D D' hk hk' hw _ _ => ?_, fun k hk => ?_, fun i hi => ?_⟩
  · rw [get] at e
    split at e
    · rename_i hk; subst hk; cases e
      obtain ⟨O, h1, h2⟩ := mq R r fr h.r hr
      exact ⟨R, 0, O, rb 10 (by decide) (by decide), h1, h2⟩
    split at e
    · rename_i hk; subst hk; cases e
      obtain ⟨O, h1, h2⟩ := mq L l fl h.l hl
      exact ⟨L, 0, O, rb 9 (by decide) (by decide), h1, h2⟩
    split at e
    · rename_i hk; subst hk; cases e
      obtain ⟨O, h1, h2⟩ := mq B b fb h.b hb
      exact ⟨B, 0, O, rb 8 (by decide) (by decide), h1, h2⟩
    split at e
    · rename_i hk; subst hk; cases e
      obtain ⟨t, fz, hc⟩ := h.c
      refine ⟨mp, 0, _, rb 7 (by decide) (by decide), hc, ?_⟩
      have e8 := rb 8 (by decide) (by decide)
      have e9 := rb 9 (by decide) (by decide)
      have e10 := rb 10 (by decide) (by decide)
      refine ⟨fun i hi => ?_, .inr ⟨by decide, 0, rfl, fun j hj => by simp at hj⟩, fun h => absurd rfl h⟩
      have hi : i < 4 := hi
      have hlg := lay_get [.map 8, .map 9, .map 10, .nils] .leaf 0 i (by decide)
      rw [if_pos (by simp; omega)] at hlg
      match i, hi with
      | 0, _ => exact ⟨_, _, hlg, by simp only [real, e8, Option.map_some]; rfl, rfl, fun h => by cases h⟩
      | 1, _ => exact ⟨_, _, hlg, by simp only [real, e9, Option.map_some]; rfl, rfl, fun h => by cases h⟩
      | 2, _ => exact ⟨_, _, hlg, by simp only [real, e10, Option.map_some]; rfl, rfl, fun h => by cases h⟩
      | 3, _ => exact ⟨_, _, hlg, by simp only [real]; rfl, rfl, fun h => by cases h⟩
    · cases e
  · have nw : ∀ k, ¬ (sQ b l r).hasW k := by
      rintro k ⟨o, e, hw⟩
      rw [get] at e
      split at e
      · cases e; cases hw
      split at e
      · cases e; cases hw
      split at e
      · cases e; cases hw
      split at e
      · cases e; cases hw
      · cases e
    rcases hw with hw | hw
    · exact (nw _ hw).elim
    · exact (nw _ hw).elim
  · have hk : 11 ≤ k := hk
    simp only [ren1]
    rw [if_neg (by omega), if_neg (by omega)]
  · have hi : 1 ≤ i := hi
    simp only [ren1]
    rw [if_neg (by omega)]

theorem no_write (b l r : Option CV) : ∀ k, ¬ (sQ b l r).hasW k := by
  rintro k ⟨o, e, hw⟩
  simp only [sQ] at e
  by_cases e10 : k = 10
  · subst e10; rw [Tr.get_set_eq _ _ _ _ (by decide)] at e; cases e; cases hw
  rw [Tr.get_set_ne _ _ _ _ _ (Ne.symm e10)] at e
  by_cases e9 : k = 9
  · subst e9; rw [Tr.get_set_eq _ _ _ _ (by decide)] at e; cases e; cases hw
  rw [Tr.get_set_ne _ _ _ _ _ (Ne.symm e9)] at e
  by_cases e8 : k = 8
  · subst e8; rw [Tr.get_set_eq _ _ _ _ (by decide)] at e; cases e; cases hw
  rw [Tr.get_set_ne _ _ _ _ _ (Ne.symm e8)] at e
  by_cases e7 : k = 7
  · subst e7; rw [Tr.get_set_eq _ _ _ _ (by decide)] at e; cases e; cases hw
  rw [Tr.get_set_ne _ _ _ _ _ (Ne.symm e7), Tr.get_leaf] at e
  cases e

theorem keptIs_ok {c : Nat} {r : CRes} (h : keptIs c r = true) : ∃ S, r = .ok (.tup [.ustr c 0 65536, rep0, .bool true, .int .i64 0]) S := by
  unfold keptIs at h
  split at h
  · simp only [Bool.and_eq_true] at h
    have h1 := Nat.eq_of_beq_eq_true h.1.1
    have h2 := Nat.eq_of_beq_eq_true h.1.2
    have h3 := Nat.eq_of_beq_eq_true h.2
    subst h1; subst h2; subst h3
    exact ⟨_, rfl⟩
  · cases h
theorem goneIs_ok {r : CRes} (h : goneIs r = true) : ∃ S, r = .ok (.tup [.str [], rep0, .bool false, .int .i64 0]) S := by
  unfold goneIs at h
  split at h
  · exact ⟨_, rfl⟩
  · cases h

/-- What a call of 'file' gives. -/
def FileGives (w : World) (p : ByteArray) (o : Option ByteArray) (e : Ending) (w' : World) : Prop :=
  e = .returned (.tuple #[.string (o.getD ⟨#[]⟩), sameRep p, .bool o.isSome, .int .i64 0]) ∧ Go.RowKit.Below w.heap.size w w'

section
variable {mp B L R : Nat} {fb fl fr : ByteArray → Option ByteArray} {w : World} {p x y : ByteArray} {b l r : Option CV}

theorem file_args : reals (ren1 7 11 (mB mp B L R) (three p x y)) [.ptr 7 0, .opq 0] = some [.pointer (some ⟨mp, 0, none⟩), .string p] := by
  have e7 : (ren1 7 11 (mB mp B L R) (three p x y)).b 7 = some (mp, 0) := rfl
  have e0 : (ren1 7 11 (mB mp B L R) (three p x y)).v 0 = some (.raw p) := rfl
  simp only [reals, real, e7, e0, Option.map_some, Option.bind_some]
  rfl

theorem rep_real {ρ' : Ren} (hle : (ren1 7 11 (mB mp B L R) (three p x y)).Le ρ') : real ρ' rep0 = some (sameRep p) := by
  have e0 : ρ'.v 0 = some (.raw p) := by rw [hle.v]; rfl
  simp only [real, reals, e0, Option.map_some, Option.bind_some]
  rfl

set_option maxRecDepth 100000 in
theorem file_run {v : CV} {S' : St} (h : runQ b l r = .ok v S') (hr : Rel (ren1 7 11 (mB mp B L R) (three p x y)) (sQ b l r) w) :
    Calls Tryz.prog 17 #[.pointer (some ⟨mp, 0, none⟩), .string p] w fun e w' => ∃ ρ' V, e = .returned V ∧ (ren1 7 11 (mB mp B L R) (three p x y)).Le ρ' ∧ Go.RowKit.Below w.heap.size w w' ∧ real ρ' v = some V := by
  have e : runQ b l r = callK (fnC Tryz.prog 17) (callF Tryz.prog pr38 79) [.ptr 7 0, .opq 0] (sQ b l r) := rfl
  rw [e] at h
  have hg : Glob Tryz.prog (ren1 7 11 (mB mp B L R) (three p x y)) := by
    intro g hg
    rw [nglob] at hg
    simp only [ren1]
    rw [if_pos hg]
  refine Calls.mono (fn_sound mixed (draw_ok Tryz.prog) (callF_ok mixed (draw_ok Tryz.prog) names' prims_none 79) h hr hg file_args).2 ?_
  rintro e w' ⟨ρ', V, rfl, hs, hv⟩
  exact ⟨ρ', V, rfl, hs.ext, ⟨hs.os, hs.tape, hs.output, hs.size, fun k hk => hs.keep k hk (fun b2 D hb _ => no_write b l r b2 hb)⟩, hv⟩

theorem file_kept {c : Nat} {u : ByteArray} (h : keptIs c (runQ b l r) = true) (hr : Rel (ren1 7 11 (mB mp B L R) (three p x y)) (sQ b l r) w) (hu : three p x y c = some (.str u)) (hz : u.size ≤ 65536) :
    Calls Tryz.prog 17 #[.pointer (some ⟨mp, 0, none⟩), .string p] w (FileGives w p (some u)) := by
  obtain ⟨S, h⟩ := keptIs_ok h
  refine (file_run h hr).mono ?_
  rintro e w' ⟨ρ', V, rfl, hle, hb, hv⟩
  have h1 := real_mono hle _ _ (ustr_real (ρ := ren1 7 11 (mB mp B L R) (three p x y)) (c := c) hu (three_inj p x y) hz)
  have h2 := rep_real hle
  have h3 : real ρ' (.tup [.ustr c 0 65536, rep0, .bool true, .int .i64 0]) = some (.tuple #[.string u, sameRep p, .bool true, .int .i64 0]) := by
    have t1 : real ρ' (.bool true) = some (.bool true) := by simp only [real]
    have t2 : real ρ' (.int .i64 0) = some (.int .i64 0) := by simp only [real]
    show (reals ρ' [.ustr c 0 65536, rep0, .bool true, .int .i64 0]).map (fun x => Value.tuple x.toArray) = _
    simp only [reals, h1, h2, t1, t2, Option.bind_some, Option.map_some]
  rw [h3] at hv
  cases hv
  exact ⟨rfl, hb⟩

theorem file_gone (h : goneIs (runQ b l r) = true) (hr : Rel (ren1 7 11 (mB mp B L R) (three p x y)) (sQ b l r) w) :
    Calls Tryz.prog 17 #[.pointer (some ⟨mp, 0, none⟩), .string p] w (FileGives w p none) := by
  obtain ⟨S, h⟩ := goneIs_ok h
  refine (file_run h hr).mono ?_
  rintro e w' ⟨ρ', V, rfl, hle, hb, hv⟩
  have h2 := rep_real hle
  have h3 : real ρ' (.tup [.str [], rep0, .bool false, .int .i64 0]) = some (.tuple #[.string ⟨#[]⟩, sameRep p, .bool false, .int .i64 0]) := by
    have t0 : real ρ' (.str []) = some (.string ⟨#[]⟩) := by simp only [real]; rfl
    have t1 : real ρ' (.bool false) = some (.bool false) := by simp only [real]
    have t2 : real ρ' (.int .i64 0) = some (.int .i64 0) := by simp only [real]
    show (reals ρ' [.str [], rep0, .bool false, .int .i64 0]).map (fun x => Value.tuple x.toArray) = _
    simp only [reals, t0, h2, t1, t2, Option.bind_some, Option.map_some]
  rw [h3] at hv
  cases hv
  exact ⟨rfl, hb⟩
end

/-- The text that a path is merged to. -/
noncomputable def mergeO (b l r : Option ByteArray) : Option ByteArray := open Classical in if l = b then r else l

theorem mfile_calls {mp B L R : Nat} {fb fl fr : ByteArray → Option ByteArray} {w : World} (h : Merger w mp B L R fb fl fr) {p : ByteArray} (hp : p.size ≤ 9223372036854775807)
    (zb : ∀ x, fb p = some x → x.size ≤ 65536) (zl : ∀ x, fl p = some x → x.size ≤ 65536) (zr : ∀ x, fr p = some x → x.size ≤ 65536) (hor : fl p = fb p ∨ fr p = fb p ∨ fl p = fr p) :
    Calls Tryz.prog 17 #[.pointer (some ⟨mp, 0, none⟩), .string p] w (FileGives w p (mergeO (fb p) (fl p) (fr p))) := by
  have k1 : ∀ x y, x.size ≤ 65536 → real (ren1 7 11 (mB mp B L R) (three p x y)) t1 = some (.string x) := fun x y hz => ustr_real rfl (three_inj p x y) hz
  have k2 : ∀ x y, x ≠ y → y.size ≤ 65536 → real (ren1 7 11 (mB mp B L R) (three p x y)) t2 = some (.string y) := fun x y hn hz => ustr_real (by show three p x y 2 = _; simp only [three, if_neg hn]) (three_inj p x y) hz
  have y2 : ∀ x y, x ≠ y → three p x y 2 = some (.str y) := fun x y hn => by simp only [three, if_neg hn]
  have rel := fun (x y : ByteArray) (b l r : Option CV) hb hl hr => file_rel (x := x) (y := y) (b := b) (l := l) (r := r) h hp hb hl hr
  cases hb : fb p with
  | none =>
    cases hl : fl p with
    | none =>
      cases hr : fr p with
      | none =>
        have e : mergeO none none none = none := by simp [mergeO]
        rw [e]
        exact file_gone (x := p) (y := p) file_nnn (rel _ _ _ _ _ (by rw [hb]; trivial) (by rw [hl]; trivial) (by rw [hr]; trivial))
      | some x =>
        have e : mergeO none none (some x) = some x := by simp [mergeO]
        rw [e]
        exact file_kept (x := x) (y := x) file_nn1 (rel _ _ _ _ _ (by rw [hb]; trivial) (by rw [hl]; trivial) (by rw [hr]; exact k1 x x (zr x hr))) rfl (zr x hr)
    | some x =>
      have e : ∀ r, mergeO none (some x) r = some x := fun r => by simp [mergeO]
      rw [e]
      cases hr : fr p with
      | none => exact file_kept (x := x) (y := x) file_n1n (rel _ _ _ _ _ (by rw [hb]; trivial) (by rw [hl]; exact k1 x x (zl x hl)) (by rw [hr]; trivial)) rfl (zl x hl)
      | some y =>
        have hxy : x = y := by
          rw [hb, hl, hr] at hor
          simpa using hor
        subst hxy
        exact file_kept (x := x) (y := x) file_n11 (rel _ _ _ _ _ (by rw [hb]; trivial) (by rw [hl]; exact k1 x x (zl x hl)) (by rw [hr]; exact k1 x x (zl x hl))) rfl (zl x hl)
  | some z =>
    have zz := zb z hb
    cases hl : fl p with
    | none =>
      cases hr : fr p with
      | none =>
        have e : mergeO (some z) none none = none := by simp [mergeO]
        rw [e]
        exact file_gone (x := z) (y := z) file_1nn (rel _ _ _ _ _ (by rw [hb]; exact k1 z z zz) (by rw [hl]; trivial) (by rw [hr]; trivial))
      | some y =>
        have e : mergeO (some z) none (some y) = none := by simp [mergeO]
        rw [e]
        have hyz : y = z := by
          rw [hb, hl, hr] at hor
          simpa using hor
        subst hyz
        exact file_gone (x := y) (y := y) file_1n1 (rel _ _ _ _ _ (by rw [hb]; exact k1 y y zz) (by rw [hl]; trivial) (by rw [hr]; exact k1 y y zz))
    | some x =>
      cases hr : fr p with
      | none =>
        have hxz : x = z := by
          rw [hb, hl, hr] at hor
          simpa using hor
        subst hxz
        have e : mergeO (some x) (some x) none = none := by simp [mergeO]
        rw [e]
        exact file_gone (x := x) (y := x) file_11n (rel _ _ _ _ _ (by rw [hb]; exact k1 x x zz) (by rw [hl]; exact k1 x x zz) (by rw [hr]; trivial))
      | some y =>
        have zx := zl x hl
        have zy := zr y hr
        by_cases e1 : x = z
        · subst e1
          have e : mergeO (some x) (some x) (some y) = some y := by simp [mergeO]
          rw [e]
          by_cases e2 : x = y
          · subst e2
            exact file_kept (x := x) (y := x) file_111 (rel _ _ _ _ _ (by rw [hb]; exact k1 x x zz) (by rw [hl]; exact k1 x x zz) (by rw [hr]; exact k1 x x zz)) rfl zz
          · exact file_kept (x := x) (y := y) file_112 (rel _ _ _ _ _ (by rw [hb]; exact k1 x y zz) (by rw [hl]; exact k1 x y zz) (by rw [hr]; exact k2 x y e2 zy)) (y2 _ _ e2) zy
        · have e : ∀ r, mergeO (some z) (some x) r = some x := fun r => by simp [mergeO, e1]
          rw [e]
          have hor' : y = z ∨ x = y := by
            rw [hb, hl, hr] at hor
            simpa [e1] using hor
          rcases hor' with e2 | e2
          · subst e2
            exact file_kept (x := y) (y := x) file_121 (rel _ _ _ _ _ (by rw [hb]; exact k1 y x zz) (by rw [hl]; exact k2 y x (Ne.symm e1) zx) (by rw [hr]; exact k1 y x zz)) (y2 _ _ (Ne.symm e1)) zx
          · subst e2
            exact file_kept (x := z) (y := x) file_122 (rel _ _ _ _ _ (by rw [hb]; exact k1 z x zz) (by rw [hl]; exact k2 z x (Ne.symm e1) zx) (by rw [hr]; exact k2 z x (Ne.symm e1) zx)) (y2 _ _ (Ne.symm e1)) zx
end Go.Ev
