/-
  The example run; a file's merge where two versions are equal: by the evaluator. What becomes of a path, by the evaluator: the eleven ways.
-/
import Derived.Test.YtoelbcipkjppgaaGreatDoorProg
import Derived.Test.YtoelbcipkjppgaaGreatDoorEvV
import Derived.Test.YtoelbcipkjppgaaGreatDoorEvQ
import Derived.KernelRfl
set_option linter.all false

namespace Go.Ev
open Go.Proofs

noncomputable def pr38 : Prims := fun _ => none
noncomputable def s38 : St := stOf [] 7 1
def isTrue : CRes → Bool
  | .ok (.bool true) _ => true
  | _ => false
def mergedIs (c : Nat) : CRes → Bool
  | .ok (.tup [.ustr c' lo hi, .agg [.str [], .int .i64 (.ofNat 1), .nils, .nils], .int .i64 (.ofNat 0)]) _ => Nat.beq c c' && Nat.beq lo 0 && Nat.beq hi 65536
  | _ => false
set_option maxRecDepth 100000
theorem awake38 : isTrue (callF Tryz.prog pr38 200 4 [] s38) = true := by kernel_rfl
theorem merge000 : mergedIs 0 (callF Tryz.prog pr38 60 37 [.ustr 0 0 65536, .ustr 0 0 65536, .ustr 0 0 65536, .nils] s38) = true := by kernel_rfl
theorem merge011 : mergedIs 1 (callF Tryz.prog pr38 60 37 [.ustr 0 0 65536, .ustr 1 0 65536, .ustr 1 0 65536, .nils] s38) = true := by kernel_rfl
theorem merge010 : mergedIs 1 (callF Tryz.prog pr38 60 37 [.ustr 0 0 65536, .ustr 1 0 65536, .ustr 0 0 65536, .nils] s38) = true := by kernel_rfl
theorem merge001 : mergedIs 1 (callF Tryz.prog pr38 60 37 [.ustr 0 0 65536, .ustr 0 0 65536, .ustr 1 0 65536, .nils] s38) = true := by kernel_rfl

theorem isTrue_ok {r : CRes} (h : isTrue r = true) : ∃ S, r = .ok (.bool true) S := by
  unfold isTrue at h
  split at h
  · exact ⟨_, rfl⟩
  · cases h
theorem mergedIs_ok {c : Nat} {r : CRes} (h : mergedIs c r = true) : ∃ S, r = .ok (.tup [.ustr c 0 65536, .agg [.str [], .int .i64 1, .nils, .nils], .int .i64 0]) S := by
  unfold mergedIs at h
  split at h
  · simp only [Bool.and_eq_true] at h
    have h1 := Nat.eq_of_beq_eq_true h.1.1
    have h2 := Nat.eq_of_beq_eq_true h.1.2
    have h3 := Nat.eq_of_beq_eq_true h.2
    subst h1; subst h2; subst h3
    exact ⟨_, rfl⟩
  · cases h

theorem mixed : Tryz.prog.follows .mixedOrders = true := by kernel_rfl
theorem names : (Tryz.prog.funcs.toList.all fun fn => fn.body.isNone || !(fn.name == "runtime.NumGoroutine")) = true := by kernel_rfl
theorem names' : ∀ (f : FuncId) (fn : Func), Tryz.prog.funcs[f]? = some fn → fn.body.isSome = true → (fn.name == "runtime.NumGoroutine") = false := by
  intro f fn hf hb
  have hmem : fn ∈ Tryz.prog.funcs.toList := by
    have : Tryz.prog.funcs.toList[f]? = some fn := by simpa using hf
    exact List.mem_of_getElem? this
  have := List.all_eq_true.1 names fn hmem
  cases hbd : fn.body with
  | none => rw [hbd] at hb; cases hb
  | some c => rw [hbd] at this; simpa using this
theorem nglob : Tryz.prog.globals.size = 7 := by kernel_rfl
theorem prims_none {P : Program} : PrimsOK P (fun _ => none) := fun _ _ h => by cases h

/-- Nothing is known of any world. -/
theorem none_rel (v : Nat → Option Atom) (w : World) : Rel (ren1 7 7 (fun _ => (0, 0)) v) s38 w := by
  have hl : ∀ b, s38.heap.get b = none := fun b => by show Tr.leaf.get b = none; rw [Tr.get_leaf]
  refine ⟨fun b o e => ?_, fun b b' B D D' ⟨o, e⟩ => ?_, fun b hb => ?_, fun i hi => ?_⟩
  · rw [hl] at e; cases e
  · rw [hl] at e; cases e
  · have hb : 7 ≤ b := hb
    simp only [ren1]
    rw [if_neg (by omega), if_neg (by omega)]
  · have hi : 1 ≤ i := hi
    simp only [ren1]
    rw [if_neg (by omega)]
theorem none_glob (v : Nat → Option Atom) : Glob Tryz.prog (ren1 7 7 (fun _ => (0, 0)) v) := by
  intro g hg
  rw [nglob] at hg
  simp only [ren1]
  rw [if_pos hg]

theorem ev_calls {n : Nat} {f : FuncId} {args : List CV} {S' : St} {v : CV} (h : callF Tryz.prog pr38 (n + 1) f args s38 = .ok v S') {at_ : Nat → Option Atom} (w : World) {L : List Value} (hL : reals (ren1 7 7 (fun _ => (0, 0)) at_) args = some L) :
    Calls Tryz.prog f L.toArray w fun e w' => ∃ ρ' V, e = .returned V ∧ (ren1 7 7 (fun _ => (0, 0)) at_).Le ρ' ∧ Go.RowKit.Below w.heap.size w w' ∧ real ρ' v = some V := by
  have e : callF Tryz.prog pr38 (n + 1) f args s38 = callK (fnC Tryz.prog f) (callF Tryz.prog pr38 n) args s38 := rfl
  rw [e] at h
  refine Calls.mono (fn_sound mixed (draw_ok Tryz.prog) (callF_ok mixed (draw_ok Tryz.prog) names' prims_none n) h (none_rel at_ w) (none_glob at_) hL).2 ?_
  rintro e w' ⟨ρ', V, rfl, hs, hv⟩
  refine ⟨ρ', V, rfl, hs.ext, ⟨hs.os, hs.tape, hs.output, hs.size, fun k hk => hs.keep k hk (fun b D hb _ => ?_)⟩, hv⟩
  obtain ⟨o, hb, _⟩ := hb
  rw [show s38.heap.get b = none by show Tr.leaf.get b = none; rw [Tr.get_leaf]] at hb
  cases hb

theorem awake_calls (w : World) : Calls Tryz.prog 4 #[] w fun e w' => e = .returned (.bool true) ∧ Go.RowKit.Below w.heap.size w w' := by
  obtain ⟨S, h⟩ := isTrue_ok awake38
  refine (ev_calls (at_ := fun _ => none) h w (L := []) rfl).mono ?_
  rintro e w' ⟨ρ', V, rfl, _, hb, hv⟩
  simp only [real, Option.some.injEq] at hv
  subst hv
  exact ⟨rfl, hb⟩

/-- The names of two strings. -/
def two (s t : ByteArray) : Nat → Option Atom
  | 0 => some (.str s)
  | 1 => if s = t then none else some (.str t)
  | _ => none

theorem two_inj (s t : ByteArray) : ∀ (i j : Nat) (u : ByteArray), two s t i = some (.str u) → two s t j = some (.str u) → i = j := by
  intro i j u hi hj
  match i, j with
  | 0, 0 => rfl
  | 1, 1 => rfl
  | 0, 1 =>
    simp only [two, Option.some.injEq, Atom.str.injEq] at hi
    simp only [two] at hj
    split at hj
    · cases hj
    · rename_i hne
      simp only [Option.some.injEq, Atom.str.injEq] at hj
      exact absurd (hi.trans hj.symm) hne
  | 1, 0 =>
    simp only [two, Option.some.injEq, Atom.str.injEq] at hj
    simp only [two] at hi
    split at hi
    · cases hi
    · rename_i hne
      simp only [Option.some.injEq, Atom.str.injEq] at hi
      exact absurd (hj.trans hi.symm) hne
  | n + 2, _ => simp [two] at hi
  | _, n + 2 => simp [two] at hj

theorem ustr_real {ρ : Ren} {c : Nat} {s : ByteArray} (hv : ρ.v c = some (.str s)) (hu : UInj ρ) (h : s.size ≤ 65536) : real ρ (.ustr c 0 65536) = some (.string s) := by
  simp only [real, Ren.ustr, hv]
  rw [if_pos ⟨hu, Nat.zero_le _, h⟩]
  rfl

/-- The report of a file that was the same. -/
def sameRep (p : ByteArray) : Value := .agg #[.string p, .int .i64 1, .slice none 0 0, .slice none 0 0]

theorem merge_of {args : List CV} {c : Nat} {s t u : ByteArray} {L : List Value} (h : mergedIs c (callF Tryz.prog pr38 60 37 args s38) = true) (hu : two s t c = some (.str u)) (hz : u.size ≤ 65536) (w : World)
    (hL : reals (ren1 7 7 (fun _ => (0, 0)) (two s t)) args = some L) :
    Calls Tryz.prog 37 L.toArray w fun e w' => e = .returned (.tuple #[.string u, sameRep .empty, .int .i64 0]) ∧ Go.RowKit.Below w.heap.size w w' := by
  obtain ⟨S, h⟩ := mergedIs_ok h
  refine (ev_calls (at_ := two s t) h w hL).mono ?_
  rintro e w' ⟨ρ', V, rfl, hle, hb, hv⟩
  have hinj : UInj (ren1 7 7 (fun _ => (0, 0)) (two s t)) := two_inj s t
  have h1 := real_mono hle _ _ (ustr_real (ρ := ren1 7 7 (fun _ => (0, 0)) (two s t)) (c := c) hu hinj hz)
  have e2 : real ρ' (.agg [.str [], .int .i64 1, .nils, .nils]) = some (sameRep .empty) := by
    simp only [real, reals, Option.bind_some, Option.map_some]
    rfl
  have e3 : real ρ' (.tup [.ustr c 0 65536, .agg [.str [], .int .i64 1, .nils, .nils], .int .i64 0]) = some (.tuple #[.string u, sameRep .empty, .int .i64 0]) := by
    show (reals ρ' [.ustr c 0 65536, .agg [.str [], .int .i64 1, .nils, .nils], .int .i64 0]).map (fun x => Value.tuple x.toArray) = _
    simp only [reals, h1, e2, Option.bind_some, Option.map_some]
    rfl
  rw [e3] at hv
  cases hv
  exact ⟨rfl, hb⟩

theorem reals3 {ρ : Ren} {x y z : CV} {X Y Z : Value} (hx : real ρ x = some X) (hy : real ρ y = some Y) (hz : real ρ z = some Z) : reals ρ [x, y, z, .nils] = some [X, Y, Z, .slice none 0 0] := by
  have hn : real ρ .nils = some (.slice none 0 0) := by simp only [real]
  simp only [reals, hx, hy, hz, hn, Option.bind_some, Option.map_some]

/-- A file's merge where two versions are equal. -/
theorem fmerge_calls (b l r : ByteArray) (w : World) (hb : b.size ≤ 65536) (hl : l.size ≤ 65536) (hr : r.size ≤ 65536) (h : l = r ∨ r = b ∨ l = b) :
    Calls Tryz.prog 37 #[.string b, .string l, .string r, .slice none 0 0] w fun e w' => e = .returned (.tuple #[.string (if l = b then r else l), sameRep .empty, .int .i64 0]) ∧ Go.RowKit.Below w.heap.size w w' := by
  have z0 : ∀ (s t : ByteArray), s.size ≤ 65536 → real (ren1 7 7 (fun _ => (0, 0)) (two s t)) (.ustr 0 0 65536) = some (.string s) := fun s t hz => ustr_real rfl (two_inj s t) hz
  have z1 : ∀ (s t : ByteArray), s ≠ t → t.size ≤ 65536 → real (ren1 7 7 (fun _ => (0, 0)) (two s t)) (.ustr 1 0 65536) = some (.string t) := fun s t hn hz => ustr_real (by show two s t 1 = _; simp only [two, if_neg hn]) (two_inj s t) hz
  have y1 : ∀ (s t : ByteArray), s ≠ t → two s t 1 = some (.str t) := fun s t hn => by simp only [two, if_neg hn]
  by_cases e1 : l = b
  · rw [if_pos e1]
    subst e1
    by_cases e2 : r = l
    · subst e2
      refine merge_of (s := r) (t := r) merge000 rfl hr w ?_
      exact reals3 (z0 r r hr) (z0 r r hr) (z0 r r hr)
    · refine merge_of (s := l) (t := r) merge001 (y1 _ _ (Ne.symm e2)) hr w ?_
      exact reals3 (z0 l r hl) (z0 l r hl) (z1 l r (Ne.symm e2) hr)
  · rw [if_neg e1]
    rcases h with e2 | e2 | e2
    · subst e2
      refine merge_of (s := b) (t := l) merge011 (y1 _ _ (Ne.symm e1)) hl w ?_
      exact reals3 (z0 b l hb) (z1 b l (Ne.symm e1) hl) (z1 b l (Ne.symm e1) hl)
    · subst e2
      refine merge_of (s := r) (t := l) merge010 (y1 _ _ (Ne.symm e1)) hl w ?_
      exact reals3 (z0 r l hr) (z1 r l (Ne.symm e1) hl) (z0 r l hr)
    · exact absurd e2 e1
end Go.Ev

namespace Go.Ev
open Go.Proofs

/-- A merger over three maps that are only read. -/
noncomputable def sQ (b l r : Option CV) : St :=
  ⟨(((Tr.leaf.set big 7 (some (LObj.obj (.row [.map 8, .map 9, .map 10, .nils] false 0 1 0)))).set big 8 (some (.mapQ [(.opq 0, b)]))).set big 9 (some (.mapQ [(.opq 0, l)]))).set big 10 (some (.mapQ [(.opq 0, r)])), 11, 1⟩
abbrev t1 : CV := .ustr 1 0 65536
abbrev t2 : CV := .ustr 2 0 65536
abbrev rep0 : CV := .agg [.opq 0, .int .i64 1, .nils, .nils]
/-- The path is kept, with the text of this class. -/
def keptIs (c : Nat) : CRes → Bool
  | .ok (.tup [.ustr c' lo hi, .agg [.opq 0, .int .i64 (.ofNat 1), .nils, .nils], .bool true, .int .i64 (.ofNat 0)]) _ => Nat.beq c c' && Nat.beq lo 0 && Nat.beq hi 65536
  | _ => false
/-- The path is not kept. -/
def goneIs : CRes → Bool
  | .ok (.tup [.str [], .agg [.opq 0, .int .i64 (.ofNat 1), .nils, .nils], .bool false, .int .i64 (.ofNat 0)]) _ => true
  | _ => false
noncomputable def runQ (b l r : Option CV) : CRes := callF Tryz.prog pr38 80 17 [.ptr 7 0, .opq 0] (sQ b l r)
set_option maxRecDepth 100000
theorem file_n11 : keptIs 1 (runQ none (some t1) (some t1)) = true := by kernel_rfl
theorem file_111 : keptIs 1 (runQ (some t1) (some t1) (some t1)) = true := by kernel_rfl
theorem file_112 : keptIs 2 (runQ (some t1) (some t1) (some t2)) = true := by kernel_rfl
theorem file_121 : keptIs 2 (runQ (some t1) (some t2) (some t1)) = true := by kernel_rfl
theorem file_122 : keptIs 2 (runQ (some t1) (some t2) (some t2)) = true := by kernel_rfl
theorem file_11n : goneIs (runQ (some t1) (some t1) none) = true := by kernel_rfl
theorem file_1n1 : goneIs (runQ (some t1) none (some t1)) = true := by kernel_rfl
theorem file_n1n : keptIs 1 (runQ none (some t1) none) = true := by kernel_rfl
theorem file_nn1 : keptIs 1 (runQ none none (some t1)) = true := by kernel_rfl
theorem file_1nn : goneIs (runQ (some t1) none none) = true := by kernel_rfl
theorem file_nnn : goneIs (runQ none none none) = true := by kernel_rfl
end Go.Ev
