/-
  FallbackSides answers true, whatever the two strings.
-/
import Derived.Test.YtpapmpmjnhcheaaGreatDoorStH
import Derived.Test.YtpapmpmjnhcheaaGreatDoorRows
import Derived.Below
set_option linter.all false

namespace Go.Ev
open Go.Proofs Go.RowKit Go.Proofs.YtpapmpmjnhcheaaGreatDoor
set_option maxRecDepth 100000

theorem ev_calls {P : Program} (hm : P.follows .mixedOrders = true) (hn : ∀ (f : FuncId) (fn : Func), P.funcs[f]? = some fn → fn.body.isSome = true → (fn.name == "runtime.NumGoroutine") = false) {prims : Prims} (hp : PrimsOK P prims)
    {n : Nat} {f : FuncId} (hf : prims f = none) {args : List CV} {S S' : St} {v : CV} (h : callF P prims (n + 1) f args S = .ok v S') {ρ : Ren} {w : World} {L : List Value} (hr : Rel ρ S w) (hg : Glob P ρ) (hL : reals ρ args = some L) :
    Calls P f L.toArray w fun e w' => ∃ ρ' V, e = .returned V ∧ Stp ρ S w ρ' S' w' ∧ real ρ' v = some V := by
  have e : callF P prims (n + 1) f args S = (match prims f with | some p => p args S | none => callK (fnC P f) (callF P prims n) args S) := rfl
  rw [e, hf] at h
  exact (fn_sound hm (draw_ok P) (callF_ok hm (draw_ok P) hn hp n) h hr hg hL).2

theorem shapes_laid : layD Tryz.prog 8 249 Rows.laid_treemerge_grammar_shapes 7 = some (cells0, rows0, 26) := by kernel_rfl
theorem shapes_named : Tryz.prog.globalNamed "treemerge/grammar.shapes" = some 0 := by kernel_rfl
theorem shapes_type : (Tryz.prog.globals[0]?).map (·.type) = some 249 := by kernel_rfl
theorem rows_full : fullRows rows0 = true := by kernel_rfl
theorem cells_few : Nat.blt cells0.length lim = true := by kernel_rfl

/-- The names of the two strings. -/
def two (s t : ByteArray) : Nat → Option Atom
  | 0 => some (.str s)
  | 1 => if s = t then none else some (.str t)
  | _ => none

theorem two_inj (s t : ByteArray) : ∀ (i j : Nat) (u : ByteArray), two s t i = some (.str u) → two s t j = some (.str u) → i = j := by
  intro i j u hi hj
  match i, j with
  | 0, 0 => rfl
  | 1, 1 => rfl
  | 0, 1 =>
    simp only [two, Option.some.injEq, Atom.str.injEq] at hi
    simp only [two] at hj
    split at hj
    · cases hj
    · rename_i hne
      simp only [Option.some.injEq, Atom.str.injEq] at hj
      exact absurd (hi.trans hj.symm) hne
  | 1, 0 =>
    simp only [two, Option.some.injEq, Atom.str.injEq] at hj
    simp only [two] at hi
    split at hi
    · cases hi
    · rename_i hne
      simp only [Option.some.injEq, Atom.str.injEq] at hi
      exact absurd (hj.trans hi.symm) hne
  | n + 2, _ => simp [two] at hi
  | _, n + 2 => simp [two] at hj

theorem ustr_real {ρ : Ren} {c lo hi : Nat} {s : ByteArray} (hv : ρ.v c = some (.str s)) (hu : UInj ρ) (h1 : lo ≤ s.size) (h2 : s.size ≤ hi) : real ρ (.ustr c lo hi) = some (.string s) := by
  simp only [real, Ren.ustr, hv]
  rw [if_pos ⟨hu, h1, h2⟩]
  rfl

theorem reals_two {ρ : Ren} {x y : CV} {X Y : Value} (hx : real ρ x = some X) (hy : real ρ y = some Y) : reals ρ [x, y] = some [X, Y] := by
  simp only [reals, hx, hy, Option.bind_some, Option.map_some]

theorem sides_calls {laid : List (String × DataW Unit)} (hd : ("treemerge/grammar.shapes", Rows.laid_treemerge_grammar_shapes) ∈ laid) (s t : ByteArray) (hs : s.size ≤ maxLen) (ht : t.size ≤ maxLen) (w : World) (hm : laidMet Tryz.prog laid w) :
    Calls Tryz.prog 3 #[.string s, .string t] w fun e w' => e = .returned (.bool true) ∧ Below w.heap.size w w' := by
  have hM : maxLen = 9223372036854775807 := by decide
  rw [hM] at hs ht
  have hlay : layD Tryz.prog 8 249 Rows.laid_treemerge_grammar_shapes Tryz.prog.globals.size = some (cells0, rows0, 26) := by rw [nglob]; exact shapes_laid
  obtain ⟨β, hr, hg, noW⟩ := init_rel hm hd shapes_named shapes_type hlay rows_full (by decide) (blt_of cells_few) (two s t)
  have hu : UInj (ren1 Tryz.prog.globals.size 26 β (two s t)) := two_inj s t
  have h0 : (ren1 Tryz.prog.globals.size 26 β (two s t)).v 0 = some (.str s) := rfl
  -- what a run gives
  have fin : ∀ {args : List CV}, isTrue (callF Tryz.prog prims2 60 3 args (stOf pre0 26 1)) = true → reals (ren1 Tryz.prog.globals.size 26 β (two s t)) args = some [.string s, .string t] →
      Calls Tryz.prog 3 #[.string s, .string t] w fun e w' => e = .returned (.bool true) ∧ Below w.heap.size w w' := by
    intro args h hL
    obtain ⟨S', h⟩ := isTrue_ok h
    have := ev_calls mixed names' prims2_ok (n := 59) (f := 3) rfl h hr hg hL
    refine Calls.mono this (fun e w' he => ?_)
    obtain ⟨ρ', V, rfl, hst, hv⟩ := he
    simp only [real, Option.some.injEq] at hv
    subst hv
    refine ⟨rfl, hst.os, hst.tape, hst.output, hst.size, fun x hx => hst.keep x hx (fun b D hb => ?_)⟩
    exact (noW b hb).elim
  by_cases e : s = t
  · subst e
    by_cases hl : s.size ≤ 65536
    · exact fin alike (reals_two (ustr_real h0 hu (Nat.zero_le _) hl) (ustr_real h0 hu (Nat.zero_le _) hl))
    · exact fin long1' (reals_two (ustr_real h0 hu (by omega) hs) (ustr_real h0 hu (by omega) hs))
  · have h1 : (ren1 Tryz.prog.globals.size 26 β (two s t)).v 1 = some (.str t) := by
      show two s t 1 = _
      simp only [two, if_neg e]
    by_cases hl : s.size ≤ 65536
    · by_cases hl' : t.size ≤ 65536
      · exact fin apart (reals_two (ustr_real h0 hu (Nat.zero_le _) hl) (ustr_real h1 hu (Nat.zero_le _) hl'))
      · exact fin long2 (reals_two (ustr_real h0 hu (Nat.zero_le _) hl) (ustr_real h1 hu (by omega) ht))
    · exact fin long1 (reals_two (ustr_real h0 hu (by omega) hs) (ustr_real h1 hu (Nat.zero_le _) ht))
end Go.Ev
