/-
  A part of the proof.
-/
import Derived.Test.YtjaaedbbmgjppaaGreatDoorIter
import Derived.KernelRfl
set_option linter.all false

namespace Go.Ev
open Go.Proofs
noncomputable section
def prims : Prims := fun f => bif Nat.beq f 22 then some (sortedPrim 39) else none
def isTrue : CRes → Bool
  | .ok (.bool true) _ => true
  | _ => false
theorem t1 : isTrue (callF Tryz.prog prims 60 4 [.opq 0, .opq 1] ⟨.leaf, 9, 0⟩) = true := by kernel_rfl
end
end Go.Ev

namespace Go.Ev
open Go.Proofs Go.RowKit

theorem ev_calls {P : Program} (hm : P.follows .mixedOrders = true) (hn : ∀ (f : FuncId) (fn : Func), P.funcs[f]? = some fn → fn.body.isSome = true → (fn.name == "runtime.NumGoroutine") = false) {prims : Prims} (hp : PrimsOK P prims)
    {n : Nat} {f : FuncId} (hf : prims f = none) {args : List CV} {S S' : St} {v : CV} (h : callF P prims (n + 1) f args S = .ok v S') {ρ : Ren} {w : World} {L : List Value} (hr : Rel ρ S w) (hg : Glob P ρ) (hL : reals ρ args = some L) :
    Calls P f L.toArray w fun e w' => ∃ ρ' V, e = .returned V ∧ Stp ρ S w ρ' S' w' ∧ real ρ' v = some V := by
  have e : callF P prims (n + 1) f args S = (match prims f with | some p => p args S | none => callK (fnC P f) (callF P prims n) args S) := rfl
  rw [e, hf] at h
  exact (fn_sound hm (draw_ok P) (callF_ok hm (draw_ok P) hn hp n) h hr hg hL).2

theorem isTrue_ok {r : CRes} (h : isTrue r = true) : ∃ S, r = .ok (.bool true) S := by
  unfold isTrue at h
  split at h
  · exact ⟨_, rfl⟩
  · cases h

theorem mixed : Tryz.prog.follows .mixedOrders = true := by kernel_rfl
theorem names : (Tryz.prog.funcs.toList.all fun fn => fn.body.isNone || !(fn.name == "runtime.NumGoroutine")) = true := by kernel_rfl
theorem names' : ∀ (f : FuncId) (fn : Func), Tryz.prog.funcs[f]? = some fn → fn.body.isSome = true → (fn.name == "runtime.NumGoroutine") = false := by
  intro f fn hf hb
  have hmem : fn ∈ Tryz.prog.funcs.toList := by
    have : Tryz.prog.funcs.toList[f]? = some fn := by simpa using hf
    exact List.mem_of_getElem? this
  have := List.all_eq_true.1 names fn hmem
  cases hbd : fn.body with
  | none => rw [hbd] at hb; cases hb
  | some c => rw [hbd] at this; simpa using this
theorem nglob : Tryz.prog.globals.size = 9 := by kernel_rfl
theorem under9 : Tryz.prog.underlying 9 = some .string := by kernel_rfl
theorem enters22 : ∀ args w, (callFunc 22 args).run Tryz.prog w = .ok (.enter 22 args) w := enters_of Tryz.func22 (by kernel_rfl) rfl

set_option maxRecDepth 100000 in
theorem prims_ok : PrimsOK Tryz.prog prims := by
  intro f p hf
  unfold prims at hf
  cases hb : Nat.beq f 22 with
  | false => rw [hb] at hf; cases hf
  | true =>
    rw [hb, cond_true] at hf
    cases hf
    have : f = 22 := Nat.eq_of_beq_eq_true hb
    subst this
    exact @sorted_prim Tryz.prog 22 39 9 under9 enters22 Tryz.sorted_has

/-- Where nothing is known but where the variables lie. -/
def ren0 (g : Nat) (v : Nat → Option Atom) : Ren := ⟨fun b => if b < g then some (b, 0) else none, fun _ => none, v⟩

theorem rel0 (g : Nat) (v : Nat → Option Atom) (w : World) : Rel (ren0 g v) ⟨.leaf, g, 0⟩ w := by
  refine ⟨fun b o h => ?_, fun b b' B D D' h => ?_, fun b hb => ?_, fun _ _ => rfl⟩
  · have : (Tr.leaf : Tr CObj).get b = some o := h
    cases this
  · obtain ⟨o, h⟩ := h
    have : (Tr.leaf : Tr CObj).get b = some o := h
    cases this
  · have hb : g ≤ b := hb
    simp only [ren0]
    rw [if_neg (by omega)]

set_option maxRecDepth 100000 in
theorem none_calls (s : ByteArray) (k : IntKind) (m : Int) (w : World) : Calls Tryz.prog 4 #[.string s, .int k m] w fun e w' => e = .returned (.bool true) ∧ Below w.heap.size w w' := by
  obtain ⟨S', h⟩ := isTrue_ok t1
  have := ev_calls mixed names' prims_ok (n := 59) (f := 4) rfl h (ρ := ren0 9 fun i => match i with | 0 => some (.str s) | 1 => some (.int k m) | _ => none) (w := w) (L := [.string s, .int k m]) (rel0 _ _ w)
    (fun g hg => by rw [nglob] at hg; simp [ren0, hg]) rfl
  refine Calls.mono this (fun e w' he => ?_)
  obtain ⟨ρ', V, rfl, hs, hv⟩ := he
  simp only [real, Option.some.injEq] at hv
  subst hv
  refine ⟨rfl, hs.os, hs.tape, hs.output, hs.size, fun x hx => hs.keep x hx (fun b D hb => ?_)⟩
  obtain ⟨o, ho⟩ := hb
  have : (Tr.leaf : Tr CObj).get b = some o := ho
  cases this

end Go.Ev
