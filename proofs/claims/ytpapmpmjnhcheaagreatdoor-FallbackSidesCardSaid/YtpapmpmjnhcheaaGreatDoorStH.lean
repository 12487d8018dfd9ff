/-
  The functions told by hand are rightly told; 'awake', made in any state. The law's function, over strings that are unknown: the four ways it can go.
-/
import Derived.Test.YtpapmpmjnhcheaaGreatDoorStG
import Derived.Test.YtpapmpmjnhcheaaGreatDoorEvV
import Derived.Shelf.Abstract
set_option linter.all false

namespace Go.Ev
open Go.Proofs Go.RowKit
set_option maxRecDepth 100000

theorem isTrue_ok {r : CRes} (h : isTrue r = true) : ∃ S, r = .ok (.bool true) S := by
  unfold isTrue at h
  split at h
  · exact ⟨_, rfl⟩
  · cases h

theorem mixed : Tryz.prog.follows .mixedOrders = true := by kernel_rfl
theorem names : (Tryz.prog.funcs.toList.all fun fn => fn.body.isNone || !(fn.name == "runtime.NumGoroutine")) = true := by kernel_rfl
theorem names' : ∀ (f : FuncId) (fn : Func), Tryz.prog.funcs[f]? = some fn → fn.body.isSome = true → (fn.name == "runtime.NumGoroutine") = false := by
  intro f fn hf hb
  have hmem : fn ∈ Tryz.prog.funcs.toList := by
    have : Tryz.prog.funcs.toList[f]? = some fn := by simpa using hf
    exact List.mem_of_getElem? this
  have := List.all_eq_true.1 names fn hmem
  cases hbd : fn.body with
  | none => rw [hbd] at hb; cases hb
  | some c => rw [hbd] at this; simpa using this
theorem nglob : Tryz.prog.globals.size = 7 := by kernel_rfl
theorem enters43 : ∀ args w, (callFunc 43 args).run Tryz.prog w = .ok (.enter 43 args) w := enters_of Tryz.func43 (by kernel_rfl) rfl

theorem prims_if {P : Program} {prims : Prims} (h : PrimsOK P prims) {f : FuncId} {p : List CV → St → CRes} (hp : PrimOK P f p) : PrimsOK P (fun g => bif Nat.beq g f then some p else prims g) := by
  intro g q hq
  change (bif Nat.beq g f then some p else prims g) = some q at hq
  cases hb : Nat.beq g f with
  | true =>
    rw [hb, cond_true] at hq
    cases hq
    obtain rfl := Nat.eq_of_beq_eq_true hb
    exact hp
  | false =>
    rw [hb, cond_false] at hq
    exact h g q hq

theorem prims_none {P : Program} : PrimsOK P (fun _ => none) := fun _ _ h => by cases h

theorem prims_else {P : Program} {a b : Prims} (ha : PrimsOK P a) (hb : PrimsOK P b) : PrimsOK P (fun f => match a f with | some p => some p | none => b f) := by
  intro f p hp
  cases h : a f with
  | some q =>
    simp only [h, Option.some.injEq] at hp
    exact ha f p (hp ▸ h)
  | none =>
    simp only [h] at hp
    exact hb f p hp

set_option maxRecDepth 100000 in
theorem indexByte_ok : PrimOK Tryz.prog 278 indexBytePrim := indexByte_prim Tryz.func278 (by kernel_rfl) (by kernel_rfl) (by kernel_rfl) (by kernel_rfl)
set_option maxRecDepth 100000 in
theorem countString_ok : PrimOK Tryz.prog 226 countStringPrim := countString_prim Tryz.func226 (by kernel_rfl) (by kernel_rfl) (by kernel_rfl) (by kernel_rfl)
set_option maxRecDepth 100000 in
theorem noEscape_ok : PrimOK Tryz.prog 108 noEscapePrim := noEscape_prim Tryz.func108 (by kernel_rfl) (by kernel_rfl) (by kernel_rfl) (by kernel_rfl)

theorem prims0_ok : PrimsOK Tryz.prog prims0 := prims_if (prims_if (prims_if (prims_if prims_none noEscape_ok) countString_ok) indexByte_ok) (copied_prim Tryz.underlying3 enters43 copied_has)

theorem calls0_ok : CallOK Tryz.prog (callF Tryz.prog prims0 200) := callF_ok mixed (draw_ok _) names' prims0_ok 200

theorem one_stage {f : FuncId} (l : List Stage) (h : ∀ st, st ∈ l → st.f = f ∧ st.ok (callF Tryz.prog prims0 200 st.f st.args (stOf st.pre st.nx st.nk)) = true) : PrimOK Tryz.prog f (stagesPrim l) :=
  stages_ok l fun st hs => ⟨(h st hs).1, stage_ok calls0_ok (h st hs).2⟩

theorem at6 : PrimOK Tryz.prog 6 (stagesPrim [stage7]) := one_stage _ fun st hs => by
  simp only [List.mem_singleton] at hs
  subst hs
  exact ⟨rfl, stage7_ok⟩
theorem at17 : PrimOK Tryz.prog 17 (stagesPrim [stage6]) := one_stage _ fun st hs => by
  simp only [List.mem_singleton] at hs
  subst hs
  exact ⟨rfl, stage6_ok⟩
theorem at20 : PrimOK Tryz.prog 20 (stagesPrim [stage0, stage1, stage2]) := one_stage _ fun st hs => by
  simp only [List.mem_cons, List.not_mem_nil, or_false] at hs
  rcases hs with rfl | rfl | rfl
  · exact ⟨rfl, stage0_ok⟩
  · exact ⟨rfl, stage1_ok⟩
  · exact ⟨rfl, stage2_ok⟩
theorem at22 : PrimOK Tryz.prog 22 (stagesPrim [stage5]) := one_stage _ fun st hs => by
  simp only [List.mem_singleton] at hs
  subst hs
  exact ⟨rfl, stage5_ok⟩
theorem at23 : PrimOK Tryz.prog 23 (stagesPrim [stage3, stage4]) := one_stage _ fun st hs => by
  simp only [List.mem_cons, List.not_mem_nil, or_false] at hs
  rcases hs with rfl | rfl
  · exact ⟨rfl, stage3_ok⟩
  · exact ⟨rfl, stage4_ok⟩

theorem prims1_ok : PrimsOK Tryz.prog prims1 := prims_else prims0_ok (prims_if (prims_if (prims_if (prims_if (prims_if prims_none at23) at22) at20) at17) at6)

set_option maxRecDepth 100000 in
theorem pre0_readOnly : readOnly 26 1 pre0 = true := by kernel_rfl

theorem awake_ok : PrimOK Tryz.prog 4 (freshPrim pre0 (.bool true)) := by
  obtain ⟨U, hU⟩ := isTrue_ok awake_true
  exact fresh_ok (callF_ok mixed (draw_ok _) names' prims1_ok 200) hU (by rw [nglob]; decide) pre0_readOnly

noncomputable def prims2 : Prims := fun f => bif Nat.beq f 4 then some (freshPrim pre0 (.bool true)) else none
theorem prims2_ok : PrimsOK Tryz.prog prims2 := prims_if prims_none awake_ok
end Go.Ev

namespace Go.Ev
open Go.Proofs
set_option maxRecDepth 100000
/-- The first is long. -/
theorem long1 : isTrue (callF Tryz.prog prims2 60 3 [.ustr 0 65537 9223372036854775807, .ustr 1 0 9223372036854775807] (stOf pre0 26 1)) = true := by kernel_rfl
/-- The first is long, and the second is the first. -/
theorem long1' : isTrue (callF Tryz.prog prims2 60 3 [.ustr 0 65537 9223372036854775807, .ustr 0 65537 9223372036854775807] (stOf pre0 26 1)) = true := by kernel_rfl
/-- The second alone is long. -/
theorem long2 : isTrue (callF Tryz.prog prims2 60 3 [.ustr 0 0 65536, .ustr 1 65537 9223372036854775807] (stOf pre0 26 1)) = true := by kernel_rfl
/-- Both are short: two strings. -/
theorem apart : isTrue (callF Tryz.prog prims2 60 3 [.ustr 0 0 65536, .ustr 1 0 65536] (stOf pre0 26 1)) = true := by kernel_rfl
/-- Both are short: one string. -/
theorem alike : isTrue (callF Tryz.prog prims2 60 3 [.ustr 0 0 65536, .ustr 0 0 65536] (stOf pre0 26 1)) = true := by kernel_rfl
end Go.Ev
