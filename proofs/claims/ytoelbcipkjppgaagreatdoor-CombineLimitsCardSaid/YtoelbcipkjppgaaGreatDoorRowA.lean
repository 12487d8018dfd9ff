/-
  CombineLimits: the row's step: whatever the three numbers, the law returns true and leaves its arguments as they were.
-/
import Derived.Test.YtoelbcipkjppgaaGreatDoorRowR
import Derived.Test.YtoelbcipkjppgaaGreatDoorRowS
import Derived.Test.YtoelbcipkjppgaaGreatDoorRowT
import Derived.Test.YtoelbcipkjppgaaGreatDoorRowU
import Derived.Test.YtoelbcipkjppgaaGreatDoorLB
import Derived.Test.YtoelbcipkjppgaaGreatDoorEvY
set_option linter.all false

namespace Go.Proofs.YtoelbcipkjppgaaGreatDoor
open Go.ChangeShapes Go.WideShapes Go.ChangeAt Go.RowKit Go.Clock
open Go.ChangeMaps (open_string shut_string)
open Go.Proofs

set_option maxRecDepth 100000 in
theorem limits_lifted (os : Os) (started : os.Started) (H : Type) (enc : TypeId × Value → H) :
    ReturnsInHanded {} Tryz.checked os 3 .any (fun w args => (Rows.combineLimitsSpec.pre enc Tryz.prog Tryz.f3 [] false w args ∧ laidMetH Tryz.prog laidLm w) ∧ sizedMet enc Tryz.prog Tryz.f3 (OpenSpec.ofChange Rows.combineLimitsSpec) false w args)
      (Rows.combineLimitsSpec.post enc Tryz.prog Tryz.f3 false true false false) := by
  refine returnsInHanded_of_change_and (C := Tryz.checked) (X := fun w _ => laidMetH Tryz.prog laidLm w) (fun _ _ _ hh h => h.of_heap hh) Lm_own started Lm_noInit Tryz.func3
    (ChangeSpec.witness_shaped (enc := enc) (C := Tryz.checked) (os := os) (X := fun w _ => laidMetH Tryz.prog laidLm w) false (World.laidAll Tryz.prog os laidLm) argsLm 8 (World.laidAll_os _ _ _) (World.shaped_of_ZipB (Lm_zip os) (Lm_rest os)) (Lm_wide os) (Lm_pre enc os) (Lm_size enc os) (Lm_met os _)) ?_
  intro W base args ds gs before hval0 hW _ hwt hX _
  have hval : ∀ (j : Nat) t v, Tryz.f3.params[j]? = some t → args[j]? = some v → Value.okWide Tryz.prog W .any base t v := hval0
  have hW' := hW
  obtain ⟨p, q, hA0, hV, rfl, _, _⟩ := hW
  have hA : DataW.TrodAll enc Tryz.prog W 0 (fun _ => true) true Tryz.f3.params.toList args.toList ds p := hA0
  rw [Tryz.params3] at hA hval
  obtain ⟨v0, vs0, d0, ds0, p0, q0, hargs, rfl, rfl, h0, r0⟩ := trodAll_cons hA
  obtain ⟨v1, vs1, d1, ds1, p1, q1, rfl, rfl, rfl, h1, r1⟩ := trodAll_cons r0
  obtain ⟨v2, vs2, d2, ds2, p2, q2, rfl, rfl, rfl, h2, r2⟩ := trodAll_cons r1
  obtain ⟨rfl, rfl, rfl⟩ := trodAll_nil r2
  obtain rfl : args = #[v0, v1, v2] := by cases args; simp_all
  obtain ⟨rfl, rfl⟩ := trodVars_none hV
  obtain ⟨a0, rfl, rfl, rfl, w0⟩ := open_int Tryz.underlying5 (hval 0 5 v0 rfl rfl) h0
  have k0 : 0 ≤ a0 ∧ a0 ≤ 255 := by simpa [Lit.wf, IntKind.min, IntKind.max, IntKind.signed, IntKind.bits] using w0
  obtain ⟨n0, rfl⟩ : ∃ k : Nat, a0 = Int.ofNat k := ⟨a0.toNat, by simp; omega⟩
  have m0 : n0 ≤ 255 := by have := k0.2; simp at this; omega
  obtain ⟨a1, rfl, rfl, rfl, w1⟩ := open_int Tryz.underlying5 (hval 1 5 v1 rfl rfl) h1
  have k1 : 0 ≤ a1 ∧ a1 ≤ 255 := by simpa [Lit.wf, IntKind.min, IntKind.max, IntKind.signed, IntKind.bits] using w1
  obtain ⟨n1, rfl⟩ : ∃ k : Nat, a1 = Int.ofNat k := ⟨a1.toNat, by simp; omega⟩
  have m1 : n1 ≤ 255 := by have := k1.2; simp at this; omega
  obtain ⟨a2, rfl, rfl, rfl, w2⟩ := open_int Tryz.underlying5 (hval 2 5 v2 rfl rfl) h2
  have k2 : 0 ≤ a2 ∧ a2 ≤ 255 := by simpa [Lit.wf, IntKind.min, IntKind.max, IntKind.signed, IntKind.bits] using w2
  obtain ⟨n2, rfl⟩ : ∃ k : Nat, a2 = Int.ofNat k := ⟨a2.toNat, by simp; omega⟩
  have m2 : n2 ≤ 255 := by have := k2.2; simp at this; omega
  clear hA0 hval0
  simp only [List.append_nil] at hW'
  refine (limits_calls n0 n1 n2 m0 m1 m2 W).mono fun e W' ⟨he, hb⟩ => ?_
  subst he
  exact ⟨_, rfl, Go.Ev.post_plain hW' (fun _ _ _ => (trodAll_cons_mk (shut_bool Tryz.underlying4 _) trodAll_mk0)) (fun sp => (trodAll_cons_mk (shut_int Tryz.underlying5 w0) (trodAll_cons_mk (shut_int Tryz.underlying5 w1) (trodAll_cons_mk (shut_int Tryz.underlying5 w2) trodAll_mk0)))) (fun _ => rfl) hb (ok_one (by kernel_rfl) rfl (okWide_bool_mk Tryz.underlying4 _))⟩
end Go.Proofs.YtoelbcipkjppgaaGreatDoor
