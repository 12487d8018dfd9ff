/-
  CombineIndependent: the row's step: whatever the three versions, the law returns true and leaves its argument as it was.
-/
import Derived.Test.YtlkfgnknkoeepaaGreatDoorIndR
import Derived.Test.YtlkfgnknkoeepaaGreatDoorIndS
import Derived.Test.YtlkfgnknkoeepaaGreatDoorIndT
import Derived.Test.YtlkfgnknkoeepaaGreatDoorIndU
import Derived.Test.YtlkfgnknkoeepaaGreatDoorID
import Derived.Test.YtlkfgnknkoeepaaGreatDoorEvY
import Derived.Test.YtlkfgnknkoeepaaGreatDoorCO
import Derived.Test.YtlkfgnknkoeepaaGreatDoorFactG
import Derived.WideKeyArgs
set_option linter.all false

namespace Go.Proofs.YtlkfgnknkoeepaaGreatDoor
open Go.ChangeShapes Go.WideShapes Go.ChangeAt Go.RowKit Go.Clock
open Go.ChangeMaps (open_string shut_string)
open Go.Proofs

set_option maxRecDepth 100000 in
theorem indep_lifted (os : Os) (started : os.Started) (H : Type) (enc : TypeId × Value → H) :
    ReturnsInHanded {} Tryz.checked os 4 .any (fun w args => (Rows.combineIndependentSpec.pre enc Tryz.prog Tryz.f4 [] false w args ∧ laidMetH Tryz.prog laidInd w) ∧ sizedMet enc Tryz.prog Tryz.f4 (OpenSpec.ofChange Rows.combineIndependentSpec) false w args)
      (Rows.combineIndependentSpec.post enc Tryz.prog Tryz.f4 false true false false) := by
  refine returnsInHanded_of_change_and (C := Tryz.checked) (X := fun w _ => laidMetH Tryz.prog laidInd w) (fun _ _ _ hh h => h.of_heap hh) Ind_own started Ind_noInit Tryz.func4
    (ChangeSpec.witness_shaped (enc := enc) (C := Tryz.checked) (os := os) (X := fun w _ => laidMetH Tryz.prog laidInd w) false (World.laidAll Tryz.prog os laidInd) argsInd 8 (World.laidAll_os _ _ _) (World.shaped_of_ZipB (Ind_zip os) (Ind_rest os)) (Ind_wide os) (Ind_pre enc os) (Ind_size enc os) (Ind_met os _)) ?_
  intro W base args ds gs before hval0 hW _ hwt hX _
  have hval : ∀ (j : Nat) t v, Tryz.f4.params[j]? = some t → args[j]? = some v → Value.okWide Tryz.prog W .any base t v := hval0
  have hW' := hW
  obtain ⟨p, q, hA0, hV, rfl, _, _⟩ := hW
  have hA : DataW.TrodAll enc Tryz.prog W 0 (fun _ => true) true Tryz.f4.params.toList args.toList ds p := hA0
  rw [Tryz.params4] at hA hval
  obtain ⟨v0, vs0, d0, ds0, p0, q0, hargs, rfl, rfl, h0, r0⟩ := trodAll_cons hA
  obtain ⟨rfl, rfl, rfl⟩ := trodAll_nil r0
  obtain rfl : args = #[v0] := by cases args; simp_all
  obtain ⟨rfl, rfl⟩ := trodVars_none hV
  have hlt := fun x hx => hW'.lt x hx
  obtain ⟨vb, vl, vr, l0, l1, l2, rfl, m0, m1, m2, k0, k1, k2⟩ := open_projects (hval 0 32 v0 rfl rfl) h0
  clear hA0 hval0
  refine (indep_calls vb vl vr l0 l1 l2 W m0 m1 m2 k0 k1 k2).mono fun e W' ⟨he, hb⟩ => ?_
  subst he
  exact ⟨_, rfl, post_of_below hW' (fun _ _ _ => (trodAll_cons_mk (shut_bool Tryz.underlying4 _) trodAll_mk0)) (fun sp hsp => trodAll_cons_mk (WideElems.Trod_stays fact_laidOut (by kernel_rfl) (of_decide_eq_true (by kernel_rfl)) h0 (fun x hx => hb.same (hlt x (by simp [hx]))) (fun x hx => hsp x (by simp [hx]))) trodAll_mk0) (fun _ _ => rfl) rfl hb (ok_one (by kernel_rfl) rfl (okWide_bool_mk Tryz.underlying4 _))⟩
end Go.Proofs.YtlkfgnknkoeepaaGreatDoor
