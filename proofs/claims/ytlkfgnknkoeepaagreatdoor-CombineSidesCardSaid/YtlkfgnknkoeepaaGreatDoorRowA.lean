/-
  CombineSides: the row's step: whatever the two lists of files, the law returns true and leaves its arguments as they were.
-/
import Derived.Test.YtlkfgnknkoeepaaGreatDoorRowR
import Derived.Test.YtlkfgnknkoeepaaGreatDoorRowS
import Derived.Test.YtlkfgnknkoeepaaGreatDoorRowT
import Derived.Test.YtlkfgnknkoeepaaGreatDoorRowU
import Derived.Test.YtlkfgnknkoeepaaGreatDoorCG
import Derived.Test.YtlkfgnknkoeepaaGreatDoorEvY
import Derived.Test.YtlkfgnknkoeepaaGreatDoorCO
import Derived.Test.YtlkfgnknkoeepaaGreatDoorFactG
import Derived.WideKeyArgs
set_option linter.all false

namespace Go.Proofs.YtlkfgnknkoeepaaGreatDoor
open Go.ChangeShapes Go.WideShapes Go.ChangeAt Go.RowKit Go.Clock
open Go.ChangeMaps (open_string shut_string)
open Go.Proofs

set_option maxRecDepth 100000 in
theorem sides_lifted (os : Os) (started : os.Started) (H : Type) (enc : TypeId × Value → H) :
    ReturnsInHanded {} Tryz.checked os 3 .any (fun w args => (Rows.combineSidesSpec.pre enc Tryz.prog Tryz.f3 [] false w args ∧ laidMetH Tryz.prog laidSds w) ∧ sizedMet enc Tryz.prog Tryz.f3 (OpenSpec.ofChange Rows.combineSidesSpec) false w args)
      (Rows.combineSidesSpec.post enc Tryz.prog Tryz.f3 false true false false) := by
  refine returnsInHanded_of_change_and (C := Tryz.checked) (X := fun w _ => laidMetH Tryz.prog laidSds w) (fun _ _ _ hh h => h.of_heap hh) Sds_own started Sds_noInit Tryz.func3
    (ChangeSpec.witness_shaped (enc := enc) (C := Tryz.checked) (os := os) (X := fun w _ => laidMetH Tryz.prog laidSds w) false (World.laidAll Tryz.prog os laidSds) argsSds 8 (World.laidAll_os _ _ _) (World.shaped_of_ZipB (Sds_zip os) (Sds_rest os)) (Sds_wide os) (Sds_pre enc os) (Sds_size enc os) (Sds_met os _)) ?_
  intro W base args ds gs before hval0 hW _ hwt hX _
  have hval : ∀ (j : Nat) t v, Tryz.f3.params[j]? = some t → args[j]? = some v → Value.okWide Tryz.prog W .any base t v := hval0
  have hW' := hW
  obtain ⟨p, q, hA0, hV, rfl, _, _⟩ := hW
  have hA : DataW.TrodAll enc Tryz.prog W 0 (fun _ => true) true Tryz.f3.params.toList args.toList ds p := hA0
  rw [Tryz.params3] at hA hval
  obtain ⟨v0, vs0, d0, ds0, p0, q0, hargs, rfl, rfl, h0, r0⟩ := trodAll_cons hA
  obtain ⟨v1, vs1, d1, ds1, p1, q1, rfl, rfl, rfl, h1, r1⟩ := trodAll_cons r0
  obtain ⟨rfl, rfl, rfl⟩ := trodAll_nil r1
  obtain rfl : args = #[v0, v1] := by cases args; simp_all
  obtain ⟨rfl, rfl⟩ := trodVars_none hV
  have hlt := fun x hx => hW'.lt x hx
  obtain ⟨l0, m0, k0⟩ := open_files (hval 0 22 v0 rfl rfl) h0
  obtain ⟨l1, m1, k1⟩ := open_files (hval 1 22 v1 rfl rfl) h1
  clear hA0 hval0
  refine (sides_calls v0 v1 l0 l1 W m0 m1 k0 k1).mono fun e W' ⟨he, hb⟩ => ?_
  subst he
  exact ⟨_, rfl, post_of_below hW' (fun _ _ _ => (trodAll_cons_mk (shut_bool Tryz.underlying4 _) trodAll_mk0)) (fun sp hsp => trodAll_cons_mk (WideElems.Trod_stays fact_laidOut (by kernel_rfl) (of_decide_eq_true (by kernel_rfl)) h0 (fun x hx => hb.same (hlt x (by simp [hx]))) (fun x hx => hsp x (by simp [hx]))) (trodAll_cons_mk (WideElems.Trod_stays fact_laidOut (by kernel_rfl) (of_decide_eq_true (by kernel_rfl)) h1 (fun x hx => hb.same (hlt x (by simp [hx]))) (fun x hx => hsp x (by simp [hx]))) trodAll_mk0)) (fun _ _ => rfl) rfl hb (ok_one (by kernel_rfl) rfl (okWide_bool_mk Tryz.underlying4 _))⟩
end Go.Proofs.YtlkfgnknkoeepaaGreatDoor
