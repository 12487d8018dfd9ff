/-
  ReviewTexts: the row's step: whatever the list of views, the law returns true and leaves its argument as it was.
-/
import Derived.Test.YtjhmlmiegkjncaaGreatDoorRowR
import Derived.Test.YtjhmlmiegkjncaaGreatDoorRowS
import Derived.Test.YtjhmlmiegkjncaaGreatDoorLawH
import Derived.Test.YtjhmlmiegkjncaaGreatDoorEvY
import Derived.Test.YtjhmlmiegkjncaaGreatDoorFactC
import Derived.WideKeyArgs
set_option linter.all false

namespace Go.Proofs.YtjhmlmiegkjncaaGreatDoor
open Go.ChangeShapes Go.WideShapes Go.ChangeAt Go.RowKit Go.Clock
open Go.ChangeMaps (open_string shut_string)
open Go.Proofs

set_option maxRecDepth 100000 in
theorem texts_lifted (os : Os) (started : os.Started) (H : Type) (enc : TypeId × Value → H) :
    ReturnsInHanded {} Tryz.checked os 3 .any (fun w args => (Rows.reviewTextsSpec.pre enc Tryz.prog Tryz.f3 [] false w args ∧ laidMetH Tryz.prog laidRvw w) ∧ sizedMet enc Tryz.prog Tryz.f3 (OpenSpec.ofChange Rows.reviewTextsSpec) false w args)
      (Rows.reviewTextsSpec.post enc Tryz.prog Tryz.f3 false true false false) := by
  refine returnsInHanded_of_change_and (C := Tryz.checked) (X := fun w _ => laidMetH Tryz.prog laidRvw w) (fun _ _ _ hh h => h.of_heap hh) Rvw_own started Rvw_noInit Tryz.func3
    (ChangeSpec.witness_shaped (enc := enc) (C := Tryz.checked) (os := os) (X := fun w _ => laidMetH Tryz.prog laidRvw w) false (World.laidAll Tryz.prog os laidRvw) argsRvw 8 (World.laidAll_os _ _ _) (World.shaped_of_ZipB (Rvw_zip os) (Rvw_rest os)) (Rvw_wide os) (Rvw_pre enc os) (Rvw_size enc os) (Rvw_met os _)) ?_
  intro W base args ds gs before hval0 hW _ hwt hX _
  have hval : ∀ (j : Nat) t v, Tryz.f3.params[j]? = some t → args[j]? = some v → Value.okWide Tryz.prog W .any base t v := hval0
  have hW' := hW
  obtain ⟨p, q, hA0, hV, rfl, _, _⟩ := hW
  have hA : DataW.TrodAll enc Tryz.prog W 0 (fun _ => true) true Tryz.f3.params.toList args.toList ds p := hA0
  rw [Tryz.params3] at hA hval
  obtain ⟨v0, vs0, d0, ds0, p0, q0, hargs, rfl, rfl, h0, r0⟩ := trodAll_cons hA
  obtain ⟨rfl, rfl, rfl⟩ := trodAll_nil r0
  obtain rfl : args = #[v0] := by cases args; simp_all
  obtain ⟨rfl, rfl⟩ := trodVars_none hV
  have hlt := fun x hx => hW'.lt x hx
  obtain ⟨l0, m0, k0, z0⟩ := open_views (hval 0 22 v0 rfl rfl) h0
  rw [MakeChecks.laidMetH_plain _ _ _ Rvw_plain] at hX
  clear hA0 hval0
  refine (rtexts_all (laid := laidRvw) (List.mem_of_getElem? (i := 5) rfl) v0 l0 W m0 k0 z0 hX).mono fun e W' ⟨he, hb⟩ => ?_
  subst he
  exact ⟨_, rfl, post_of_below hW' (fun _ _ _ => (trodAll_cons_mk (shut_bool Tryz.underlying4 _) trodAll_mk0)) (fun sp hsp => trodAll_cons_mk (WideElems.Trod_stays fact_laidOut (by kernel_rfl) (of_decide_eq_true (by kernel_rfl)) h0 (fun x hx => hb.same (hlt x (by simp [hx]))) (fun x hx => hsp x (by simp [hx]))) trodAll_mk0) (fun _ _ => rfl) rfl hb (ok_one (by kernel_rfl) rfl (okWide_bool_mk Tryz.underlying4 _))⟩
end Go.Proofs.YtjhmlmiegkjncaaGreatDoor
