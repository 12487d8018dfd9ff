/-
  The program's Independent, the reference's. The reference's Independent; whether the versions are few.
-/
import Derived.Test.YtoelbcipkjppgaaGreatDoorIB
set_option linter.all false

namespace Go.Proofs
open Go.RowKit Go.Maps Go.MapKept
open Classical

/-- No path has changed on both sides. -/
noncomputable def indepB (b l r : List FileT) : Bool := decide (∀ p ∈ pathsL b l r, textOf b p = textOf l p ∨ textOf b p = textOf r p)
theorem indepB_false (b l r : List FileT) (k : Nat) (p : ByteArray) (hp : (pathsL b l r)[k]? = some p) (h1 : ¬ textOf b p = textOf l p) (h2 : ¬ textOf b p = textOf r p) : indepB b l r = false := by
  unfold indepB
  rw [decide_eq_false_iff_not]
  intro h
  rcases h p (List.mem_of_getElem? hp) with h | h
  · exact h1 h
  · exact h2 h
theorem indepB_true (b l r : List FileT) (h : ∀ j p, j < (pathsL b l r).length → (pathsL b l r)[j]? = some p → textOf b p = textOf l p ∨ textOf b p = textOf r p) : indepB b l r = true := by
  unfold indepB
  rw [decide_eq_true_eq]
  intro p hp
  obtain ⟨j, hj⟩ := List.mem_iff_getElem?.1 hp
  exact h j p (List.getElem?_eq_some_iff.1 hj).1 hj

theorem pathsL_sizes {l0 l1 l2 : List FileT} (k0 : FilesOK l0) (k1 : FilesOK l1) (k2 : FilesOK l2) : ∀ p ∈ pathsL l0 l1 l2, p.size ≤ 9223372036854775807 := by
  intro p hp
  rcases mem_pathsL.1 hp with ⟨f, hf, rfl⟩ | ⟨f, hf, rfl⟩ | ⟨f, hf, rfl⟩
  · exact (k0.2 f hf).1
  · exact (k1.2 f hf).1
  · exact (k2.2 f hf).1

/-- What both functions return. -/
noncomputable def Indep (w : World) (b l r : List FileT) (e : Ending) (w' : World) : Prop :=
  Below w.heap.size w w' ∧ ((chk3 b l r ≠ 0 ∧ e = .returned (.tuple #[.bool false, .int .i64 (chk3 b l r)])) ∨ (chk3 b l r = 0 ∧ e = .returned (.tuple #[.bool (indepB b l r), .int .i64 0])))

set_option maxRecDepth 100000 in
set_option maxHeartbeats 2000000 in
theorem cindep_good (v0 v1 v2 : Value) (l0 l1 l2 : List FileT) (w : World) (h0 : FilesVal w v0 l0) (h1 : FilesVal w v1 l1) (h2 : FilesVal w v2 l2) (k0 : FilesOK l0) (k1 : FilesOK l1) (k2 : FilesOK l2) (hgood : chk3 l0 l1 l2 = 0) :
    Calls Tryz.prog 8 #[v0, v1, v2] w (Indep w l0 l1 l2) := by
  obtain ⟨g0, g1, g2⟩ := chk3_zero hgood
  have n0 := (chkE_zero g0).1
  have n1 := (chkE_zero g1).1
  have n2 := (chkE_zero g2).1
  have pc := ccheck_calls v0 v1 v2 l0 l1 l2 w h0 h1 h2 k0 k1 k2
  rw [hgood] at pc
  have HPL := Lib.hid (pathsL_length hgood)
  have HG := Lib.hid hgood
  clear hgood g0 g1 g2
  go_enter Tryz.func8, Tryz.ntmps8
  go_wp2_with fail
  refine pc.mono ?_
  rintro e w1 ⟨rfl, hb⟩
  have HB1 := Lib.hid hb
  clear hb pc
  go_wp2_with fail
  refine (open_val v0 l0 _ (h0.below HB1.out) k0).mono ?_
  rintro e w2 ⟨m0, rfl, hm0, hs0, hb⟩
  have HB2 := Lib.hid (HB1.out.trans (hb.mono HB1.out.size))
  have HS0 := Lib.hid hs0
  clear hb hs0 hm0
  go_wp2_with fail
  refine (open_val v1 l1 _ (h1.below HB2.out) k1).mono ?_
  rintro e w3 ⟨m1, rfl, hm1, hs1, hb⟩
  have HB3 := Lib.hid (HB2.out.trans (hb.mono HB2.out.size))
  have HS0' := Lib.hid (HS0.out.below hb HS0.out.lt)
  have HS1 := Lib.hid hs1
  clear hb hs1 hm1 HS0
  go_wp2_with fail
  refine (open_val v2 l2 _ (h2.below HB3.out) k2).mono ?_
  rintro e w4 ⟨m2, rfl, hm2, hs2, hb⟩
  have HB4 := Lib.hid (HB3.out.trans (hb.mono HB3.out.size))
  have HS0 := Lib.hid (HS0'.out.below hb HS0'.out.lt)
  have HS1' := Lib.hid (HS1.out.below hb HS1.out.lt)
  have HS2 := Lib.hid hs2
  clear hb hs2 hm2 HS0' HS1
  go_wp2_with fail
  refine (paths_calls v0 v1 v2 l0 l1 l2 _ (h0.below HB4.out) (h1.below HB4.out) (h2.below HB4.out) k0 k1 k2 (by omega) (by omega) (by omega)).mono ?_
  rintro e w5 ⟨pv, rfl, hpv, hb⟩
  have HB5 := Lib.hid (HB4.out.trans (hb.mono HB4.out.size))
  have HM0 := Lib.hid (HS0.out.below hb HS0.out.lt)
  have HM1 := Lib.hid (HS1'.out.below hb HS1'.out.lt)
  have HM2 := Lib.hid (HS2.out.below hb HS2.out.lt)
  have HPV : Hid (StrsVal w5 pv (pathsL l0 l1 l2)) := Lib.hid hpv
  clear hb hpv HS0 HS1' HS2 h0 h1 h2
  obtain ⟨pp, pcap, rfl⟩ := HPV.out.slice
  have hPS := Lib.hid (pathsL_sizes k0 k1 k2)
  have HIF := Lib.hid (indepB_false l0 l1 l2)
  have HIT := Lib.hid (indepB_true l0 l1 l2)
  have HFIN : Hid (∀ e w', Below w.heap.size w w' → e = .returned (.tuple #[.bool (indepB l0 l1 l2), .int .i64 0]) → Indep w l0 l1 l2 e w') := Lib.hid fun e w' h1 h2 => ⟨h1, .inr ⟨HG.out, h2⟩⟩
  generalize pathsL l0 l1 l2 = P at *
  have hpl := HPL.out
  go_wp2
  go_loop [32] (fun i => ∃ k : Nat, k ≤ P.length ∧ (∀ j p, j < k → P[j]? = some p → textOf l0 p = textOf l1 p ∨ textOf l0 p = textOf l2 p) ∧ i = .int .i64 k) (fun i => P.length - (intOf i).toNat)
  case atStart => exact ⟨0, by omega, fun j p h => by omega, rfl⟩
  case round =>
    obtain ⟨k, hk, hsame, rfl⟩ := hrel
    have HSM := Lib.hid hsame
    clear hsame
    by_cases hlt : k < P.length
    · obtain ⟨p, hp⟩ : ∃ p, P[k]? = some p := ⟨P[k], List.getElem?_eq_getElem hlt⟩
      obtain ⟨b, rfl, hbl, hcell⟩ := HPV.out.at hp
      have q1 := same_calls m0 _ m1 _ (textOf l0) (textOf l1) p w5 HM0.out HM1.out (hPS.out p (List.mem_of_getElem? hp))
      have q2 := same_calls m0 _ m2 _ (textOf l0) (textOf l2) p w5 HM0.out HM2.out (hPS.out p (List.mem_of_getElem? hp))
      have HP := Lib.hid hp
      clear hp
      by_cases e1 : textOf l0 p = textOf l1 p
      · rw [decide_eq_true e1] at q1
        have HE := Lib.hid e1
        clear e1 q2
        go_wp2_with fail
        refine q1.mono ?_
        rintro e w' ⟨rfl, rfl⟩
        go_wp2
        go_round
        case rel =>
          refine ⟨k + 1, by omega, fun j f' hj hf' => ?_, by go_num⟩
          by_cases e : j = k
          · subst e
            rw [HP.out] at hf'
            cases hf'
            exact .inl HE.out
          · exact HSM.out j f' (by omega) hf'
        case measure => simp [intOf]; omega
      · rw [decide_eq_false e1] at q1
        by_cases e2 : textOf l0 p = textOf l2 p
        · rw [decide_eq_true e2] at q2
          have HE := Lib.hid e2
          clear e1 e2
          go_wp2_with fail
          refine q1.mono ?_
          rintro e w' ⟨rfl, rfl⟩
          go_wp2_with fail
          refine q2.mono ?_
          rintro e w' ⟨rfl, rfl⟩
          go_wp2
          go_round
          case rel =>
            refine ⟨k + 1, by omega, fun j f' hj hf' => ?_, by go_num⟩
            by_cases e : j = k
            · subst e
              rw [HP.out] at hf'
              cases hf'
              exact .inr HE.out
            · exact HSM.out j f' (by omega) hf'
          case measure => simp [intOf]; omega
        · rw [decide_eq_false e2] at q2
          have HR := Lib.hid (HIF.out _ _ HP.out e1 e2)
          clear e1 e2
          go_wp2_with fail
          refine q1.mono ?_
          rintro e w' ⟨rfl, rfl⟩
          go_wp2_with fail
          refine q2.mono ?_
          rintro e w' ⟨rfl, rfl⟩
          go_wp2
          go_ret2
          exact HFIN.out _ _ HB5.out (by rw [HR.out] <;> rfl)
    · have HR := Lib.hid (HIT.out (fun j p hj hp => HSM.out j p (by omega) hp))
      go_wp2
      go_ret2
      exact HFIN.out _ _ HB5.out (by rw [HR.out] <;> rfl)

set_option maxHeartbeats 1000000 in
theorem cindep_bad (v0 v1 v2 : Value) (l0 l1 l2 : List FileT) (w : World) (h0 : FilesVal w v0 l0) (h1 : FilesVal w v1 l1) (h2 : FilesVal w v2 l2) (k0 : FilesOK l0) (k1 : FilesOK l1) (k2 : FilesOK l2) (hbad : ¬ chk3 l0 l1 l2 = 0) :
    Calls Tryz.prog 8 #[v0, v1, v2] w (Indep w l0 l1 l2) := by
  have pc := ccheck_calls v0 v1 v2 l0 l1 l2 w h0 h1 h2 k0 k1 k2
  have HFIN : Hid (∀ e w', Below w.heap.size w w' → e = .returned (.tuple #[.bool false, .int .i64 (chk3 l0 l1 l2)]) → Indep w l0 l1 l2 e w') := Lib.hid fun e w' h1 h2 => ⟨h1, .inl ⟨hbad, h2⟩⟩
  generalize chk3 l0 l1 l2 = x at *
  go_enter Tryz.func8, Tryz.ntmps8
  go_wp2_with fail
  refine pc.mono ?_
  rintro e w1 ⟨rfl, hb⟩
  have HB1 := Lib.hid hb
  clear hb pc
  go_wp2
  go_ret2
  exact HFIN.out _ _ HB1.out rfl

theorem cindep_calls (v0 v1 v2 : Value) (l0 l1 l2 : List FileT) (w : World) (h0 : FilesVal w v0 l0) (h1 : FilesVal w v1 l1) (h2 : FilesVal w v2 l2) (k0 : FilesOK l0) (k1 : FilesOK l1) (k2 : FilesOK l2) :
    Calls Tryz.prog 8 #[v0, v1, v2] w (Indep w l0 l1 l2) := by
  by_cases h : chk3 l0 l1 l2 = 0
  · exact cindep_good v0 v1 v2 l0 l1 l2 w h0 h1 h2 k0 k1 k2 h
  · exact cindep_bad v0 v1 v2 l0 l1 l2 w h0 h1 h2 k0 k1 k2 h
end Go.Proofs

namespace Go.Proofs
open Go.RowKit Go.Maps Go.MapKept
open Classical

set_option maxRecDepth 100000 in
set_option maxHeartbeats 4000000 in
theorem rindep_good (v0 v1 v2 : Value) (l0 l1 l2 : List FileT) (w : World) (h0 : FilesVal w v0 l0) (h1 : FilesVal w v1 l1) (h2 : FilesVal w v2 l2) (k0 : FilesOK l0) (k1 : FilesOK l1) (k2 : FilesOK l2) (hgood : chk3 l0 l1 l2 = 0) :
    Calls Tryz.prog 9 #[v0, v1, v2] w (Indep w l0 l1 l2) := by
  obtain ⟨g0, g1, g2⟩ := chk3_zero hgood
  have n0 := (chkE_zero g0).1
  have n1 := (chkE_zero g1).1
  have n2 := (chkE_zero g2).1
  have pc := rerrors_calls v0 v1 v2 l0 l1 l2 w h0 h1 h2 k0 k1 k2
  rw [hgood] at pc
  have HPL := Lib.hid (pathsL_length hgood)
  have HG := Lib.hid hgood
  have HF0 := Lib.hid (firstOf_eq (ordered_of (chkE_zero g0).2.2.1))
  have HF1 := Lib.hid (firstOf_eq (ordered_of (chkE_zero g1).2.2.1))
  have HF2 := Lib.hid (firstOf_eq (ordered_of (chkE_zero g2).2.2.1))
  clear hgood g0 g1 g2
  go_enter Tryz.func9, Tryz.ntmps9
  go_wp2_with fail
  refine pc.mono ?_
  rintro e w1 ⟨rfl, hb⟩
  have HB1 := Lib.hid hb
  clear hb pc
  go_wp2_with fail
  refine (rpaths_calls v0 v1 v2 l0 l1 l2 _ (h0.below HB1.out) (h1.below HB1.out) (h2.below HB1.out) (by omega) (by omega) (by omega)).mono ?_
  rintro e w2 ⟨pv, rfl, hpv, hb⟩
  have HB5 := Lib.hid (HB1.out.trans (hb.mono HB1.out.size))
  have HPV : Hid (StrsVal w2 pv (pathsL l0 l1 l2)) := Lib.hid hpv
  have H0 := Lib.hid (h0.below HB5.out)
  have H1 := Lib.hid (h1.below HB5.out)
  have H2 := Lib.hid (h2.below HB5.out)
  clear hb hpv h0 h1 h2
  obtain ⟨pp, pcap, rfl⟩ := HPV.out.slice
  have HIF := Lib.hid (indepB_false l0 l1 l2)
  have HIT := Lib.hid (indepB_true l0 l1 l2)
  have HFIN : Hid (∀ e w', Below w.heap.size w w' → e = .returned (.tuple #[.bool (indepB l0 l1 l2), .int .i64 0]) → Indep w l0 l1 l2 e w') := Lib.hid fun e w' h1 h2 => ⟨h1, .inr ⟨HG.out, h2⟩⟩
  generalize pathsL l0 l1 l2 = P at *
  have hpl := HPL.out
  go_wp2
  go_loop [10] (fun i => ∃ k : Nat, k ≤ P.length ∧ (∀ j p, j < k → P[j]? = some p → textOf l0 p = textOf l1 p ∨ textOf l0 p = textOf l2 p) ∧ i = .int .i64 k) (fun i => P.length - (intOf i).toNat)
  case atStart => exact ⟨0, by omega, fun j p h => by omega, rfl⟩
  case round =>
    obtain ⟨k, hk, hsame, rfl⟩ := hrel
    have HSM := Lib.hid hsame
    clear hsame
    by_cases hlt : k < P.length
    · obtain ⟨p, hp⟩ : ∃ p, P[k]? = some p := ⟨P[k], List.getElem?_eq_getElem hlt⟩
      obtain ⟨b, rfl, hbl, hcell⟩ := HPV.out.at hp
      have t0 := rtext_calls v0 l0 p w2 H0.out (by omega)
      have t1 := rtext_calls v1 l1 p w2 H1.out (by omega)
      have t2 := rtext_calls v2 l2 p w2 H2.out (by omega)
      rw [HF0.out p] at t0
      rw [HF1.out p] at t1
      rw [HF2.out p] at t2
      have HNO := Lib.hid (HIF.out k p hp)
      have HGO : Hid ((textOf l0 p = textOf l1 p ∨ textOf l0 p = textOf l2 p) → ∀ j f', j < k + 1 → P[j]? = some f' → textOf l0 f' = textOf l1 f' ∨ textOf l0 f' = textOf l2 f') := Lib.hid (fun hor j f' hj hf' => by
        by_cases e : j = k
        · subst e
          rw [hp] at hf'
          cases hf'
          exact hor
        · exact HSM.out j f' (by omega) hf')
      clear hp
      generalize textOf l0 p = x0 at *
      generalize textOf l1 p = x1 at *
      generalize textOf l2 p = x2 at *
      cases x0 with
      | none =>
        cases x1 with
        | none =>
          go_wp2_with fail
          refine t0.mono ?_
          rintro e w' ⟨rfl, rfl⟩
          go_wp2_with fail
          refine t1.mono ?_
          rintro e w' ⟨rfl, rfl⟩
          go_wp2_with fail
          refine t2.mono ?_
          rintro e w' ⟨rfl, rfl⟩
          go_wp2
          go_round
          case rel => exact ⟨k + 1, by omega, HGO.out (by simp), by go_num⟩
          case measure => simp [intOf]; omega
        | some u1 =>
          cases x2 with
          | none =>
            go_wp2_with fail
            refine t0.mono ?_
            rintro e w' ⟨rfl, rfl⟩
            go_wp2_with fail
            refine t1.mono ?_
            rintro e w' ⟨rfl, rfl⟩
            go_wp2_with fail
            refine t2.mono ?_
            rintro e w' ⟨rfl, rfl⟩
            go_wp2
            go_round
            case rel => exact ⟨k + 1, by omega, HGO.out (by simp), by go_num⟩
            case measure => simp [intOf]; omega
          | some u2 =>
            go_wp2_with fail
            refine t0.mono ?_
            rintro e w' ⟨rfl, rfl⟩
            go_wp2_with fail
            refine t1.mono ?_
            rintro e w' ⟨rfl, rfl⟩
            go_wp2_with fail
            refine t2.mono ?_
            rintro e w' ⟨rfl, rfl⟩
            go_wp2
            go_ret2
            exact HFIN.out _ _ HB5.out (by rw [HNO.out (by simp [*]) (by simp [*])] <;> rfl)
      | some u0 =>
        cases x1 with
        | none =>
          cases x2 with
          | none =>
            go_wp2_with fail
            refine t0.mono ?_
            rintro e w' ⟨rfl, rfl⟩
            go_wp2_with fail
            refine t1.mono ?_
            rintro e w' ⟨rfl, rfl⟩
            go_wp2_with fail
            refine t2.mono ?_
            rintro e w' ⟨rfl, rfl⟩
            go_wp2
            go_ret2
            exact HFIN.out _ _ HB5.out (by rw [HNO.out (by simp [*]) (by simp [*])] <;> rfl)
          | some u2 =>
            by_cases e2 : u2 = u0
            · subst e2
              go_wp2_with fail
              refine t0.mono ?_
              rintro e w' ⟨rfl, rfl⟩
              go_wp2_with fail
              refine t1.mono ?_
              rintro e w' ⟨rfl, rfl⟩
              go_wp2_with fail
              refine t2.mono ?_
              rintro e w' ⟨rfl, rfl⟩
              go_wp2
              go_round
              case rel => exact ⟨k + 1, by omega, HGO.out (by simp), by go_num⟩
              case measure => simp [intOf]; omega
            · have q2 : (u2.toList == u0.toList) = false := by rw [toList_beq]; simpa using e2
              have e2' : ¬ u0 = u2 := fun h => e2 h.symm
              go_wp2_with fail
              refine t0.mono ?_
              rintro e w' ⟨rfl, rfl⟩
              go_wp2_with fail
              refine t1.mono ?_
              rintro e w' ⟨rfl, rfl⟩
              go_wp2_with fail
              refine t2.mono ?_
              rintro e w' ⟨rfl, rfl⟩
              go_wp2
              go_ret2
              exact HFIN.out _ _ HB5.out (by rw [HNO.out (by simp [*]) (by simp [*])] <;> rfl)
        | some u1 =>
          by_cases e1 : u1 = u0
          · subst e1
            go_wp2_with fail
            refine t0.mono ?_
            rintro e w' ⟨rfl, rfl⟩
            go_wp2_with fail
            refine t1.mono ?_
            rintro e w' ⟨rfl, rfl⟩
            go_wp2_with fail
            refine t2.mono ?_
            rintro e w' ⟨rfl, rfl⟩
            go_wp2
            go_round
            case rel => exact ⟨k + 1, by omega, HGO.out (by simp), by go_num⟩
            case measure => simp [intOf]; omega
          · have q1 : (u1.toList == u0.toList) = false := by rw [toList_beq]; simpa using e1
            have e1' : ¬ u0 = u1 := fun h => e1 h.symm
            cases x2 with
            | none =>
              go_wp2_with fail
              refine t0.mono ?_
              rintro e w' ⟨rfl, rfl⟩
              go_wp2_with fail
              refine t1.mono ?_
              rintro e w' ⟨rfl, rfl⟩
              go_wp2_with fail
              refine t2.mono ?_
              rintro e w' ⟨rfl, rfl⟩
              go_wp2
              go_ret2
              exact HFIN.out _ _ HB5.out (by rw [HNO.out (by simp [*]) (by simp [*])] <;> rfl)
            | some u2 =>
              by_cases e2 : u2 = u0
              · subst e2
                go_wp2_with fail
                refine t0.mono ?_
                rintro e w' ⟨rfl, rfl⟩
                go_wp2_with fail
                refine t1.mono ?_
                rintro e w' ⟨rfl, rfl⟩
                go_wp2_with fail
                refine t2.mono ?_
                rintro e w' ⟨rfl, rfl⟩
                go_wp2
                go_round
                case rel => exact ⟨k + 1, by omega, HGO.out (by simp), by go_num⟩
                case measure => simp [intOf]; omega
              · have q2 : (u2.toList == u0.toList) = false := by rw [toList_beq]; simpa using e2
                have e2' : ¬ u0 = u2 := fun h => e2 h.symm
                go_wp2_with fail
                refine t0.mono ?_
                rintro e w' ⟨rfl, rfl⟩
                go_wp2_with fail
                refine t1.mono ?_
                rintro e w' ⟨rfl, rfl⟩
                go_wp2_with fail
                refine t2.mono ?_
                rintro e w' ⟨rfl, rfl⟩
                go_wp2
                go_ret2
                exact HFIN.out _ _ HB5.out (by rw [HNO.out (by simp [*]) (by simp [*])] <;> rfl)
    · have HR := Lib.hid (HIT.out (fun j p hj hp => HSM.out j p (by omega) hp))
      go_wp2
      go_ret2
      exact HFIN.out _ _ HB5.out (by rw [HR.out] <;> rfl)

set_option maxHeartbeats 1000000 in
theorem rindep_bad (v0 v1 v2 : Value) (l0 l1 l2 : List FileT) (w : World) (h0 : FilesVal w v0 l0) (h1 : FilesVal w v1 l1) (h2 : FilesVal w v2 l2) (k0 : FilesOK l0) (k1 : FilesOK l1) (k2 : FilesOK l2) (hbad : ¬ chk3 l0 l1 l2 = 0) :
    Calls Tryz.prog 9 #[v0, v1, v2] w (Indep w l0 l1 l2) := by
  have pc := rerrors_calls v0 v1 v2 l0 l1 l2 w h0 h1 h2 k0 k1 k2
  have HFIN : Hid (∀ e w', Below w.heap.size w w' → e = .returned (.tuple #[.bool false, .int .i64 (chk3 l0 l1 l2)]) → Indep w l0 l1 l2 e w') := Lib.hid fun e w' h1 h2 => ⟨h1, .inl ⟨hbad, h2⟩⟩
  generalize chk3 l0 l1 l2 = x at *
  go_enter Tryz.func9, Tryz.ntmps9
  go_wp2_with fail
  refine pc.mono ?_
  rintro e w1 ⟨rfl, hb⟩
  have HB1 := Lib.hid hb
  clear hb pc
  go_wp2
  go_ret2
  exact HFIN.out _ _ HB1.out rfl

theorem rindep_calls (v0 v1 v2 : Value) (l0 l1 l2 : List FileT) (w : World) (h0 : FilesVal w v0 l0) (h1 : FilesVal w v1 l1) (h2 : FilesVal w v2 l2) (k0 : FilesOK l0) (k1 : FilesOK l1) (k2 : FilesOK l2) :
    Calls Tryz.prog 9 #[v0, v1, v2] w (Indep w l0 l1 l2) := by
  by_cases h : chk3 l0 l1 l2 = 0
  · exact rindep_good v0 v1 v2 l0 l1 l2 w h0 h1 h2 k0 k1 k2 h
  · exact rindep_bad v0 v1 v2 l0 l1 l2 w h0 h1 h2 k0 k1 k2 h
end Go.Proofs
