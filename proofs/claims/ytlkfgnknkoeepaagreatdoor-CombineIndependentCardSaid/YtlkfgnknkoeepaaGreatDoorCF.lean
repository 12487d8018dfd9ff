/-
  Little; files that are equal; reports that are clean.
-/
import Derived.Test.YtlkfgnknkoeepaaGreatDoorCE
import Derived.Laws.StructEq
set_option linter.all false

namespace Go.Proofs
open Go.RowKit Go.Maps Go.MapKept
open Classical

noncomputable def littleB (l : List FileT) : Bool := decide (l.length ≤ 5 ∧ ∀ f ∈ l, f.2.size ≤ 600)

set_option maxRecDepth 100000 in
set_option maxHeartbeats 400000 in
theorem little_calls (v : Value) (l : List FileT) (w : World) (h : FilesVal w v l) (hl : FilesOK l) :
    Calls Tryz.prog 5 #[v] w fun e w' => e = .returned (.bool (littleB l)) ∧ w = w' := by
  obtain ⟨a, c, rfl⟩ := h.slice
  have hll := hl.1
  go_enter Tryz.func5, Tryz.ntmps5
  go_wp2
  go_loop [3] (fun i => ∃ k : Nat, k ≤ l.length ∧ k ≤ 6 ∧ (∀ j (f : FileT), j < k → l[j]? = some f → f.2.size ≤ 600) ∧ i = .int .i64 k) (fun i => l.length - (intOf i).toNat)
  case atStart => exact ⟨0, by omega, by omega, fun j f h => by omega, rfl⟩
  case round =>
    obtain ⟨k, hk, hk6, hs, rfl⟩ := hrel
    have HS := Lib.hid hs
    clear hs
    by_cases hlt : k < l.length
    · by_cases h6 : k < 6
      · obtain ⟨b, off, rfl, hb, hc⟩ : ∃ b off, a = some ⟨b, off, none⟩ ∧ b < w.heap.size ∧ FilesAt w b off l := by
          rcases h with ⟨_, hnil⟩ | ⟨b, off, cap, e, hb, hc⟩
          · subst hnil; simp at hlt
          · cases e; exact ⟨b, off, rfl, hb, hc⟩
        obtain ⟨f, hf⟩ : ∃ f, l[k]? = some f := ⟨l[k], List.getElem?_eq_getElem hlt⟩
        obtain ⟨c1, c2⟩ := hc k f hf
        have HF := Lib.hid hf
        clear hf
        by_cases hz : 600 < f.2.size
        · have HR : Hid (littleB l = false) := Lib.hid (by
            unfold littleB
            simp only [decide_eq_false_iff_not, not_and]
            intro _ h
            have := h f (List.mem_of_getElem? HF.out)
            omega)
          go_wp2
          go_ret
          exact ⟨ret_bool HR.out.symm, rfl⟩
        · go_wp2
          go_round
          case rel =>
            refine ⟨k + 1, by omega, by omega, fun j f' hj hf' => ?_, by go_num⟩
            by_cases e : j = k
            · subst e
              rw [HF.out] at hf'
              cases hf'
              omega
            · exact HS.out j f' (by omega) hf'
          case measure => simp [intOf]; omega
      · have HR : Hid (littleB l = decide (l.length ≤ 5)) := Lib.hid (by
          unfold littleB
          have : ¬ l.length ≤ 5 := by omega
          simp [this])
        go_wp2
        go_ret
        exact ⟨ret_bool (by rw [HR.out, Bool.eq_iff_iff, decide_eq_true_eq, decide_eq_true_eq]; omega), rfl⟩
    · have HR : Hid (littleB l = decide (l.length ≤ 5)) := Lib.hid (by
        unfold littleB
        rw [Bool.eq_iff_iff, decide_eq_true_eq, decide_eq_true_eq]
        refine ⟨fun h => h.1, fun h => ⟨h, fun f hf => ?_⟩⟩
        obtain ⟨j, hj⟩ := List.mem_iff_getElem?.1 hf
        have := (List.getElem?_eq_some_iff.1 hj).1
        exact HS.out j f (by omega) hj)
      go_wp2
      go_ret
      exact ⟨ret_bool (by rw [HR.out, Bool.eq_iff_iff, decide_eq_true_eq, decide_eq_true_eq]; omega), rfl⟩

set_option maxRecDepth 100000 in
set_option maxHeartbeats 1000000 in
theorem samefiles_calls (v1 v2 : Value) (l : List FileT) (w : World) (h1 : FilesVal w v1 l) (h2 : FilesVal w v2 l) (hll : l.length ≤ 9223372036854775807) :
    Calls Tryz.prog 8 #[v1, v2] w fun e w' => e = .returned (.bool true) ∧ Below w.heap.size w w' := by
  obtain ⟨a1, c1, rfl⟩ := h1.slice
  obtain ⟨a2, c2, rfl⟩ := h2.slice
  go_enter Tryz.func8, Tryz.ntmps8
  go_wp2
  go_loopw [5] (fun i w' => ∃ k : Nat, k ≤ l.length ∧ Below w.heap.size w w' ∧ i = .int .i64 k) (fun i _ => l.length - (intOf i).toNat)
  case atStart => exact ⟨0, by omega, Below.refl _ _, rfl⟩
  case round =>
    rename_i wr hrel
    obtain ⟨k, hk, hbel, rfl⟩ := hrel
    have HB := Lib.hid hbel
    clear hbel
    by_cases hlt : k < l.length
    · obtain ⟨b1, o1, rfl, hb1, hc1⟩ : ∃ b off, a1 = some ⟨b, off, none⟩ ∧ b < w.heap.size ∧ FilesAt w b off l := by
        rcases h1 with ⟨_, hnil⟩ | ⟨b, off, cap, e, hb, hc⟩
        · subst hnil; simp at hlt
        · cases e; exact ⟨b, off, rfl, hb, hc⟩
      obtain ⟨b2, o2, rfl, hb2, hc2⟩ : ∃ b off, a2 = some ⟨b, off, none⟩ ∧ b < w.heap.size ∧ FilesAt w b off l := by
        rcases h2 with ⟨_, hnil⟩ | ⟨b, off, cap, e, hb, hc⟩
        · subst hnil; simp at hlt
        · cases e; exact ⟨b, off, rfl, hb, hc⟩
      obtain ⟨f, hf⟩ : ∃ f, l[k]? = some f := ⟨l[k], List.getElem?_eq_getElem hlt⟩
      obtain ⟨d1, d2⟩ := below_cells hc1 hb1 HB.out k f hf
      obtain ⟨e1, e2⟩ := below_cells hc2 hb2 HB.out k f hf
      clear hf
      go_wp2
      go_quiet (fail)
      go_wp2
      go_roundw
      case rel => exact ⟨k + 1, by omega, below_drewN HB.out, by go_num⟩
      case measure => simp [intOf]; omega
    · go_wp2
      go_ret
      exact ⟨rfl, HB.out⟩

theorem RepsVal.below {w wr : World} {v : Value} {l : List ByteArray} (h : RepsVal w v l) (hb : Below w.heap.size w wr) : RepsVal wr v l := by
  rcases h with h | ⟨b, cap, hv, hlt, hc⟩
  · exact .inl h
  · refine .inr ⟨b, cap, hv, Nat.lt_of_lt_of_le hlt hb.size, fun i p hp => ?_⟩
    obtain ⟨c0, c1, c2, c3⟩ := hc i p hp
    exact ⟨(hb.cell (p := ⟨b, _, none⟩) hlt).trans c0, (hb.cell (p := ⟨b, _, none⟩) hlt).trans c1, (hb.cell (p := ⟨b, _, none⟩) hlt).trans c2, (hb.cell (p := ⟨b, _, none⟩) hlt).trans c3⟩

set_option maxHeartbeats 400000 in
theorem fclean_calls (p : ByteArray) (w : World) : Calls Tryz.prog 19 #[.agg #[.string p, .int .i64 1, .slice none 0 0, .slice none 0 0]] w fun e w' => e = .returned (.bool true) ∧ Below w.heap.size w w' := by
  go_enter Tryz.func19, Tryz.ntmps19
  go_wp2
  go_ret
  exact ⟨rfl, below_alloc _⟩

set_option maxRecDepth 100000 in
set_option maxHeartbeats 1000000 in
theorem clean_calls (v : Value) (ps : List ByteArray) (w : World) (h : RepsVal w v ps) (hll : ps.length ≤ 9223372036854775807) :
    Calls Tryz.prog 9 #[v] w fun e w' => e = .returned (.bool true) ∧ Below w.heap.size w w' := by
  obtain ⟨a, c, rfl⟩ : ∃ a c, v = .slice a ps.length c := by
    rcases h with ⟨rfl, rfl⟩ | ⟨b, cap, rfl, _⟩
    · exact ⟨_, _, rfl⟩
    · exact ⟨_, _, rfl⟩
  go_enter Tryz.func9, Tryz.ntmps9
  go_wp2
  go_loopw [7] (fun i w' => ∃ k : Nat, k ≤ ps.length ∧ Below w.heap.size w w' ∧ i = .int .i64 k) (fun i _ => ps.length - (intOf i).toNat)
  case atStart => exact ⟨0, by omega, Below.refl _ _, rfl⟩
  case round =>
    rename_i wr hrel
    obtain ⟨k, hk, hbel, rfl⟩ := hrel
    have HB := Lib.hid hbel
    clear hbel
    by_cases hlt : k < ps.length
    · obtain ⟨b, rfl, hb, hc⟩ : ∃ b, a = some ⟨b, 0, none⟩ ∧ b < w.heap.size ∧ ∀ i (p : ByteArray), ps[i]? = some p →
          wr.cell? ⟨b, i * 4, none⟩ = some (.string p) ∧ wr.cell? ⟨b, i * 4 + 1, none⟩ = some (.int .i64 1) ∧ wr.cell? ⟨b, i * 4 + 2, none⟩ = some (.slice none 0 0) ∧ wr.cell? ⟨b, i * 4 + 3, none⟩ = some (.slice none 0 0) := by
        rcases h.below HB.out with ⟨_, hnil⟩ | ⟨b, cap, e, hb, hc⟩
        · subst hnil; simp at hlt
        · cases e
          rcases h with ⟨h, _⟩ | ⟨b', cap', e', hb', _⟩
          · cases h
          · cases e'
            exact ⟨_, rfl, hb', hc⟩
      obtain ⟨p, hp⟩ : ∃ p, ps[k]? = some p := ⟨ps[k], List.getElem?_eq_getElem hlt⟩
      obtain ⟨c0, c1, c2, c3⟩ := hc k p hp
      clear hp hc
      go_wp2_with (go_at_call 19; refine (fclean_calls p _).mono ?_; rintro e w' ⟨rfl, hb2⟩; have HB2 := Lib.hid (HB.out.trans (((below_alloc _).trans (hb2.mono (below_alloc _).size)).mono HB.out.size)); clear hb2)
      go_roundw
      case rel => exact ⟨k + 1, by omega, HB2.out, by go_num⟩
      case measure => simp [intOf]; omega
    · go_wp2
      go_ret
      exact ⟨rfl, HB.out⟩
end Go.Proofs
