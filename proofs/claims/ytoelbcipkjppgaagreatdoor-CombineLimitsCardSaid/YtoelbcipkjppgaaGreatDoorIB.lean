/-
  The reference's put: it returns the list with the element. The reference's paths: the sorted paths of three versions. The reference's put, Insert, paths: what they give lies in a row of its own.
-/
import Derived.Test.YtoelbcipkjppgaaGreatDoorIA
import Derived.Laws.OwnMore
set_option linter.all false

namespace Go.Proofs
open Go.RowKit Go.Maps Go.MapKept
open Classical

/-- How the gathering stands: a new list. -/
structure GInv (w0 wr : World) (v : Value) (out : List ByteArray) : Prop where
  bel : Below w0.heap.size w0 wr
  row : StrRow wr w0.heap.size v out

theorem GInv.appended {w0 w1 w2 : World} {v v' : Value} {out : List ByteArray} {s : ByteArray} (h : GInv w0 w1 v out) (o : Obj)
    (hr : w2.ownsRow w0.heap.size 9 1 v' (out.length + 1) (out.map Value.string ++ [.string s])) (hg : (w1.alloc o).grownBy w2 v.ownBlock) : GInv w0 w2 v' (out ++ [s]) := by
  obtain ⟨h1, h3⟩ := h
  have hne : ∀ k, k < w0.heap.size → some k ≠ v.ownBlock := by
    intro k hk e
    have := (World.ownsRow.lt h3 k e.symm).1
    omega
  have hs1 := h1.size
  have ha : Below w0.heap.size w1 w2 := by
    refine ⟨hg.os, hg.tape, hg.output, Nat.le_trans (below_alloc o).size hg.size, fun k hk => ?_⟩
    rw [hg.block k (by simp; omega) (hne k hk)]
    exact (below_alloc o).block k (by omega)
  refine ⟨h1.trans ha, ?_⟩
  unfold StrRow
  simpa using hr

theorem StrsVal.slice {w : World} {v : Value} {l : List ByteArray} (h : StrsVal w v l) : ∃ p c, v = .slice p l.length c := by
  rcases h with ⟨rfl, rfl⟩ | ⟨b, cap, rfl, _⟩
  · exact ⟨_, _, rfl⟩
  · exact ⟨_, _, rfl⟩
theorem StrsVal.below {w wr : World} {v : Value} {l : List ByteArray} (h : StrsVal w v l) (hb : Below w.heap.size w wr) : StrsVal wr v l := by
  rcases h with h | ⟨b, cap, hv, hlt, hc⟩
  · exact .inl h
  · exact .inr ⟨b, cap, hv, Nat.lt_of_lt_of_le hlt hb.size, fun i p hp => (hb.cell (p := ⟨b, i, none⟩) hlt).trans (hc i p hp)⟩
theorem StrsVal.at {w : World} {p : Option Addr} {n c : Nat} {l : List ByteArray} (h : StrsVal w (.slice p n c) l) {k : Nat} {x : ByteArray} (hx : l[k]? = some x) : ∃ b, p = some ⟨b, 0, none⟩ ∧ b < w.heap.size ∧ w.cell? ⟨b, k, none⟩ = some (.string x) := by
  rcases h with ⟨_, rfl⟩ | ⟨b, cap, e, hlt, hc⟩
  · simp at hx
  · cases e
    exact ⟨b, rfl, hlt, hc k x hx⟩

/-- What a function that makes a list of strings gives. -/
def Gives (w : World) (l : List ByteArray) (e : Ending) (w' : World) : Prop := ∃ v, e = .returned v ∧ StrsVal w' v l ∧ Below w.heap.size w w'

set_option maxRecDepth 100000 in
set_option maxHeartbeats 4000000 in
theorem put_calls (v : Value) (l : List ByteArray) (s : ByteArray) (w : World) (h : StrsVal w v l) (hl : l.length ≤ 1000) :
    Calls Tryz.prog 40 #[v, .string s] w (Gives w (putL l s)) := by
  obtain ⟨a, c, rfl⟩ := h.slice
  obtain ⟨is, hi, hz0, hz1, hz2⟩ := info_parts infoStr
  go_enter Tryz.func40, Tryz.ntmps40
  go_wp2
  go_loopw [5, 6, 7] (fun v d i w' => ∃ k : Nat, k ≤ l.length ∧ GInv w w' v (putZ s (l.take k)).1 ∧ d = .bool (putZ s (l.take k)).2 ∧ i = .int .i64 k) (fun _ _ i _ => l.length - (intOf i).toNat)
  case atStart => exact ⟨0, by omega, ⟨Below.refl _ _, World.ownsRow_nil _ _ _ _⟩, rfl, rfl⟩
  case round =>
    rename_i wr hrel
    obtain ⟨k, hk, hinv, rfl, rfl⟩ := hrel
    have HI := Lib.hid hinv
    clear hinv
    by_cases hlt : k < l.length
    · obtain ⟨x, hx⟩ : ∃ x, l[k]? = some x := ⟨l[k], List.getElem?_eq_getElem hlt⟩
      obtain ⟨b, rfl, hb, hcell0⟩ := h.at hx
      have hcell := (HI.out.bel.cell (p := ⟨b, k, none⟩) hb).trans hcell0
      have HC0 := Lib.hid hcell0
      clear hcell0
      have hst := putZ_take (s := s) hx
      have hlen := putZ_length s (l.take k)
      have hlk : (l.take k).length ≤ 1000 := by have := List.length_take_le' k l; omega
      have HLEN : Hid ((putZ s (l.take k)).1.length ≤ 1001) := Lib.hid (by split at hlen <;> omega)
      have HST := Lib.hid hst
      clear hst hlen hlk hx
      generalize putZ s (l.take k) = z at *
      obtain ⟨o, d⟩ := z
      simp only at *
      have hol : o.length ≤ 1001 := HLEN.out
      by_cases hxs : x = s
      · have HQ : Hid (putStep s (o, d) x = (o ++ [x], true)) := Lib.hid (by unfold putStep; rw [if_pos (.inr hxs)])
        subst hxs
        cases d
        all_goals
          go_wp2_with (at_builtin; refine wpList_append_own _ rfl _ _ 53 rfl w.heap.size 9 is (.string .empty) 1 16 Tryz.underlying53 hi hz0 hz1 hz2 rfl (by decide) _ o.length (o.map Value.string) rfl (World.ownsRow.alloc HI.out.row _) ⟨wr.heap.size, 0, none⟩ 1 1 [.string x] rfl rfl (new_cell _ _ _) (one_string _) (le_max (by omega)) (by omega) (Nat.le_trans HI.out.bel.size (below_alloc _).size) ?_; intro v' w2 hown2 hgrow2 hnil2)
          go_roundw
          case rel =>
            refine ⟨k + 1, by omega, ?_, ?_, by go_num⟩
            · rw [HST.out, HQ.out]
              exact HI.out.appended _ hown2 hgrow2
            · rw [HST.out, HQ.out]
          case measure => simp [intOf]; omega
      · have hq : (x.toList == s.toList) = false := by rw [toList_beq]; simpa using hxs
        cases d with
        | true =>
          have HQ : Hid (putStep s (o, true) x = (o ++ [x], true)) := Lib.hid (by unfold putStep; rw [if_pos (.inl rfl)])
          go_wp2_with (at_builtin; refine wpList_append_own _ rfl _ _ 53 rfl w.heap.size 9 is (.string .empty) 1 16 Tryz.underlying53 hi hz0 hz1 hz2 rfl (by decide) _ o.length (o.map Value.string) rfl (World.ownsRow.alloc HI.out.row _) ⟨wr.heap.size, 0, none⟩ 1 1 [.string x] rfl rfl (new_cell _ _ _) (one_string _) (le_max (by omega)) (by omega) (Nat.le_trans HI.out.bel.size (below_alloc _).size) ?_; intro v' w2 hown2 hgrow2 hnil2)
          go_roundw
          case rel =>
            refine ⟨k + 1, by omega, ?_, ?_, by go_num⟩
            · rw [HST.out, HQ.out]
              exact HI.out.appended _ hown2 hgrow2
            · rw [HST.out, HQ.out]
          case measure => simp [intOf]; omega
        | false =>
          have HL := Lib.hid (leS_eq s x)
          unfold leS at HL
          by_cases hls : Op.bytesLess s.toList x.toList = true
          · have hlx : Op.bytesLess x.toList s.toList = false := by have h := HL.out; rw [hls, hq] at h; simpa using h
            have HQ : Hid (putStep s (o, false) x = (o ++ [s, x], true)) := Lib.hid (by unfold putStep; rw [if_neg (by simp [hxs]), if_pos hls])
            go_wp2_with (first
              | (at_builtin; refine wpList_append_own _ rfl _ _ 53 rfl w.heap.size 9 is (.string .empty) 1 16 Tryz.underlying53 hi hz0 hz1 hz2 rfl (by decide) _ o.length (o.map Value.string) rfl (World.ownsRow.alloc HI.out.row _) ⟨wr.heap.size, 0, none⟩ 1 1 [.string s] rfl rfl (new_cell _ _ _) (one_string _) (le_max (by omega)) (by omega) (Nat.le_trans HI.out.bel.size (below_alloc _).size) ?_; intro v2 w2 hown2 hgrow2 hnil2; have HG0 := Lib.hid (HI.out.appended _ hown2 hgrow2); obtain ⟨o2, ho2⟩ : ∃ o2, o2 = o ++ [s] := ⟨_, rfl⟩; have hol2 : o2.length ≤ 1002 := (by rw [ho2, List.length_append]; simp only [List.length_cons, List.length_nil]; omega); have HO2 := Lib.hid ho2; have HG : Hid (GInv w w2 v2 o2) := Lib.hid (by rw [ho2]; exact HG0.out); have hcell2 := (HG.out.bel.cell (p := ⟨b, k, none⟩) hb).trans HC0.out; clear ho2 HG0 hown2 hgrow2 hnil2)
              | (at_builtin; refine wpList_append_own _ rfl _ _ 53 rfl w.heap.size 9 is (.string .empty) 1 16 Tryz.underlying53 hi hz0 hz1 hz2 rfl (by decide) _ o2.length (o2.map Value.string) rfl (World.ownsRow.alloc HG.out.row _) ⟨w2.heap.size, 0, none⟩ 1 1 [.string x] rfl rfl (new_cell _ _ _) (one_string _) (le_max (by omega)) (by omega) (Nat.le_trans HG.out.bel.size (below_alloc _).size) ?_; intro v3 w3 hown3 hgrow3 hnil3))
            go_roundw
            case rel =>
              refine ⟨k + 1, by omega, ?_, ?_, by go_num⟩
              · rw [HST.out, HQ.out]
                have := HG.out.appended _ hown3 hgrow3
                rw [HO2.out, List.append_assoc] at this
                exact this
              · rw [HST.out, HQ.out]
            case measure => simp [intOf]; omega
          · have hls : Op.bytesLess s.toList x.toList = false := by simpa using hls
            have hlx : Op.bytesLess x.toList s.toList = true := by have h := HL.out; rw [hls, hq] at h; simpa using h
            have HQ : Hid (putStep s (o, false) x = (o ++ [x], false)) := Lib.hid (by unfold putStep; rw [if_neg (by simp [hxs]), if_neg (by simp [hls])])
            go_wp2_with (at_builtin; refine wpList_append_own _ rfl _ _ 53 rfl w.heap.size 9 is (.string .empty) 1 16 Tryz.underlying53 hi hz0 hz1 hz2 rfl (by decide) _ o.length (o.map Value.string) rfl (World.ownsRow.alloc HI.out.row _) ⟨wr.heap.size, 0, none⟩ 1 1 [.string x] rfl rfl (new_cell _ _ _) (one_string _) (le_max (by omega)) (by omega) (Nat.le_trans HI.out.bel.size (below_alloc _).size) ?_; intro v' w2 hown2 hgrow2 hnil2)
            go_roundw
            case rel =>
              refine ⟨k + 1, by omega, ?_, ?_, by go_num⟩
              · rw [HST.out, HQ.out]
                exact HI.out.appended _ hown2 hgrow2
              · rw [HST.out, HQ.out]
            case measure => simp [intOf]; omega
    · obtain rfl : k = l.length := by omega
      have HI2 : Hid (GInv w wr _ (putZ s l).1) := Lib.hid (by have := HI.out; rwa [List.take_length] at this)
      have hlen := putZ_length s l
      have HLEN : Hid ((putZ s l).1.length ≤ 1001) := Lib.hid (by split at hlen <;> omega)
      have HP : Hid (putL l s = if (putZ s l).2 = true then (putZ s l).1 else (putZ s l).1 ++ [s]) := Lib.hid rfl
      rw [List.take_length]
      clear HI hlen
      generalize putZ s l = z at *
      obtain ⟨o, d⟩ := z
      simp only at *
      have hol : o.length ≤ 1001 := HLEN.out
      cases d with
      | true =>
        go_wp2
        go_ret
        exact ⟨_, rfl, by rw [HP.out]; exact strs_of_row HI2.out.row, HI2.out.bel⟩
      | false =>
        go_wp2_with (at_builtin; refine wpList_append_own _ rfl _ _ 53 rfl w.heap.size 9 is (.string .empty) 1 16 Tryz.underlying53 hi hz0 hz1 hz2 rfl (by decide) _ o.length (o.map Value.string) rfl (World.ownsRow.alloc HI2.out.row _) ⟨wr.heap.size, 0, none⟩ 1 1 [.string s] rfl rfl (new_cell _ _ _) (one_string _) (le_max (by omega)) (by omega) (Nat.le_trans HI2.out.bel.size (below_alloc _).size) ?_; intro v2 w2 hown2 hgrow2 hnil2)
        go_ret
        exact ⟨_, rfl, by rw [HP.out]; exact strs_of_row (HI2.out.appended _ hown2 hgrow2).row, (HI2.out.appended _ hown2 hgrow2).bel⟩
end Go.Proofs

namespace Go.Proofs
open Go.RowKit Go.Maps Go.MapKept
open Classical

theorem fold_take {l : List ByteArray} {k : Nat} {x : ByteArray} (h : l[k]? = some x) : (l.take (k + 1)).foldl putL [] = putL ((l.take k).foldl putL []) x := by
  rw [List.take_add_one, h]
  simp

set_option maxRecDepth 100000 in
set_option maxHeartbeats 4000000 in
theorem insert_calls (v : Value) (l : List ByteArray) (s : ByteArray) (w : World) (h : StrsVal w v l) (hl : l.length ≤ 900) :
    Calls Tryz.prog 32 #[v, .string s] w (Gives w (insertL l s)) := by
  obtain ⟨a, c, rfl⟩ := h.slice
  go_enter Tryz.func32, Tryz.ntmps32
  go_wp2
  go_loopw [5, 6] (fun v i w' => ∃ k : Nat, k ≤ l.length ∧ StrsVal w' v ((l.take k).foldl putL []) ∧ Below w.heap.size w w' ∧ i = .int .i64 k) (fun _ i _ => l.length - (intOf i).toNat)
  case atStart => exact ⟨0, by omega, .inl ⟨rfl, rfl⟩, Below.refl _ _, rfl⟩
  case round =>
    rename_i wr hrel
    obtain ⟨k, hk, hval, hbel, rfl⟩ := hrel
    have HV := Lib.hid hval
    have HB := Lib.hid hbel
    clear hval hbel
    by_cases hlt : k < l.length
    · obtain ⟨x, hx⟩ : ∃ x, l[k]? = some x := ⟨l[k], List.getElem?_eq_getElem hlt⟩
      obtain ⟨b, rfl, hb, hcell0⟩ := h.at hx
      have hcell := (HB.out.cell (p := ⟨b, k, none⟩) hb).trans hcell0
      have HT := Lib.hid (fold_take hx)
      have hlen := fold_length (l.take k) []
      have hlk : (l.take k).length ≤ 900 := by have := List.length_take_le' k l; omega
      have HLEN : Hid (((l.take k).foldl putL []).length ≤ 1000) := Lib.hid (by simp only [List.length_nil] at hlen; omega)
      clear hcell0 hx hlen hlk
      generalize (l.take k).foldl putL [] = o at *
      go_wp2_with (go_at_call 40; refine (put_calls _ o x _ HV.out HLEN.out).mono ?_; rintro e w2 ⟨v2, rfl, hv2, hb2⟩; have HV2 := Lib.hid hv2; have HB2 := Lib.hid (HB.out.trans (hb2.mono HB.out.size)); clear hv2 hb2)
      go_roundw
      case rel =>
        refine ⟨k + 1, by omega, ?_, HB2.out, by go_num⟩
        rw [HT.out]
        exact HV2.out
      case measure => simp [intOf]; omega
    · obtain rfl : k = l.length := by omega
      have HV3 : Hid (StrsVal wr _ (l.foldl putL [])) := Lib.hid (by have := HV.out; rwa [List.take_length] at this)
      have hlen := fold_length l []
      have HLEN : Hid ((l.foldl putL []).length ≤ 1000) := Lib.hid (by simp only [List.length_nil] at hlen; omega)
      clear HV hlen
      have HI : Hid (insertL l s = putL (l.foldl putL []) s) := Lib.hid rfl
      generalize l.foldl putL [] = o at *
      go_wp2_with (go_at_call 40; refine (put_calls _ o s _ HV3.out HLEN.out).mono ?_; rintro e w2 ⟨v2, rfl, hv2, hb2⟩; have HV2 := Lib.hid hv2; have HB2 := Lib.hid (HB.out.trans (hb2.mono HB.out.size)); clear hv2 hb2)
      go_ret
      exact ⟨_, rfl, by rw [HI.out]; exact HV2.out, HB2.out⟩

theorem FilesVal.at {w : World} {p : Option Addr} {n c : Nat} {l : List FileT} (h : FilesVal w (.slice p n c) l) {k : Nat} {f : FileT} (hf : l[k]? = some f) :
    ∃ b off, p = some ⟨b, off, none⟩ ∧ b < w.heap.size ∧ w.cell? ⟨b, off + k * 2, none⟩ = some (.string f.1) ∧ w.cell? ⟨b, off + k * 2 + 1, none⟩ = some (.string f.2) := by
  rcases h with ⟨_, rfl⟩ | ⟨b, off, cap, e, hlt, hc⟩
  · simp at hf
  · cases e
    exact ⟨b, off, rfl, hlt, hc k f hf⟩

set_option maxRecDepth 100000 in
set_option maxHeartbeats 4000000 in
theorem rpaths_calls (v0 v1 v2 : Value) (l0 l1 l2 : List FileT) (w : World) (h0 : FilesVal w v0 l0) (h1 : FilesVal w v1 l1) (h2 : FilesVal w v2 l2)
    (n0 : l0.length ≤ 100) (n1 : l1.length ≤ 100) (n2 : l2.length ≤ 100) :
    Calls Tryz.prog 19 #[v0, v1, v2] w (Gives w (pathsL l0 l1 l2)) := by
  obtain ⟨a0, c0, rfl⟩ := h0.slice
  obtain ⟨a1, c1, rfl⟩ := h1.slice
  obtain ⟨a2, c2, rfl⟩ := h2.slice
  go_enter Tryz.func19, Tryz.ntmps19
  go_wp2
  obtain ⟨o0, ho0⟩ : ∃ o0 : List ByteArray, o0 = [] := ⟨_, rfl⟩
  have HE0 := Lib.hid ho0
  have HO0 : Hid (o0.length ≤ 0) := Lib.hid (by rw [ho0]; simp)
  have HS : Hid (StrsVal (w.alloc (.cells #[] 9)) (.slice (some ⟨w.heap.size, 0, none⟩) 0 0) o0) := Lib.hid (by rw [ho0]; exact .inr ⟨w.heap.size, 0, rfl, by simp, fun i s h => by simp at h⟩)
  have HB0 : Hid (Below w.heap.size w (w.alloc (.cells #[] 9))) := Lib.hid (below_alloc _)
  clear ho0
  go_loopw [7, 8] (fun v i w' => ∃ k : Nat, k ≤ l0.length ∧ StrsVal w' v (insAll o0 (l0.take k)) ∧ Below w.heap.size w w' ∧ i = .int .i64 k) (fun _ i _ => l0.length - (intOf i).toNat)
  case atStart => exact ⟨0, by omega, HS.out, HB0.out, rfl⟩
  case round =>
    rename_i wr hrel
    obtain ⟨k, hk, hval, hbel, rfl⟩ := hrel
    have HV := Lib.hid hval
    have HB := Lib.hid hbel
    clear hval hbel
    by_cases hlt : k < l0.length
    · obtain ⟨x, hx⟩ : ∃ x, l0[k]? = some x := ⟨l0[k], List.getElem?_eq_getElem hlt⟩
      obtain ⟨b, off, rfl, hb, hcell0, _⟩ := h0.at hx
      have hcell := (HB.out.cell (p := ⟨b, off + k * 2, none⟩) hb).trans hcell0
      have HT := Lib.hid (insAll_take (o := o0) hx)
      have hlen := insAll_length (l0.take k) o0
      have hlk : (l0.take k).length ≤ 100 := by have := List.length_take_le' k l0; omega
      have HLEN : Hid ((insAll o0 (l0.take k)).length ≤ 900) := Lib.hid (by have := HO0.out; omega)
      clear hcell0 hx hlen hlk
      generalize insAll o0 (l0.take k) = o at *
      go_wp2_with (go_at_call 32; refine (insert_calls _ o x.1 _ HV.out HLEN.out).mono ?_; rintro e w2 ⟨v2, rfl, hv2, hb2⟩; have HV2 := Lib.hid hv2; have HB2 := Lib.hid (HB.out.trans (hb2.mono HB.out.size)); clear hv2 hb2)
      go_roundw
      case rel =>
        refine ⟨k + 1, by omega, ?_, HB2.out, by go_num⟩
        rw [HT.out]
        exact HV2.out
      case measure => simp [intOf]; omega
    · obtain rfl : k = l0.length := by omega
      have HV1 : Hid (StrsVal wr _ (insAll o0 l0)) := Lib.hid (by have := HV.out; rwa [List.take_length] at this)
      have HB1 := HB
      have hlen := insAll_length l0 o0
      have HO1 : Hid ((insAll o0 l0).length ≤ 100) := Lib.hid (by have := HO0.out; omega)
      clear HV HB hlen
      obtain ⟨o1, ho1⟩ : ∃ o1, o1 = insAll o0 l0 := ⟨_, rfl⟩
      have HE1 := Lib.hid ho1
      rw [← ho1] at HV1 HO1
      clear ho1
      go_wp2
      go_loopw [7, 9] (fun v i w' => ∃ k : Nat, k ≤ l1.length ∧ StrsVal w' v (insAll o1 (l1.take k)) ∧ Below w.heap.size w w' ∧ i = .int .i64 k) (fun _ i _ => l1.length - (intOf i).toNat)
      case atStart => exact ⟨0, by omega, HV1.out, HB1.out, rfl⟩
      case round =>
        rename_i wr hrel
        obtain ⟨k, hk, hval, hbel, rfl⟩ := hrel
        have HV := Lib.hid hval
        have HB := Lib.hid hbel
        clear hval hbel
        by_cases hlt : k < l1.length
        · obtain ⟨x, hx⟩ : ∃ x, l1[k]? = some x := ⟨l1[k], List.getElem?_eq_getElem hlt⟩
          obtain ⟨b, off, rfl, hb, hcell0, _⟩ := h1.at hx
          have hcell := (HB.out.cell (p := ⟨b, off + k * 2, none⟩) hb).trans hcell0
          have HT := Lib.hid (insAll_take (o := o1) hx)
          have hlen := insAll_length (l1.take k) o1
          have hlk : (l1.take k).length ≤ 100 := by have := List.length_take_le' k l1; omega
          have HLEN : Hid ((insAll o1 (l1.take k)).length ≤ 900) := Lib.hid (by have := HO1.out; omega)
          clear hcell0 hx hlen hlk
          generalize insAll o1 (l1.take k) = o at *
          go_wp2_with (go_at_call 32; refine (insert_calls _ o x.1 _ HV.out HLEN.out).mono ?_; rintro e w2 ⟨v2, rfl, hv2, hb2⟩; have HV2 := Lib.hid hv2; have HB2 := Lib.hid (HB.out.trans (hb2.mono HB.out.size)); clear hv2 hb2)
          go_roundw
          case rel =>
            refine ⟨k + 1, by omega, ?_, HB2.out, by go_num⟩
            rw [HT.out]
            exact HV2.out
          case measure => simp [intOf]; omega
        · obtain rfl : k = l1.length := by omega
          have HV2 : Hid (StrsVal wr _ (insAll o1 l1)) := Lib.hid (by have := HV.out; rwa [List.take_length] at this)
          have HB2 := HB
          have hlen := insAll_length l1 o1
          have HO2 : Hid ((insAll o1 l1).length ≤ 200) := Lib.hid (by have := HO1.out; omega)
          clear HV HB hlen
          obtain ⟨o2, ho2⟩ : ∃ o2, o2 = insAll o1 l1 := ⟨_, rfl⟩
          have HE2 := Lib.hid ho2
          rw [← ho2] at HV2 HO2
          clear ho2
          go_wp2
          go_loopw [7, 10] (fun v i w' => ∃ k : Nat, k ≤ l2.length ∧ StrsVal w' v (insAll o2 (l2.take k)) ∧ Below w.heap.size w w' ∧ i = .int .i64 k) (fun _ i _ => l2.length - (intOf i).toNat)
          case atStart => exact ⟨0, by omega, HV2.out, HB2.out, rfl⟩
          case round =>
            rename_i wr hrel
            obtain ⟨k, hk, hval, hbel, rfl⟩ := hrel
            have HV := Lib.hid hval
            have HB := Lib.hid hbel
            clear hval hbel
            by_cases hlt : k < l2.length
            · obtain ⟨x, hx⟩ : ∃ x, l2[k]? = some x := ⟨l2[k], List.getElem?_eq_getElem hlt⟩
              obtain ⟨b, off, rfl, hb, hcell0, _⟩ := h2.at hx
              have hcell := (HB.out.cell (p := ⟨b, off + k * 2, none⟩) hb).trans hcell0
              have HT := Lib.hid (insAll_take (o := o2) hx)
              have hlen := insAll_length (l2.take k) o2
              have hlk : (l2.take k).length ≤ 100 := by have := List.length_take_le' k l2; omega
              have HLEN : Hid ((insAll o2 (l2.take k)).length ≤ 900) := Lib.hid (by have := HO2.out; omega)
              clear hcell0 hx hlen hlk
              generalize insAll o2 (l2.take k) = o at *
              go_wp2_with (go_at_call 32; refine (insert_calls _ o x.1 _ HV.out HLEN.out).mono ?_; rintro e w2 ⟨v2, rfl, hv2, hb2⟩; have HV2 := Lib.hid hv2; have HB2 := Lib.hid (HB.out.trans (hb2.mono HB.out.size)); clear hv2 hb2)
              go_roundw
              case rel =>
                refine ⟨k + 1, by omega, ?_, HB2.out, by go_num⟩
                rw [HT.out]
                exact HV2.out
              case measure => simp [intOf]; omega
            · obtain rfl : k = l2.length := by omega
              have HV3 : Hid (StrsVal wr _ (insAll o2 l2)) := Lib.hid (by have := HV.out; rwa [List.take_length] at this)
              have HB3 := HB
              have hlen := insAll_length l2 o2
              have HO3 : Hid ((insAll o2 l2).length ≤ 300) := Lib.hid (by have := HO2.out; omega)
              clear HV HB hlen
              obtain ⟨o3, ho3⟩ : ∃ o3, o3 = insAll o2 l2 := ⟨_, rfl⟩
              have HE3 := Lib.hid ho3
              rw [← ho3] at HV3 HO3
              clear ho3
              go_wp2
              go_ret
              refine ⟨_, rfl, ?_, HB3.out⟩
              rw [← insAll_paths, ← HE0.out, ← HE1.out, ← HE2.out, ← HE3.out]
              exact HV3.out
end Go.Proofs

namespace Go.Proofs
open Go.RowKit Go.Maps Go.MapKept
open Classical

theorem row_mono {w : World} {base base' : Nat} {e : TypeId} {size : Nat} {v : Value} {n : Nat} {xs : List Value} (h : w.ownsRow base e size v n xs) (hb : base' ≤ base) : w.ownsRow base' e size v n xs := by
  obtain ⟨h1, h2⟩ := h
  refine ⟨h1, ?_⟩
  rcases h2 with h2 | ⟨g, cap, cur, e1, e2, e3⟩
  · exact .inl h2
  · exact .inr ⟨g, cap, cur, e1, Nat.le_trans hb e2, e3⟩

/-- What a function that makes a list of strings gives: a row of its own. -/
def GivesR (w : World) (l : List ByteArray) (e : Ending) (w' : World) : Prop := ∃ v, e = .returned v ∧ StrRow w' w.heap.size v l ∧ Below w.heap.size w w'

set_option maxRecDepth 100000 in
set_option maxHeartbeats 4000000 in
theorem put_row (v : Value) (l : List ByteArray) (s : ByteArray) (w : World) (h : StrsVal w v l) (hl : l.length ≤ 1000) :
    Calls Tryz.prog 40 #[v, .string s] w (GivesR w (putL l s)) := by
  obtain ⟨a, c, rfl⟩ := h.slice
  obtain ⟨is, hi, hz0, hz1, hz2⟩ := info_parts infoStr
  go_enter Tryz.func40, Tryz.ntmps40
  go_wp2
  go_loopw [5, 6, 7] (fun v d i w' => ∃ k : Nat, k ≤ l.length ∧ GInv w w' v (putZ s (l.take k)).1 ∧ d = .bool (putZ s (l.take k)).2 ∧ i = .int .i64 k) (fun _ _ i _ => l.length - (intOf i).toNat)
  case atStart => exact ⟨0, by omega, ⟨Below.refl _ _, World.ownsRow_nil _ _ _ _⟩, rfl, rfl⟩
  case round =>
    rename_i wr hrel
    obtain ⟨k, hk, hinv, rfl, rfl⟩ := hrel
    have HI := Lib.hid hinv
    clear hinv
    by_cases hlt : k < l.length
    · obtain ⟨x, hx⟩ : ∃ x, l[k]? = some x := ⟨l[k], List.getElem?_eq_getElem hlt⟩
      obtain ⟨b, rfl, hb, hcell0⟩ := h.at hx
      have hcell := (HI.out.bel.cell (p := ⟨b, k, none⟩) hb).trans hcell0
      have HC0 := Lib.hid hcell0
      clear hcell0
      have hst := putZ_take (s := s) hx
      have hlen := putZ_length s (l.take k)
      have hlk : (l.take k).length ≤ 1000 := by have := List.length_take_le' k l; omega
      have HLEN : Hid ((putZ s (l.take k)).1.length ≤ 1001) := Lib.hid (by split at hlen <;> omega)
      have HST := Lib.hid hst
      clear hst hlen hlk hx
      generalize putZ s (l.take k) = z at *
      obtain ⟨o, d⟩ := z
      simp only at *
      have hol : o.length ≤ 1001 := HLEN.out
      by_cases hxs : x = s
      · have HQ : Hid (putStep s (o, d) x = (o ++ [x], true)) := Lib.hid (by unfold putStep; rw [if_pos (.inr hxs)])
        subst hxs
        cases d
        all_goals
          go_wp2_with (at_builtin; refine wpList_append_own _ rfl _ _ 53 rfl w.heap.size 9 is (.string .empty) 1 16 Tryz.underlying53 hi hz0 hz1 hz2 rfl (by decide) _ o.length (o.map Value.string) rfl (World.ownsRow.alloc HI.out.row _) ⟨wr.heap.size, 0, none⟩ 1 1 [.string x] rfl rfl (new_cell _ _ _) (one_string _) (le_max (by omega)) (by omega) (Nat.le_trans HI.out.bel.size (below_alloc _).size) ?_; intro v' w2 hown2 hgrow2 hnil2)
          go_roundw
          case rel =>
            refine ⟨k + 1, by omega, ?_, ?_, by go_num⟩
            · rw [HST.out, HQ.out]
              exact HI.out.appended _ hown2 hgrow2
            · rw [HST.out, HQ.out]
          case measure => simp [intOf]; omega
      · have hq : (x.toList == s.toList) = false := by rw [toList_beq]; simpa using hxs
        cases d with
        | true =>
          have HQ : Hid (putStep s (o, true) x = (o ++ [x], true)) := Lib.hid (by unfold putStep; rw [if_pos (.inl rfl)])
          go_wp2_with (at_builtin; refine wpList_append_own _ rfl _ _ 53 rfl w.heap.size 9 is (.string .empty) 1 16 Tryz.underlying53 hi hz0 hz1 hz2 rfl (by decide) _ o.length (o.map Value.string) rfl (World.ownsRow.alloc HI.out.row _) ⟨wr.heap.size, 0, none⟩ 1 1 [.string x] rfl rfl (new_cell _ _ _) (one_string _) (le_max (by omega)) (by omega) (Nat.le_trans HI.out.bel.size (below_alloc _).size) ?_; intro v' w2 hown2 hgrow2 hnil2)
          go_roundw
          case rel =>
            refine ⟨k + 1, by omega, ?_, ?_, by go_num⟩
            · rw [HST.out, HQ.out]
              exact HI.out.appended _ hown2 hgrow2
            · rw [HST.out, HQ.out]
          case measure => simp [intOf]; omega
        | false =>
          have HL := Lib.hid (leS_eq s x)
          unfold leS at HL
          by_cases hls : Op.bytesLess s.toList x.toList = true
          · have hlx : Op.bytesLess x.toList s.toList = false := by have h := HL.out; rw [hls, hq] at h; simpa using h
            have HQ : Hid (putStep s (o, false) x = (o ++ [s, x], true)) := Lib.hid (by unfold putStep; rw [if_neg (by simp [hxs]), if_pos hls])
            go_wp2_with (first
              | (at_builtin; refine wpList_append_own _ rfl _ _ 53 rfl w.heap.size 9 is (.string .empty) 1 16 Tryz.underlying53 hi hz0 hz1 hz2 rfl (by decide) _ o.length (o.map Value.string) rfl (World.ownsRow.alloc HI.out.row _) ⟨wr.heap.size, 0, none⟩ 1 1 [.string s] rfl rfl (new_cell _ _ _) (one_string _) (le_max (by omega)) (by omega) (Nat.le_trans HI.out.bel.size (below_alloc _).size) ?_; intro v2 w2 hown2 hgrow2 hnil2; have HG0 := Lib.hid (HI.out.appended _ hown2 hgrow2); obtain ⟨o2, ho2⟩ : ∃ o2, o2 = o ++ [s] := ⟨_, rfl⟩; have hol2 : o2.length ≤ 1002 := (by rw [ho2, List.length_append]; simp only [List.length_cons, List.length_nil]; omega); have HO2 := Lib.hid ho2; have HG : Hid (GInv w w2 v2 o2) := Lib.hid (by rw [ho2]; exact HG0.out); have hcell2 := (HG.out.bel.cell (p := ⟨b, k, none⟩) hb).trans HC0.out; clear ho2 HG0 hown2 hgrow2 hnil2)
              | (at_builtin; refine wpList_append_own _ rfl _ _ 53 rfl w.heap.size 9 is (.string .empty) 1 16 Tryz.underlying53 hi hz0 hz1 hz2 rfl (by decide) _ o2.length (o2.map Value.string) rfl (World.ownsRow.alloc HG.out.row _) ⟨w2.heap.size, 0, none⟩ 1 1 [.string x] rfl rfl (new_cell _ _ _) (one_string _) (le_max (by omega)) (by omega) (Nat.le_trans HG.out.bel.size (below_alloc _).size) ?_; intro v3 w3 hown3 hgrow3 hnil3))
            go_roundw
            case rel =>
              refine ⟨k + 1, by omega, ?_, ?_, by go_num⟩
              · rw [HST.out, HQ.out]
                have := HG.out.appended _ hown3 hgrow3
                rw [HO2.out, List.append_assoc] at this
                exact this
              · rw [HST.out, HQ.out]
            case measure => simp [intOf]; omega
          · have hls : Op.bytesLess s.toList x.toList = false := by simpa using hls
            have hlx : Op.bytesLess x.toList s.toList = true := by have h := HL.out; rw [hls, hq] at h; simpa using h
            have HQ : Hid (putStep s (o, false) x = (o ++ [x], false)) := Lib.hid (by unfold putStep; rw [if_neg (by simp [hxs]), if_neg (by simp [hls])])
            go_wp2_with (at_builtin; refine wpList_append_own _ rfl _ _ 53 rfl w.heap.size 9 is (.string .empty) 1 16 Tryz.underlying53 hi hz0 hz1 hz2 rfl (by decide) _ o.length (o.map Value.string) rfl (World.ownsRow.alloc HI.out.row _) ⟨wr.heap.size, 0, none⟩ 1 1 [.string x] rfl rfl (new_cell _ _ _) (one_string _) (le_max (by omega)) (by omega) (Nat.le_trans HI.out.bel.size (below_alloc _).size) ?_; intro v' w2 hown2 hgrow2 hnil2)
            go_roundw
            case rel =>
              refine ⟨k + 1, by omega, ?_, ?_, by go_num⟩
              · rw [HST.out, HQ.out]
                exact HI.out.appended _ hown2 hgrow2
              · rw [HST.out, HQ.out]
            case measure => simp [intOf]; omega
    · obtain rfl : k = l.length := by omega
      have HI2 : Hid (GInv w wr _ (putZ s l).1) := Lib.hid (by have := HI.out; rwa [List.take_length] at this)
      have hlen := putZ_length s l
      have HLEN : Hid ((putZ s l).1.length ≤ 1001) := Lib.hid (by split at hlen <;> omega)
      have HP : Hid (putL l s = if (putZ s l).2 = true then (putZ s l).1 else (putZ s l).1 ++ [s]) := Lib.hid rfl
      rw [List.take_length]
      clear HI hlen
      generalize putZ s l = z at *
      obtain ⟨o, d⟩ := z
      simp only at *
      have hol : o.length ≤ 1001 := HLEN.out
      cases d with
      | true =>
        go_wp2
        go_ret
        exact ⟨_, rfl, by rw [HP.out]; exact HI2.out.row, HI2.out.bel⟩
      | false =>
        go_wp2_with (at_builtin; refine wpList_append_own _ rfl _ _ 53 rfl w.heap.size 9 is (.string .empty) 1 16 Tryz.underlying53 hi hz0 hz1 hz2 rfl (by decide) _ o.length (o.map Value.string) rfl (World.ownsRow.alloc HI2.out.row _) ⟨wr.heap.size, 0, none⟩ 1 1 [.string s] rfl rfl (new_cell _ _ _) (one_string _) (le_max (by omega)) (by omega) (Nat.le_trans HI2.out.bel.size (below_alloc _).size) ?_; intro v2 w2 hown2 hgrow2 hnil2)
        go_ret
        exact ⟨_, rfl, by rw [HP.out]; exact (HI2.out.appended _ hown2 hgrow2).row, (HI2.out.appended _ hown2 hgrow2).bel⟩
set_option maxRecDepth 100000 in
set_option maxHeartbeats 4000000 in
theorem insert_row (v : Value) (l : List ByteArray) (s : ByteArray) (w : World) (h : StrsVal w v l) (hl : l.length ≤ 900) :
    Calls Tryz.prog 32 #[v, .string s] w (GivesR w (insertL l s)) := by
  obtain ⟨a, c, rfl⟩ := h.slice
  go_enter Tryz.func32, Tryz.ntmps32
  go_wp2
  go_loopw [5, 6] (fun v i w' => ∃ k : Nat, k ≤ l.length ∧ StrsVal w' v ((l.take k).foldl putL []) ∧ Below w.heap.size w w' ∧ i = .int .i64 k) (fun _ i _ => l.length - (intOf i).toNat)
  case atStart => exact ⟨0, by omega, .inl ⟨rfl, rfl⟩, Below.refl _ _, rfl⟩
  case round =>
    rename_i wr hrel
    obtain ⟨k, hk, hval, hbel, rfl⟩ := hrel
    have HV := Lib.hid hval
    have HB := Lib.hid hbel
    clear hval hbel
    by_cases hlt : k < l.length
    · obtain ⟨x, hx⟩ : ∃ x, l[k]? = some x := ⟨l[k], List.getElem?_eq_getElem hlt⟩
      obtain ⟨b, rfl, hb, hcell0⟩ := h.at hx
      have hcell := (HB.out.cell (p := ⟨b, k, none⟩) hb).trans hcell0
      have HT := Lib.hid (fold_take hx)
      have hlen := fold_length (l.take k) []
      have hlk : (l.take k).length ≤ 900 := by have := List.length_take_le' k l; omega
      have HLEN : Hid (((l.take k).foldl putL []).length ≤ 1000) := Lib.hid (by simp only [List.length_nil] at hlen; omega)
      clear hcell0 hx hlen hlk
      generalize (l.take k).foldl putL [] = o at *
      go_wp2_with (go_at_call 40; refine (put_calls _ o x _ HV.out HLEN.out).mono ?_; rintro e w2 ⟨v2, rfl, hv2, hb2⟩; have HV2 := Lib.hid hv2; have HB2 := Lib.hid (HB.out.trans (hb2.mono HB.out.size)); clear hv2 hb2)
      go_roundw
      case rel =>
        refine ⟨k + 1, by omega, ?_, HB2.out, by go_num⟩
        rw [HT.out]
        exact HV2.out
      case measure => simp [intOf]; omega
    · obtain rfl : k = l.length := by omega
      have HV3 : Hid (StrsVal wr _ (l.foldl putL [])) := Lib.hid (by have := HV.out; rwa [List.take_length] at this)
      have hlen := fold_length l []
      have HLEN : Hid ((l.foldl putL []).length ≤ 1000) := Lib.hid (by simp only [List.length_nil] at hlen; omega)
      clear HV hlen
      have HI : Hid (insertL l s = putL (l.foldl putL []) s) := Lib.hid rfl
      generalize l.foldl putL [] = o at *
      go_wp2_with (go_at_call 40; refine (put_row _ o s _ HV3.out HLEN.out).mono ?_; rintro e w2 ⟨v2, rfl, hv2, hb2⟩; have HV2 := Lib.hid hv2; have HB2 := Lib.hid (HB.out.trans (hb2.mono HB.out.size)); clear hv2 hb2)
      go_ret
      exact ⟨_, rfl, by rw [HI.out]; exact row_mono HV2.out HB.out.size, HB2.out⟩

set_option maxRecDepth 100000 in
set_option maxHeartbeats 4000000 in
theorem rpaths_row (v0 v1 v2 : Value) (l0 l1 l2 : List FileT) (w : World) (h0 : FilesVal w v0 l0) (h1 : FilesVal w v1 l1) (h2 : FilesVal w v2 l2)
    (n0 : l0.length ≤ 100) (n1 : l1.length ≤ 100) (n2 : l2.length ≤ 100) :
    Calls Tryz.prog 19 #[v0, v1, v2] w (GivesR w (pathsL l0 l1 l2)) := by
  obtain ⟨a0, c0, rfl⟩ := h0.slice
  obtain ⟨a1, c1, rfl⟩ := h1.slice
  obtain ⟨a2, c2, rfl⟩ := h2.slice
  go_enter Tryz.func19, Tryz.ntmps19
  go_wp2
  obtain ⟨o0, ho0⟩ : ∃ o0 : List ByteArray, o0 = [] := ⟨_, rfl⟩
  have HE0 := Lib.hid ho0
  have HO0 : Hid (o0.length ≤ 0) := Lib.hid (by rw [ho0]; simp)
  have HS : Hid (StrRow (w.alloc (.cells #[] 9)) w.heap.size (.slice (some ⟨w.heap.size, 0, none⟩) 0 0) o0) := Lib.hid (by rw [ho0]; exact World.ownsRow_lit _ _ 0 (Nat.le_refl _) (by simp [maxLen]) rfl)
  have HB0 : Hid (Below w.heap.size w (w.alloc (.cells #[] 9))) := Lib.hid (below_alloc _)
  clear ho0
  go_loopw [7, 8] (fun v i w' => ∃ k : Nat, k ≤ l0.length ∧ StrRow w' w.heap.size v (insAll o0 (l0.take k)) ∧ Below w.heap.size w w' ∧ i = .int .i64 k) (fun _ i _ => l0.length - (intOf i).toNat)
  case atStart => exact ⟨0, by omega, HS.out, HB0.out, rfl⟩
  case round =>
    rename_i wr hrel
    obtain ⟨k, hk, hval, hbel, rfl⟩ := hrel
    have HV := Lib.hid hval
    have HB := Lib.hid hbel
    clear hval hbel
    by_cases hlt : k < l0.length
    · obtain ⟨x, hx⟩ : ∃ x, l0[k]? = some x := ⟨l0[k], List.getElem?_eq_getElem hlt⟩
      obtain ⟨b, off, rfl, hb, hcell0, _⟩ := h0.at hx
      have hcell := (HB.out.cell (p := ⟨b, off + k * 2, none⟩) hb).trans hcell0
      have HT := Lib.hid (insAll_take (o := o0) hx)
      have hlen := insAll_length (l0.take k) o0
      have hlk : (l0.take k).length ≤ 100 := by have := List.length_take_le' k l0; omega
      have HLEN : Hid ((insAll o0 (l0.take k)).length ≤ 900) := Lib.hid (by have := HO0.out; omega)
      clear hcell0 hx hlen hlk
      generalize insAll o0 (l0.take k) = o at *
      go_wp2_with (go_at_call 32; refine (insert_row _ o x.1 _ (strs_of_row HV.out) HLEN.out).mono ?_; rintro e w2 ⟨v2, rfl, hv2, hb2⟩; have HV2 := Lib.hid (row_mono hv2 HB.out.size); have HB2 := Lib.hid (HB.out.trans (hb2.mono HB.out.size)); clear hv2 hb2)
      go_roundw
      case rel =>
        refine ⟨k + 1, by omega, ?_, HB2.out, by go_num⟩
        rw [HT.out]
        exact HV2.out
      case measure => simp [intOf]; omega
    · obtain rfl : k = l0.length := by omega
      have HV1 : Hid (StrRow wr w.heap.size _ (insAll o0 l0)) := Lib.hid (by have := HV.out; rwa [List.take_length] at this)
      have HB1 := HB
      have hlen := insAll_length l0 o0
      have HO1 : Hid ((insAll o0 l0).length ≤ 100) := Lib.hid (by have := HO0.out; omega)
      clear HV HB hlen
      obtain ⟨o1, ho1⟩ : ∃ o1, o1 = insAll o0 l0 := ⟨_, rfl⟩
      have HE1 := Lib.hid ho1
      rw [← ho1] at HV1 HO1
      clear ho1
      go_wp2
      go_loopw [7, 9] (fun v i w' => ∃ k : Nat, k ≤ l1.length ∧ StrRow w' w.heap.size v (insAll o1 (l1.take k)) ∧ Below w.heap.size w w' ∧ i = .int .i64 k) (fun _ i _ => l1.length - (intOf i).toNat)
      case atStart => exact ⟨0, by omega, HV1.out, HB1.out, rfl⟩
      case round =>
        rename_i wr hrel
        obtain ⟨k, hk, hval, hbel, rfl⟩ := hrel
        have HV := Lib.hid hval
        have HB := Lib.hid hbel
        clear hval hbel
        by_cases hlt : k < l1.length
        · obtain ⟨x, hx⟩ : ∃ x, l1[k]? = some x := ⟨l1[k], List.getElem?_eq_getElem hlt⟩
          obtain ⟨b, off, rfl, hb, hcell0, _⟩ := h1.at hx
          have hcell := (HB.out.cell (p := ⟨b, off + k * 2, none⟩) hb).trans hcell0
          have HT := Lib.hid (insAll_take (o := o1) hx)
          have hlen := insAll_length (l1.take k) o1
          have hlk : (l1.take k).length ≤ 100 := by have := List.length_take_le' k l1; omega
          have HLEN : Hid ((insAll o1 (l1.take k)).length ≤ 900) := Lib.hid (by have := HO1.out; omega)
          clear hcell0 hx hlen hlk
          generalize insAll o1 (l1.take k) = o at *
          go_wp2_with (go_at_call 32; refine (insert_row _ o x.1 _ (strs_of_row HV.out) HLEN.out).mono ?_; rintro e w2 ⟨v2, rfl, hv2, hb2⟩; have HV2 := Lib.hid (row_mono hv2 HB.out.size); have HB2 := Lib.hid (HB.out.trans (hb2.mono HB.out.size)); clear hv2 hb2)
          go_roundw
          case rel =>
            refine ⟨k + 1, by omega, ?_, HB2.out, by go_num⟩
            rw [HT.out]
            exact HV2.out
          case measure => simp [intOf]; omega
        · obtain rfl : k = l1.length := by omega
          have HV2 : Hid (StrRow wr w.heap.size _ (insAll o1 l1)) := Lib.hid (by have := HV.out; rwa [List.take_length] at this)
          have HB2 := HB
          have hlen := insAll_length l1 o1
          have HO2 : Hid ((insAll o1 l1).length ≤ 200) := Lib.hid (by have := HO1.out; omega)
          clear HV HB hlen
          obtain ⟨o2, ho2⟩ : ∃ o2, o2 = insAll o1 l1 := ⟨_, rfl⟩
          have HE2 := Lib.hid ho2
          rw [← ho2] at HV2 HO2
          clear ho2
          go_wp2
          go_loopw [7, 10] (fun v i w' => ∃ k : Nat, k ≤ l2.length ∧ StrRow w' w.heap.size v (insAll o2 (l2.take k)) ∧ Below w.heap.size w w' ∧ i = .int .i64 k) (fun _ i _ => l2.length - (intOf i).toNat)
          case atStart => exact ⟨0, by omega, HV2.out, HB2.out, rfl⟩
          case round =>
            rename_i wr hrel
            obtain ⟨k, hk, hval, hbel, rfl⟩ := hrel
            have HV := Lib.hid hval
            have HB := Lib.hid hbel
            clear hval hbel
            by_cases hlt : k < l2.length
            · obtain ⟨x, hx⟩ : ∃ x, l2[k]? = some x := ⟨l2[k], List.getElem?_eq_getElem hlt⟩
              obtain ⟨b, off, rfl, hb, hcell0, _⟩ := h2.at hx
              have hcell := (HB.out.cell (p := ⟨b, off + k * 2, none⟩) hb).trans hcell0
              have HT := Lib.hid (insAll_take (o := o2) hx)
              have hlen := insAll_length (l2.take k) o2
              have hlk : (l2.take k).length ≤ 100 := by have := List.length_take_le' k l2; omega
              have HLEN : Hid ((insAll o2 (l2.take k)).length ≤ 900) := Lib.hid (by have := HO2.out; omega)
              clear hcell0 hx hlen hlk
              generalize insAll o2 (l2.take k) = o at *
              go_wp2_with (go_at_call 32; refine (insert_row _ o x.1 _ (strs_of_row HV.out) HLEN.out).mono ?_; rintro e w2 ⟨v2, rfl, hv2, hb2⟩; have HV2 := Lib.hid (row_mono hv2 HB.out.size); have HB2 := Lib.hid (HB.out.trans (hb2.mono HB.out.size)); clear hv2 hb2)
              go_roundw
              case rel =>
                refine ⟨k + 1, by omega, ?_, HB2.out, by go_num⟩
                rw [HT.out]
                exact HV2.out
              case measure => simp [intOf]; omega
            · obtain rfl : k = l2.length := by omega
              have HV3 : Hid (StrRow wr w.heap.size _ (insAll o2 l2)) := Lib.hid (by have := HV.out; rwa [List.take_length] at this)
              have HB3 := HB
              have hlen := insAll_length l2 o2
              have HO3 : Hid ((insAll o2 l2).length ≤ 300) := Lib.hid (by have := HO2.out; omega)
              clear HV HB hlen
              obtain ⟨o3, ho3⟩ : ∃ o3, o3 = insAll o2 l2 := ⟨_, rfl⟩
              have HE3 := Lib.hid ho3
              rw [← ho3] at HV3 HO3
              clear ho3
              go_wp2
              go_ret
              refine ⟨_, rfl, ?_, HB3.out⟩
              rw [← insAll_paths, ← HE0.out, ← HE1.out, ← HE2.out, ← HE3.out]
              exact HV3.out
end Go.Proofs
