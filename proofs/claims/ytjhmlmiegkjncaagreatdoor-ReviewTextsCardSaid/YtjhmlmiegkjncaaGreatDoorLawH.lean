/-
  ReviewTexts: the law's function answers true wherever its example run does. An argument that is a list of views: what it holds. What a row asks behind the call, of a function that leaves whatever lay as it lay. ReviewTexts answers true, whatever the list of views.
-/
import Derived.Test.YtjhmlmiegkjncaaGreatDoorVG
import Derived.Test.YtjhmlmiegkjncaaGreatDoorRE
import Derived.Deep.Slices
import Derived.Deep.Fields
import Derived.ChangeSame
import Derived.Below
import Derived.Test.YtjhmlmiegkjncaaGreatDoorRows
import Derived.Test.YtjhmlmiegkjncaaGreatDoorEvV
set_option linter.all false

namespace Go.Proofs
open Go.RowKit
open Classical

/-- What the region with both texts reads. -/
structure VH (w0 wr : World) (b o : Nat) (v : ViewT) : Prop where
  at_ : ViewAt wr b o v
  lt : b < wr.heap.size
  bel : Below w0.heap.size w0 wr
theorem VH.below {w0 wr w' : World} {b o : Nat} {v : ViewT} (h : VH w0 wr b o v) (hb : Below wr.heap.size wr w') : VH w0 w' b o v :=
  ⟨h.at_.below hb h.lt, Nat.lt_of_lt_of_le h.lt hb.size, h.bel.trans (hb.mono h.bel.size)⟩
def VHS (w0 wr : World) (b o : Nat) (v : ViewT) : Prop :=
  wr.cell? ⟨b, o, none⟩ = some (.string v.path) ∧ wr.cell? ⟨b, o + 1, none⟩ = some (.int .i64 v.k) ∧ wr.cell? ⟨b, o + 2, none⟩ = some (.string v.own) ∧ wr.cell? ⟨b, o + 3, none⟩ = some (.string v.nm) ∧
  wr.cell? ⟨b, o + 4, none⟩ = some (.string v.to) ∧ wr.cell? ⟨b, o + 5, none⟩ = some (.int .i64 v.old) ∧ wr.cell? ⟨b, o + 6, none⟩ = some (.int .i64 v.new) ∧ wr.cell? ⟨b, o + 7, none⟩ = some v.lv ∧ VH w0 wr b o v
theorem VHS.of {w0 wr : World} {b o : Nat} {v : ViewT} (h : VH w0 wr b o v) : VHS w0 wr b o v := by
  obtain ⟨h0, h1, h2, h3, h4, h5, h6, h7, h8⟩ := h.at_
  exact ⟨h0, h1, h2, h3, h4, h5, h6, h7, h⟩
theorem VHS.held {w0 wr : World} {b o : Nat} {v : ViewT} (h : VHS w0 wr b o v) : VH w0 wr b o v := h.2.2.2.2.2.2.2.2
theorem vtext_held {w0 wr : World} {b o : Nat} {v : ViewT} (hs : v.Short) (h : VHS w0 wr b o v) :
    Calls Tryz.prog 7 #[viewV v.path v.k v.own v.nm v.to v.old v.new v.lv] wr fun e w' => e = .returned (.string v.text) ∧ VHS w0 w' b o v :=
  (texts_agree v hs wr h.held.at_.2.2.2.2.2.2.2.2).1.mono fun _ _ ⟨e, hb⟩ => ⟨e, VHS.of (h.held.below hb)⟩
theorem rvtext_held {w0 wr : World} {b o : Nat} {v : ViewT} (hs : v.Short) (h : VHS w0 wr b o v) :
    Calls Tryz.prog 8 #[viewV v.path v.k v.own v.nm v.to v.old v.new v.lv] wr fun e w' => e = .returned (.string v.text) ∧ VHS w0 w' b o v :=
  (texts_agree v hs wr h.held.at_.2.2.2.2.2.2.2.2).2.mono fun _ _ ⟨e, hb⟩ => ⟨e, VHS.of (h.held.below hb)⟩

set_option maxRecDepth 100000 in
set_option maxHeartbeats 4000000 in
theorem rtexts_law (x : Value) (l : List ViewT) (w : World) (hv : ViewsVal w x l) (hl : l.length ≤ 9223372036854775807) (hs : ∀ v ∈ l, v.path.size ≤ 9223372036854775807 ∧ v.own.size ≤ 9223372036854775807 ∧ v.nm.size ≤ 9223372036854775807 ∧ v.to.size ≤ 9223372036854775807 ∧ v.lines.length ≤ 9223372036854775807 ∧ ∀ s ∈ v.lines, s.size ≤ 9223372036854775807)
    (HA : ∀ w', Below w.heap.size w w' → Calls Tryz.prog 4 #[] w' fun e w'' => e = .returned (.bool true) ∧ Below w'.heap.size w' w'') :
    Calls Tryz.prog 3 #[x] w fun e w' => e = .returned (.bool true) ∧ Below w.heap.size w w' := by
  obtain ⟨p, c, rfl⟩ := hv.slice
  have HAW := Lib.hid HA
  clear HA
  go_enter Tryz.func3, Tryz.ntmps3
  by_cases h30 : 30 < l.length
  · go_wp2_with fail
    refine (HAW.out _ (Below.refl _ _)).mono ?_
    rintro e w1 ⟨rfl, hb⟩
    have HB := Lib.hid hb
    clear hb
    go_wp2
    go_ret
    exact ⟨rfl, HB.out⟩
  · go_wp2
    go_loopw [3] (fun i w' => ∃ j : Nat, j ≤ l.length ∧ (∀ k (v : ViewT), k < j → l[k]? = some v → v.Short) ∧ Below w.heap.size w w' ∧ i = .int .i64 j) (fun i _ => l.length - (intOf i).toNat)
    case atStart => exact ⟨0, by omega, fun k v h => by omega, Below.refl _ _, rfl⟩
    case round =>
      rename_i wr hrel
      obtain ⟨j, hj, hsh, hbel, rfl⟩ := hrel
      have HSH := Lib.hid hsh
      have HB := Lib.hid hbel
      have hvr := hv.below hbel
      clear hsh hbel
      by_cases hjl : j < l.length
      · obtain ⟨v, hvj⟩ : ∃ v, l[j]? = some v := ⟨l[j], List.getElem?_eq_getElem hjl⟩
        obtain ⟨b, off, rfl, hb, c0, c1, c2, c3, c4, c5, c6, c7, c8⟩ := hvr.at hvj
        obtain ⟨lp, lc, hlv⟩ := c8.slice
        rw [hlv] at c7 c8
        have HVJ := Lib.hid hvj
        obtain ⟨s0, s1, s2, s3, s4, s5⟩ := hs v (List.mem_of_getElem? hvj)
        have HBA := Lib.hid (HB.out.trans ((below_alloc' (w := wr) (.cells #[.string v.path, .int .i64 v.k, .string v.own, .string v.nm, .string v.to, .int .i64 v.old, .int .i64 v.new, .slice lp v.lines.length lc] 28)).mono HB.out.size))
        clear hvj
        by_cases hz : v.path.size ≤ 100 ∧ v.own.size ≤ 100 ∧ v.nm.size ≤ 100 ∧ v.to.size ≤ 100 ∧ v.lines.length ≤ 20
        · obtain ⟨z0, z1, z2, z3, z4⟩ := hz
          have c9 := c8.below (below_alloc' (w := wr) (.cells #[.string v.path, .int .i64 v.k, .string v.own, .string v.nm, .string v.to, .int .i64 v.old, .int .i64 v.new, .slice lp v.lines.length lc] 28))
          go_wp2
          go_loop [5] (fun i => ∃ q : Nat, q ≤ v.lines.length ∧ (∀ r y, r < q → v.lines[r]? = some y → y.size ≤ 100) ∧ i = .int .i64 q) (fun i => v.lines.length - (intOf i).toNat)
          case atStart => exact ⟨0, by omega, fun r y h => by omega, rfl⟩
          case round =>
            obtain ⟨q, hq, hqs, rfl⟩ := hrel
            have HQ := Lib.hid hqs
            clear hqs
            by_cases hql : q < v.lines.length
            · obtain ⟨y, hy⟩ : ∃ y, v.lines[q]? = some y := ⟨v.lines[q], List.getElem?_eq_getElem hql⟩
              obtain ⟨lb, lo, rfl, hyc⟩ := c9.at hy
              have HY := Lib.hid hy
              clear hy
              by_cases hy1 : 100 < y.size
              · go_wp2_with fail
                refine (HAW.out _ HBA.out).mono ?_
                rintro e w1 ⟨rfl, hb1⟩
                have HB1 := Lib.hid (HBA.out.trans (hb1.mono HBA.out.size))
                clear hb1
                go_wp2
                go_ret
                exact ⟨rfl, HB1.out⟩
              · go_wp2
                go_round
                case rel =>
                  refine ⟨q + 1, by omega, fun r y' hr hy' => ?_, by go_num⟩
                  by_cases e : r = q
                  · subst e
                    rw [HY.out] at hy'
                    cases hy'
                    omega
                  · exact HQ.out r y' (by omega) hy'
                case measure => simp [intOf]; omega
            · go_wp2
              go_roundw
              case rel =>
                refine ⟨j + 1, by omega, fun k v' hk hv' => ?_, HBA.out, by go_num⟩
                by_cases e : k = j
                · subst e
                  rw [HVJ.out] at hv'
                  cases hv'
                  refine ⟨z0, z1, z2, z3, z4, fun y hy => ?_⟩
                  obtain ⟨r, hr⟩ := List.mem_iff_getElem?.1 hy
                  exact HQ.out r y (by have := (List.getElem?_eq_some_iff.1 hr).1; omega) hr
                · exact HSH.out k v' (by omega) hv'
              case measure => simp [intOf]; omega
        · go_wp2_with (go_at_call 4; refine (HAW.out _ HBA.out).mono ?_; rintro e w1 ⟨rfl, hb1⟩; have HB1 := Lib.hid (HBA.out.trans (hb1.mono HBA.out.size)); clear hb1)
          all_goals first
            | (exfalso; apply hz; refine ⟨?_, ?_, ?_, ?_, ?_⟩ <;> omega)
            | (go_ret; exact ⟨rfl, HB1.out⟩)
      · obtain rfl : j = l.length := by omega
        have HALL : Hid (∀ v ∈ l, v.Short) := Lib.hid (fun v hv => by
          obtain ⟨r, hr⟩ := List.mem_iff_getElem?.1 hv
          exact HSH.out r v (List.getElem?_eq_some_iff.1 hr).1 hr)
        clear HSH
        go_wp2_with fail
        refine (vtotals_calls _ l _ hvr (by omega)).mono ?_
        rintro e w1 ⟨t1, rfl, hr1, hb1⟩
        have HB1 := Lib.hid (HB.out.trans (hb1.mono HB.out.size))
        have HR1 := Lib.hid hr1
        have hv1 := hvr.below hb1
        clear hr1 hb1
        go_wp2_with fail
        refine (rtotals_calls _ l _ hv1 (by omega)).mono ?_
        rintro e w2 ⟨t2, rfl, hr2, hb2⟩
        have HB2 := Lib.hid (HB1.out.trans (hb2.mono HB1.out.size))
        have HR2 := Lib.hid hr2
        obtain ⟨g1, cap1, rfl, hg1, hx1⟩ := eleven HR1.out
        obtain ⟨g2, cap2, rfl, hg2, hx2⟩ := eleven HR2.out
        have HX1 : Hid (∀ j, j < 11 → w2.cell? ⟨g1, j, none⟩ = (totL l 11)[j]?) := Lib.hid (fun j hj => (hb2.cell (p := ⟨g1, j, none⟩) hg1).trans (hx1 j hj))
        have HX2 := Lib.hid hx2
        have hv2 := hv1.below hb2
        have hg1' : g1 < w2.heap.size := Nat.lt_of_lt_of_le hg1 hb2.size
        clear hr2 hb2 hx1 hx2
        go_wp2
        go_loopw [8] (fun i w' => ∃ j : Nat, j ≤ 11 ∧ Below w2.heap.size w2 w' ∧ i = .int .i64 j) (fun i _ => 11 - (intOf i).toNat)
        case atStart => exact ⟨0, by omega, Below.refl _ _, rfl⟩
        case round =>
          have hrel2 : ∃ w3 : World, ∃ j : Nat, j ≤ 11 ∧ Below w2.heap.size w2 w3 ∧ w3 = wr ∧ u8 = .int .i64 j := by
            obtain ⟨j, h1, h2, h3⟩ := hrel
            exact ⟨wr, j, h1, h2, rfl, h3⟩
          clear hrel
          obtain ⟨w3, j, hj11, hbel, rfl, rfl⟩ := hrel2
          have HB3 := Lib.hid hbel
          clear hbel
          by_cases hlt : j < 11
          · have ht : (totL l 11)[j]? = some (.int .i64 (cnt l (j : Int) : Nat)) := by simp [totL, hlt]
            have d1 : w3.cell? ⟨g1, j, none⟩ = some (.int .i64 (cnt l (j : Int) : Nat)) := (HB3.out.cell (p := ⟨g1, j, none⟩) hg1').trans ((HX1.out j hlt).trans ht)
            have d2 : w3.cell? ⟨g2, j, none⟩ = some (.int .i64 (cnt l (j : Int) : Nat)) := (HB3.out.cell (p := ⟨g2, j, none⟩) hg2).trans ((HX2.out j hlt).trans ht)
            clear ht
            generalize cnt l (j : Int) = cj at *
            go_wp2
            go_quiet (fail)
            go_wp2
            go_roundw
            case rel => exact ⟨j + 1, by omega, below_drewN' HB3.out, by go_num⟩
            case measure => simp [intOf]; omega
          · go_wp2
            have HB30 := Lib.hid HB3.out
            clear HB3 HX1 HX2 HR1 HR2 HB1
            obtain ⟨wo, hwo⟩ : ∃ wo : World, wo = w3 := ⟨_, rfl⟩
            have HB31 : Hid (Below w2.heap.size w2 wo) := Lib.hid (by rw [hwo]; exact HB30.out)
            clear HB30
            rw [← hwo]
            clear hwo
            go_loopw [9] (fun i w' => ∃ j : Nat, j ≤ l.length ∧ Below w2.heap.size w2 w' ∧ i = .int .i64 j) (fun i _ => l.length - (intOf i).toNat)
            case atStart => exact ⟨0, by omega, HB31.out, rfl⟩
            case round =>
              have hrel2 : ∃ w4 : World, ∃ m : Nat, m ≤ l.length ∧ Below w2.heap.size w2 w4 ∧ w4 = wr ∧ u9 = .int .i64 m := by
                obtain ⟨m, h1, h2, h3⟩ := hrel
                exact ⟨wr, m, h1, h2, rfl, h3⟩
              clear hrel
              obtain ⟨wr2, m, hm, hbel, rfl, rfl⟩ := hrel2
              have hvr := hv2.below hbel
              have HB4 := Lib.hid hbel
              clear hbel HB31
              by_cases hml : m < l.length
              · obtain ⟨v, hvj⟩ : ∃ v, l[m]? = some v := ⟨l[m], List.getElem?_eq_getElem hml⟩
                have hsv := HALL.out v (List.mem_of_getElem? hvj)
                obtain ⟨b, off, rfl, hb, hva⟩ := hvr.at hvj
                obtain ⟨lp, lc, hlv⟩ := hva.2.2.2.2.2.2.2.2.slice
                obtain ⟨path, k, own, nm, to, old, new, lv, lines⟩ := v
                simp only at hlv
                subst hlv
                have hVH : VHS w2 wr2.drew b (off + m * 8) ⟨path, k, own, nm, to, old, new, .slice lp lines.length lc, lines⟩ := VHS.of (VH.below ⟨hva, hb, HB4.out⟩ (Below.refl _ _).drew)
                have HT1 : Hid (∀ w', VHS w2 w' b (off + m * 8) ⟨path, k, own, nm, to, old, new, .slice lp lines.length lc, lines⟩ → Calls Tryz.prog 7 #[viewV path k own nm to old new (.slice lp lines.length lc)] w' fun e w'' => e = .returned (.string (ViewT.text ⟨path, k, own, nm, to, old, new, .slice lp lines.length lc, lines⟩)) ∧ VHS w2 w'' b (off + m * 8) ⟨path, k, own, nm, to, old, new, .slice lp lines.length lc, lines⟩) := Lib.hid fun w' h => vtext_held hsv h
                have HT2 : Hid (∀ w', VHS w2 w' b (off + m * 8) ⟨path, k, own, nm, to, old, new, .slice lp lines.length lc, lines⟩ → Calls Tryz.prog 8 #[viewV path k own nm to old new (.slice lp lines.length lc)] w' fun e w'' => e = .returned (.string (ViewT.text ⟨path, k, own, nm, to, old, new, .slice lp lines.length lc, lines⟩)) ∧ VHS w2 w'' b (off + m * 8) ⟨path, k, own, nm, to, old, new, .slice lp lines.length lc, lines⟩) := Lib.hid fun w' h => rvtext_held hsv h
                have hjv : decide ((m : Int) < (l.length : Int)) = true := by simp; omega
                have hm0 : (0 : Int) ≤ (m : Int) := by omega
                have hm1 : (m : Int) < (l.length : Int) := by omega
                clear hva hvr hsv hvj
                generalize ViewT.text ⟨path, k, own, nm, to, old, new, .slice lp lines.length lc, lines⟩ = T at *
                go_wp2_with fail
                clear hjv
                obtain ⟨z0, z1, z2, z3, z4, z5, z6, z7, z8⟩ := hVH
                simp only at z0 z1 z2 z3 z4 z5 z6 z7 z8
                go_region_held3 (fun w' => w'.cell? ⟨b, off + m * 8, none⟩ = some (.string path) ∧ w'.cell? ⟨b, off + m * 8 + 1, none⟩ = some (.int .i64 k) ∧ w'.cell? ⟨b, off + m * 8 + 2, none⟩ = some (.string own) ∧ w'.cell? ⟨b, off + m * 8 + 3, none⟩ = some (.string nm) ∧ w'.cell? ⟨b, off + m * 8 + 4, none⟩ = some (.string to) ∧ w'.cell? ⟨b, off + m * 8 + 5, none⟩ = some (.int .i64 old) ∧ w'.cell? ⟨b, off + m * 8 + 6, none⟩ = some (.int .i64 new) ∧ w'.cell? ⟨b, off + m * 8 + 7, none⟩ = some (.slice lp lines.length lc) ∧ VH w2 w' b (off + m * 8) ⟨path, k, own, nm, to, old, new, .slice lp lines.length lc, lines⟩)
                  (first | assumption | (change VHS w2 _ b (off + m * 8) ⟨path, k, own, nm, to, old, new, .slice lp lines.length lc, lines⟩; assumption) | (refine ⟨?_, ?_, ?_, ?_, ?_, ?_, ?_, ?_, ?_⟩ <;> first | assumption | (simp [*]; done)))
                  (first | (go_at_call 7; refine (HT1.out _ (by unfold VHS; assumption)).mono ?_; rintro e w' ⟨rfl, hS⟩) | (go_at_call 8; refine (HT2.out _ (by unfold VHS; assumption)).mono ?_; rintro e w' ⟨rfl, hS⟩))
                have hB5 := (show VHS w2 w' b (off + m * 8) ⟨path, k, own, nm, to, old, new, .slice lp lines.length lc, lines⟩ by unfold VHS; assumption).held.bel
                go_wp2
                go_roundw
                case rel => exact ⟨m + 1, by omega, hB5, by go_num⟩
                case measure => simp [intOf]; omega
              · obtain rfl : m = l.length := by omega
                go_wp2_with fail
                refine (HAW.out _ (HB2.out.trans (HB4.out.mono HB2.out.size))).mono ?_
                rintro e w9 ⟨rfl, hb⟩
                have HB9 := Lib.hid ((HB2.out.trans (HB4.out.mono HB2.out.size)).trans (hb.mono (HB2.out.trans (HB4.out.mono HB2.out.size)).size))
                clear hb
                go_wp2
                go_ret
                exact ⟨rfl, HB9.out⟩
end Go.Proofs

namespace Go.Proofs
open Go.ChangeShapes Go.WideShapes Go.Deep Go.RowKit
open Classical

theorem add_plain (b o n : Nat) : (⟨b, o, none⟩ : Addr).add n = ⟨b, o + n, none⟩ := by
  unfold Addr.add
  split
  · subst_vars
    rfl
  · rfl
theorem cell_spot {w : World} {a : Addr} {v : Value} (h : w.cell? a = some v) : a = ⟨a.block, a.off, none⟩ := by
  obtain ⟨b, o, s⟩ := a
  cases s with
  | none => rfl
  | some s =>
    exfalso
    unfold World.cell? at h
    split at h <;> simp_all

/-- A view whose numbers are small. -/
structure ViewT.OK (v : ViewT) : Prop where
  path : v.path.size ≤ 9223372036854775807
  own : v.own.size ≤ 9223372036854775807
  nm : v.nm.size ≤ 9223372036854775807
  to : v.to.size ≤ 9223372036854775807
  len : v.lines.length ≤ 9223372036854775807
  lines : ∀ s ∈ v.lines, s.size ≤ 9223372036854775807

set_option maxRecDepth 100000
/-- A slice of strings, as its cells are read. -/
theorem open_lines {H : Type} {enc : TypeId × Value → H} {W : World} {base : Nat} {spare : Nat → Bool} {held : Bool} {fuel : Nat} {v : Value} {x : DataW H × List MemPlace}
    (h : DataW.trod enc Tryz.prog W base spare held fuel 26 [v] = some x) : ∃ l, LinesVal W v l ∧ l.length ≤ 9223372036854775807 ∧ ∀ s ∈ l, s.size ≤ 9223372036854775807 := by
  have hM : maxLen = 9223372036854775807 := by decide
  rcases open_slice Tryz.underlying26 h with ⟨hn, _⟩ | ⟨a, len, cap, m, n, D, Pl, hcs, hb, hl, hm, hmm, hx, hi⟩
  · injection hn with hn
    subst hn
    exact ⟨[], .inl ⟨⟨_, _, rfl⟩, rfl⟩, by simp, by simp⟩
  · injection hcs with hcs
    subst hcs
    by_cases hz : len = 0
    · subst hz
      exact ⟨[], .inl ⟨⟨_, _, rfl⟩, rfl⟩, by simp, by simp⟩
    · have hlm : len ≤ m := by rw [hmm]; split <;> omega
      have c1 : Tryz.prog.cellsOf 9 = 1 := by kernel_rfl
      have key0 : ∀ i, i < len → ∃ s : ByteArray, W.cell? (a.add (i * 1)) = some (.string s) ∧ s.size ≤ maxLen := by
        intro i hil
        obtain ⟨cs', hc, ht⟩ := hi i (by omega)
        rw [c1] at hc
        obtain ⟨_, hcl, hat⟩ := World.cells?_some hc
        obtain ⟨s, hs, _, hk⟩ := DataW.trod_string Tryz.underlying9 ht
        have := hat 0 (by omega)
        rw [hs] at this
        refine ⟨s, ?_, hk⟩
        rw [Go.Deep.add_add] at this
        simpa using this
      have ha : a = ⟨a.block, a.off, none⟩ := by
        obtain ⟨s, hs, _⟩ := key0 0 (by omega)
        have hadd : a.add (0 * 1) = a := by
          unfold Addr.add
          simp
        rw [hadd] at hs
        exact cell_spot hs
      have key : ∀ i, i < len → ∃ s : ByteArray, W.cell? ⟨a.block, a.off + i, none⟩ = some (.string s) ∧ s.size ≤ maxLen := by
        intro i hil
        obtain ⟨s, hs, hk⟩ := key0 i hil
        rw [ha, add_plain, Nat.mul_one] at hs
        exact ⟨s, hs, hk⟩
      have hlt : a.block < W.heap.size := by
        obtain ⟨s, hs, _⟩ := key 0 (by omega)
        unfold World.cell? at hs
        split at hs
        · rename_i h'
          exact (Array.getElem?_eq_some_iff.1 h').1
        · cases hs
      obtain ⟨F, hF⟩ : ∃ F : Nat → ByteArray, ∀ i, i < len → W.cell? ⟨a.block, a.off + i, none⟩ = some (.string (F i)) ∧ (F i).size ≤ maxLen := by
        refine ⟨fun i => if h : i < len then Classical.choose (key i h) else .empty, fun i hil => ?_⟩
        simp only [hil, dif_pos]
        exact Classical.choose_spec (key i hil)
      refine ⟨(List.range len).map F, .inr ⟨a.block, a.off, cap, ?_, by simp; exact hl, hlt, fun i s hs => ?_⟩, by simp; omega, fun s hs => ?_⟩
      · rw [← ha]
        simp
      · have hil : i < len := by
          have := (List.getElem?_eq_some_iff.1 hs).1
          simpa using this
        have hf : s = F i := by simpa [hil] using hs.symm
        subst hf
        exact (hF i hil).1
      · obtain ⟨i, hil, rfl⟩ := List.mem_map.1 hs
        have := (hF i (List.mem_range.1 hil)).2
        omega

/-- A list of views, as its cells are read. -/
theorem open_views {H : Type} {enc : TypeId × Value → H} {W : World} {b0 b1 : Nat} {spare : Nat → Bool} {held : Bool} {v : Value} {d : DataW H} {p : List MemPlace}
    (hv : Value.okWide Tryz.prog W .any b1 22 v) (h : DataW.Trod enc Tryz.prog W b0 spare held 22 v d p) : ∃ l, ViewsVal W v l ∧ l.length ≤ 9223372036854775807 ∧ ∀ V ∈ l, V.OK := by
  have hM : maxLen = 9223372036854775807 := by decide
  have u0 : Tryz.prog.underlying 22 = some (.slice 28) := Tryz.underlying22
  obtain ⟨a, len, cap, rfl⟩ := okWide_slice u0 hv
  obtain ⟨fuel, hf⟩ := h
  unfold Value.okWide at hv
  simp only [u0] at hv
  rcases open_slice u0 hf with ⟨hn, _⟩ | ⟨a', len', cap', m, n, D, Pl, hcs, hb, hl, hm, hmm, hx, hi⟩
  · injection hn with hn
    rw [hn]
    exact ⟨[], .inl ⟨rfl, rfl⟩, by simp, by simp⟩
  · injection hcs with hcs
    injection hcs with e1 e2 e3
    subst e1 e2 e3
    unfold Cell.okWide at hv
    simp only [u0] at hv
    unfold Cell.ok at hv
    simp only [u0] at hv
    obtain ⟨_, _, _, hspot, row, cells, hsh, _⟩ := hv
    have ha : a' = ⟨a'.block, a'.off, none⟩ := by
      obtain ⟨b, o, s⟩ := a'
      simp only at hspot
      rw [hspot]
    have hlt : a'.block < W.heap.size := by
      unfold World.shape? at hsh
      split at hsh
      · rename_i h'
        exact (Array.getElem?_eq_some_iff.1 h').1
      · cases hsh
    have hlm : len ≤ m := by rw [hmm]; split <;> omega
    have c8 : Tryz.prog.cellsOf 28 = 8 := by kernel_rfl
    have c6 : Tryz.prog.cellsOf 25 = 6 := by kernel_rfl
    have c1 : Tryz.prog.cellsOf 9 = 1 := by kernel_rfl
    have c1i : Tryz.prog.cellsOf 3 = 1 := by kernel_rfl
    have c1s : Tryz.prog.cellsOf 26 = 1 := by kernel_rfl
    have key : ∀ i, i < len → ∃ V : ViewT, ViewAt W a'.block (a'.off + i * 8) V ∧ V.OK := by
      intro i hil
      obtain ⟨cs', hc, ht⟩ := hi i (by omega)
      rw [c8] at hc
      obtain ⟨_, hcl, hat⟩ := World.cells?_some hc
      have hadd : ∀ j : Nat, (a'.add (i * 8)).add j = ⟨a'.block, a'.off + i * 8 + j, none⟩ := fun j => by
        rw [ha, add_plain, add_plain]
      simp only [hadd] at hat
      obtain ⟨y0, y1, y2, y3, y4, y5, y6, y7, rfl⟩ : ∃ y0 y1 y2 y3 y4 y5 y6 y7, cs' = [y0, y1, y2, y3, y4, y5, y6, y7] := by
        match cs', hcl with
        | [a, b, c, d, e, f, g, h], _ => exact ⟨a, b, c, d, e, f, g, h, rfl⟩
      obtain ⟨xs, n', _, _, _, hxs, hf⟩ := DataW.trod_struct Tryz.underlying28 ht
      have g0 : DataW.trod enc Tryz.prog W b0 spare held n' 9 (List.take (Tryz.prog.cellsOf 9) [y0, y1, y2, y3, y4, y5, y6, y7]) = xs[0]? := hf 0 _ rfl
      have g1 : DataW.trod enc Tryz.prog W b0 spare held n' 25 (List.take (Tryz.prog.cellsOf 25) [y1, y2, y3, y4, y5, y6, y7]) = xs[1]? := hf 1 _ rfl
      have g2 : DataW.trod enc Tryz.prog W b0 spare held n' 26 (List.take (Tryz.prog.cellsOf 26) [y7]) = xs[2]? := hf 2 _ rfl
      rw [c1] at g0
      rw [c6] at g1
      rw [c1s] at g2
      simp only [List.take_succ_cons, List.take_zero] at g0 g1 g2
      have sz : ∀ k, k < 3 → ∃ x, xs[k]? = some x := fun k hk => ⟨xs[k]'(by simp at hxs; omega), List.getElem?_eq_getElem _⟩
      obtain ⟨z0, e0⟩ := sz 0 (by omega)
      obtain ⟨z1, e1⟩ := sz 1 (by omega)
      obtain ⟨z2, e2⟩ := sz 2 (by omega)
      rw [e0] at g0
      rw [e1] at g1
      rw [e2] at g2
      obtain ⟨s0, q0, _, k0⟩ := DataW.trod_string Tryz.underlying9 g0
      cases q0
      obtain ⟨ls, hls, hll, hlz⟩ := open_lines g2
      obtain ⟨ws, n2, _, _, _, hws, hf2⟩ := DataW.trod_struct Tryz.underlying25 g1
      have f0 : DataW.trod enc Tryz.prog W b0 spare held n2 3 (List.take (Tryz.prog.cellsOf 3) [y1, y2, y3, y4, y5, y6]) = ws[0]? := hf2 0 _ rfl
      have f1 : DataW.trod enc Tryz.prog W b0 spare held n2 9 (List.take (Tryz.prog.cellsOf 9) [y2, y3, y4, y5, y6]) = ws[1]? := hf2 1 _ rfl
      have f2 : DataW.trod enc Tryz.prog W b0 spare held n2 9 (List.take (Tryz.prog.cellsOf 9) [y3, y4, y5, y6]) = ws[2]? := hf2 2 _ rfl
      have f3 : DataW.trod enc Tryz.prog W b0 spare held n2 9 (List.take (Tryz.prog.cellsOf 9) [y4, y5, y6]) = ws[3]? := hf2 3 _ rfl
      have f4 : DataW.trod enc Tryz.prog W b0 spare held n2 3 (List.take (Tryz.prog.cellsOf 3) [y5, y6]) = ws[4]? := hf2 4 _ rfl
      have f5 : DataW.trod enc Tryz.prog W b0 spare held n2 3 (List.take (Tryz.prog.cellsOf 3) [y6]) = ws[5]? := hf2 5 _ rfl
      rw [c1i] at f0 f4 f5
      rw [c1] at f1 f2 f3
      simp only [List.take_succ_cons, List.take_zero] at f0 f1 f2 f3 f4 f5
      have wz : ∀ k, k < 6 → ∃ x, ws[k]? = some x := fun k hk => ⟨ws[k]'(by simp at hws; omega), List.getElem?_eq_getElem _⟩
      obtain ⟨v0, r0⟩ := wz 0 (by omega)
      obtain ⟨v1, r1⟩ := wz 1 (by omega)
      obtain ⟨v2, r2⟩ := wz 2 (by omega)
      obtain ⟨v3, r3⟩ := wz 3 (by omega)
      obtain ⟨v4, r4⟩ := wz 4 (by omega)
      obtain ⟨v5, r5⟩ := wz 5 (by omega)
      rw [r0] at f0
      rw [r1] at f1
      rw [r2] at f2
      rw [r3] at f3
      rw [r4] at f4
      rw [r5] at f5
      obtain ⟨i0, p0, _, _⟩ := DataW.trod_int Tryz.underlying3 f0
      obtain ⟨s1, p1, _, k1⟩ := DataW.trod_string Tryz.underlying9 f1
      obtain ⟨s2, p2, _, k2⟩ := DataW.trod_string Tryz.underlying9 f2
      obtain ⟨s3, p3, _, k3⟩ := DataW.trod_string Tryz.underlying9 f3
      obtain ⟨i4, p4, _, _⟩ := DataW.trod_int Tryz.underlying3 f4
      obtain ⟨i5, p5, _, _⟩ := DataW.trod_int Tryz.underlying3 f5
      cases p0
      cases p1
      cases p2
      cases p3
      cases p4
      cases p5
      refine ⟨⟨s0, i0, s1, s2, s3, i4, i5, y7, ls⟩, ⟨?_, ?_, ?_, ?_, ?_, ?_, ?_, ?_, hls⟩, ⟨by simp only; omega, by simp only; omega, by simp only; omega, by simp only; omega, hll, hlz⟩⟩
      · have := hat 0 (by omega); simpa using this
      · have := hat 1 (by omega); simpa using this
      · have := hat 2 (by omega); simpa using this
      · have := hat 3 (by omega); simpa using this
      · have := hat 4 (by omega); simpa using this
      · have := hat 5 (by omega); simpa using this
      · have := hat 6 (by omega); simpa using this
      · have := hat 7 (by omega); simpa using this
    obtain ⟨F, hF⟩ : ∃ F : Nat → ViewT, ∀ i, i < len → ViewAt W a'.block (a'.off + i * 8) (F i) ∧ (F i).OK := by
      refine ⟨fun i => if h : i < len then Classical.choose (key i h) else ⟨.empty, 0, .empty, .empty, .empty, 0, 0, .slice none 0 0, []⟩, fun i hil => ?_⟩
      simp only [hil, dif_pos]
      exact Classical.choose_spec (key i hil)
    refine ⟨(List.range len).map F, .inr ⟨a'.block, a'.off, cap, ?_, hlt, fun i V hV => ?_⟩, by simp; omega, fun V hV => ?_⟩
    · rw [← ha]
      simp
    · have hil : i < len := by
        have := (List.getElem?_eq_some_iff.1 hV).1
        simpa using this
      have hf : V = F i := by simpa [hil] using hV.symm
      subst hf
      exact (hF i hil).1
    · obtain ⟨i, hil, rfl⟩ := List.mem_map.1 hV
      exact (hF i (List.mem_range.1 hil)).2
end Go.Proofs

namespace Go.Proofs
open Go.ChangeShapes Go.WideShapes Go.Deep Go.RowKit

section
variable {H : Type} {enc : TypeId × Value → H} {P : Program}
theorem post_of_below {f : Func} {s : ChangeSpec} {apart fresh handsOn again : Bool} {W W' : World} {args : Array Value} {v : Value} {ds gs : List (DataW H)} {before pa pv : List MemPlace}
    (hW : DataW.Whole enc P f.params.toList s.vars apart W args.toList ds gs before)
    (hres : ∀ (b : Nat) (sp : Nat → Bool) (hd : Bool), DataW.TrodAll enc P W' b sp hd f.resultTypes.toList (v.resultList f.resultTypes.size) (s.fn H (ds ++ gs)).results [])
    (hargs : ∀ sp : Nat → Bool, (∀ p ∈ before, sp p.block = true) → DataW.TrodAll enc P W' 0 sp true f.params.toList args.toList (s.fn H (ds ++ gs)).args pa)
    (hvars : ∀ sp : Nat → Bool, (∀ p ∈ before, sp p.block = true) → DataW.TrodVars enc P W' sp s.vars (s.fn H (ds ++ gs)).vars pv)
    (hps : before = pa ++ pv) (hb : Below W.heap.size W W')
    (hok : ∀ (j : Nat) (t : TypeId) (r : Value), f.resultTypes[j]? = some t → (v.resultList f.resultTypes.size)[j]? = some r → Value.okWide P W' .any 0 t r) :
    s.post enc P f apart fresh handsOn again W args v W' := by
  have hlt : ∀ p ∈ before, p.block < W.heap.size := fun p hp => hW.lt p hp
  have hold : ∀ p ∈ before, (fun b => decide (b < W.heap.size)) p.block = true := fun p hp => by simpa using hlt p hp
  refine ⟨ds, gs, before, [], pa, pv, hW, hres _ _ _, hargs _ hold, hvars _ hold, World.keptBut_mono (fun p hp => ⟨hp, ?_⟩) (hb.frame (· ∈ before)), fun _ => ?_⟩
  · rw [hps, List.mem_append] at hp
    exact Or.inr hp
  · obtain ⟨_, _, _, _, _, hz, hn⟩ := hW
    refine ⟨hok, _, _, ([] ++ pa) ++ pv, ⟨[] ++ pa, pv, trodAll_append (hargs _ (fun _ _ => rfl)) (hres _ _ _), hvars _ (fun _ _ => rfl), rfl, ?_, ?_⟩, ?_⟩
    · intro b off hp
      have hin : MemPlace.cell b off ∈ before := by rw [hps]; simpa using hp
      rw [hb.frozen (hlt _ hin)]
      exact hz b off hin
    · intro ha
      have := hn ha
      rw [hps] at this
      simpa using this
    · intro p hp _
      rw [hps]
      simpa using hp
end
end Go.Proofs

namespace Go.Proofs
open Go.RowKit Go.Ev Go.Proofs.YtjhmlmiegkjncaaGreatDoor
set_option maxRecDepth 100000

theorem shapes_laid : layD Tryz.prog 8 285 Rows.laid_treemerge_grammar_shapes 7 = some (cells0, rows0, 26) := by kernel_rfl
theorem shapes_named : Tryz.prog.globalNamed "treemerge/grammar.shapes" = some 1 := by kernel_rfl
theorem shapes_type : (Tryz.prog.globals[1]?).map (·.type) = some 285 := by kernel_rfl
theorem rows_full : fullRows rows0 = true := by kernel_rfl
theorem cells_few : Nat.blt cells0.length lim = true := by kernel_rfl

theorem rtexts_all {laid : List (String × DataW Unit)} (hd : ("treemerge/grammar.shapes", Rows.laid_treemerge_grammar_shapes) ∈ laid) (x : Value) (l : List ViewT) (w : World) (hv : ViewsVal w x l) (hl : l.length ≤ 9223372036854775807) (hs : ∀ V ∈ l, V.OK) (hm : laidMet Tryz.prog laid w) :
    Calls Tryz.prog 3 #[x] w fun e w' => e = .returned (.bool true) ∧ Below w.heap.size w w' := by
  have hlay : layD Tryz.prog 8 285 Rows.laid_treemerge_grammar_shapes Tryz.prog.globals.size = some (cells0, rows0, 26) := by rw [nglob56]; exact shapes_laid
  obtain ⟨β, hr, hg, _⟩ := init_rel hm hd shapes_named shapes_type hlay rows_full (by decide) (blt_of cells_few) (fun _ => none)
  exact rtexts_law x l w hv hl (fun V hV => ⟨(hs V hV).path, (hs V hV).own, (hs V hV).nm, (hs V hV).to, (hs V hV).len, (hs V hV).lines⟩) fun w' hb => awake56_calls (pre0_rel_below ⟨hr, hg⟩ hb)
end Go.Proofs
