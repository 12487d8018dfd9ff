/-
  The example run of the law.
-/
import Derived.Test.YtjhmlmiegkjncaaGreatDoorVE
import Derived.Test.YtjhmlmiegkjncaaGreatDoorRE
set_option linter.all false

namespace Go.Proofs
open Go.RowKit Go.Ev
open Classical

theorem textAB (lv : Value) : ({ viewAB with lv := lv } : ViewT).text = ⟨#[97, 58, 32, 114, 101, 110, 97, 109, 101, 32, 102, 32, 116, 111, 32, 103, 10, 45, 99, 111, 110, 115, 116, 32, 102, 32, 61, 32, 49, 59, 10, 43, 99, 111, 110, 115, 116, 32, 103, 32, 61, 32, 49, 59, 10]⟩ := by
  show headL pA 3 ⟨#[]⟩ ⟨#[102]⟩ ⟨#[103]⟩ ++ catL [lF, lG] = _
  decide +kernel
theorem textAC (lv : Value) : ({ viewAC with lv := lv } : ViewT).text = ⟨#[97, 58, 32, 99, 104, 97, 110, 103, 101, 32, 108, 105, 110, 101, 115, 10, 45, 99, 111, 110, 115, 116, 32, 102, 32, 61, 32, 49, 59, 10, 43, 99, 111, 110, 115, 116, 10]⟩ := by
  show headL pA 0 ⟨#[]⟩ ⟨#[]⟩ ⟨#[]⟩ ++ catL [lF, lC] = _
  decide +kernel
theorem shortAB (lv : Value) : ({ viewAB with lv := lv } : ViewT).Short := ⟨show pA.size ≤ 100 by decide, show (⟨#[]⟩ : ByteArray).size ≤ 100 by decide, show (⟨#[102]⟩ : ByteArray).size ≤ 100 by decide, show (⟨#[103]⟩ : ByteArray).size ≤ 100 by decide, show 2 ≤ 20 by decide, show ∀ x ∈ [lF, lG], x.size ≤ 100 by decide⟩
theorem shortAC (lv : Value) : ({ viewAC with lv := lv } : ViewT).Short := ⟨show pA.size ≤ 100 by decide, show (⟨#[]⟩ : ByteArray).size ≤ 100 by decide, show (⟨#[]⟩ : ByteArray).size ≤ 100 by decide, show (⟨#[]⟩ : ByteArray).size ≤ 100 by decide, show 2 ≤ 20 by decide, show ∀ x ∈ [lF, lC], x.size ≤ 100 by decide⟩
/-- A row of eleven numbers, as its cells are read. -/
theorem eleven {w : World} {base : Nat} {v : Value} {xs : List Value} (h : w.ownsRow base 3 1 v 11 xs) : ∃ g cap, v = .slice (some ⟨g, 0, none⟩) 11 cap ∧ g < w.heap.size ∧ ∀ j, j < 11 → w.cell? ⟨g, j, none⟩ = xs[j]? := by
  have h0 := h
  obtain ⟨_, h⟩ := h
  rcases h with ⟨_, h⟩ | ⟨g, cap, cur, rfl, _, hg, _⟩
  · cases h
  · exact ⟨g, cap, rfl, (Array.getElem?_eq_some_iff.1 hg).1, fun j hj => World.ownsRow.cellAt h0 j (by omega)⟩
theorem cnt_one (lv : Value) : (totL [({ viewAB with lv := lv } : ViewT)] 11)[3]? = some (.int .i64 1) := by
  simp [totL]
  rfl
theorem views_of {w : World} {g c : Nat} {V : ViewT} (h : ViewAt w g 0 V) (hg : g < w.heap.size) : ViewsVal w (.slice (some ⟨g, 0, none⟩) 1 c) [V] :=
  .inr ⟨g, 0, c, rfl, hg, fun i v hv => by
    match i, hv with
    | 0, hv => cases hv; exact h⟩
theorem zero_intent (w : World) : (binOp .eql 25 (.agg #[.int .i64 0, .string ⟨#[]⟩, .string ⟨#[]⟩, .string ⟨#[]⟩, .int .i64 0, .int .i64 0]) (.agg #[.int .i64 0, .string ⟨#[]⟩, .string ⟨#[]⟩, .string ⟨#[]⟩, .int .i64 0, .int .i64 0])).run Tryz.prog w = .ok (.bool true) w := by kernel_rfl

set_option maxRecDepth 100000 in
set_option maxHeartbeats 8000000 in
theorem awake56_calls {ρ : Ren} {w : World} (h : Laid ρ w) : Calls Tryz.prog 4 #[] w fun e w' => e = .returned (.bool true) ∧ Below w.heap.size w w' := by
  have HL := Lib.hid h
  clear h
  go_enter Tryz.func4, Tryz.ntmps4
  go_wp2_with fail
  have fa0 := ((files_new w pA tF 1).below (below_alloc (.cells #[.string pA, .string tG] 34))).below (below_alloc (.cells #[.string pA, .string wConst] 34))
  have fb0 := (files_new (w.alloc (.cells #[.string pA, .string tF] 34)) pA tG 1).below (below_alloc (.cells #[.string pA, .string wConst] 34))
  have fc0 := files_new ((w.alloc (.cells #[.string pA, .string tF] 34)).alloc (.cells #[.string pA, .string tG] 34)) pA wConst 1
  simp only [World.size_alloc] at fb0 fc0
  have hb0 : Below w.heap.size w (((w.alloc (.cells #[.string pA, .string tF] 34)).alloc (.cells #[.string pA, .string tG] 34)).alloc (.cells #[.string pA, .string wConst] 34)) := (((Below.refl _ w).alloc (Nat.le_refl _) _).alloc (by simp) _).alloc (by simp; omega) _
  generalize ((w.alloc (.cells #[.string pA, .string tF] 34)).alloc (.cells #[.string pA, .string tG] 34)).alloc (.cells #[.string pA, .string wConst] 34) = w0 at *
  have HL0 := Lib.hid (pre0_rel_below HL.out hb0)
  refine (viewsAB HL0.out fa0 fb0).mono ?_
  rintro e w1 ⟨g1, c1, lv1, rfl, hg1, hv1, hb⟩
  have fa1 := fa0.below hb
  have fc1 := fc0.below hb
  have HL1 := Lib.hid (pre0_rel_below HL0.out hb)
  have hb1 := hb0.trans (hb.mono hb0.size)
  clear hb hb0 fa0 fb0 fc0
  have HV1 := Lib.hid hv1
  clear hv1
  go_wp2_with fail
  refine (viewsAA fa1 fa1).mono ?_
  rintro e w2 ⟨rfl, hb⟩
  have fa2 := fa1.below hb
  have fc2 := fc1.below hb
  have HL2 := Lib.hid (pre0_rel_below HL1.out hb)
  have hb2 := hb1.trans (hb.mono hb1.size)
  have HV2 := Lib.hid (HV1.out.below hb hg1)
  have hg2 := Nat.lt_of_lt_of_le hg1 hb.size
  clear hb hb1 fa1 fc1 HV1
  go_wp2_with fail
  refine (viewsAC HL2.out fa2 fc2).mono ?_
  rintro e w3 ⟨g3, c3, lv3, rfl, hg3, hv3, hb⟩
  have fa3 := fa2.below hb
  have hb3 := hb2.trans (hb.mono hb2.size)
  have HV3 := Lib.hid (HV2.out.below hb hg2)
  have hg3' := Nat.lt_of_lt_of_le hg2 hb.size
  have HC3 := Lib.hid hv3
  clear hb hb2 fa2 fc2 HV2 hv3 HL HL0 HL1 HL2
  go_wp2_with fail
  have fe := files_new w3 ⟨#[]⟩ ⟨#[]⟩ 1
  have hba := below_alloc (w := w3) (.cells #[.string ⟨#[]⟩, .string ⟨#[]⟩] 34)
  refine (views_none fe).mono ?_
  rintro e w4 ⟨rfl, hb⟩
  have hb4 := (hb3.trans (hba.mono hb3.size)).trans (hb.mono (by simp; exact Nat.le_trans hb3.size (Nat.le_succ _)))
  have hbx := hba.trans (hb.mono hba.size)
  have HV4 := Lib.hid (HV3.out.below hbx hg3')
  have HC4 := Lib.hid (HC3.out.below hbx hg3)
  have hg4 := Nat.lt_of_lt_of_le hg3' hbx.size
  have hg4' := Nat.lt_of_lt_of_le hg3 hbx.size
  have HB4 := Lib.hid hb4
  clear hb hb3 hba hbx fe HV3 HC3 hb4 fa3
  obtain ⟨x0, x1, x2, x3, x4, x5, x6, x7, x8⟩ := HV4.out
  obtain ⟨y0, y1, y2, y3, y4, y5, y6, y7, y8⟩ := HC4.out
  simp only [viewAB, viewAC] at x0 x1 x2 x3 x4 x5 x6 x7 x8 y0 y1 y2 y3 y4 y5 y6 y7 y8
  rcases x8 with ⟨_, hn⟩ | ⟨b5, o5, c5, rfl, hc5, hl5, hx5⟩
  · cases hn
  have l0 := hx5 0 _ rfl
  have l1 := hx5 1 _ rfl
  simp only [List.length_cons, List.length_nil, Nat.zero_add, Nat.reduceAdd, Nat.add_zero] at l0 l1 x7 hc5 HV4
  clear hx5 y8
  have sAB := shortAB (.slice (some ⟨b5, o5, none⟩) 2 c5)
  have sAC := shortAC lv3
  have HT1 := Lib.hid (texts_agree _ sAB w4 HV4.out.2.2.2.2.2.2.2.2).1
  rw [textAB] at HT1
  clear sAB
  go_wp2_with fail
  refine HT1.out.mono ?_
  rintro e w5 ⟨rfl, hb⟩
  have HV5 := Lib.hid (HV4.out.below hb hg4)
  have HC5 := Lib.hid (HC4.out.below hb hg4')
  have HB5 := Lib.hid (HB4.out.trans (hb.mono HB4.out.size))
  have hg5 := Nat.lt_of_lt_of_le hg4 hb.size
  have hg5' := Nat.lt_of_lt_of_le hg4' hb.size
  clear hb HV4 HC4 HB4 x0 x1 x2 x3 x4 x5 x6 x7 y0 y1 y2 y3 y4 y5 y6 y7 l0 l1 HT1 hc5 hl5
  obtain ⟨y0, y1, y2, y3, y4, y5, y6, y7, y8⟩ := HC5.out
  simp only [viewAC] at y0 y1 y2 y3 y4 y5 y6 y7 y8
  have hcmp := zero_intent
  have HT2 := Lib.hid (texts_agree _ sAC w5 HC5.out.2.2.2.2.2.2.2.2).1
  rw [textAC] at HT2
  clear y8 sAC
  obtain ⟨p3, n3, k3, rfl⟩ : ∃ p n k, lv3 = .slice p n k := by
    obtain ⟨p, k, e⟩ := HC5.out.2.2.2.2.2.2.2.2.slice
    exact ⟨p, _, k, e⟩
  go_wp2_with fail
  refine HT2.out.mono ?_
  rintro e w6 ⟨rfl, hb⟩
  have HV6 := Lib.hid (HV5.out.below hb hg5)
  have HB6 := Lib.hid (HB5.out.trans (hb.mono HB5.out.size))
  have hg6 := Nat.lt_of_lt_of_le hg5 hb.size
  clear hb HV5 HC5 HB5 y0 y1 y2 y3 y4 y5 y6 y7 HT2
  go_wp2_with fail
  refine (vtotals_calls _ _ w6 (views_of HV6.out hg6) (by simp)).mono ?_
  rintro e w7 ⟨t1, rfl, hr1, hb⟩
  obtain ⟨r1, q1, rfl, _, _⟩ := eleven hr1
  have HV7 := Lib.hid (HV6.out.below hb hg6)
  have HB7 := Lib.hid (HB6.out.trans (hb.mono HB6.out.size))
  have hg7 := Nat.lt_of_lt_of_le hg6 hb.size
  clear hb HV6 HB6 hr1
  go_wp2_with fail
  refine (vtotals_calls _ _ w7 (views_of HV7.out hg7) (by simp)).mono ?_
  rintro e w8 ⟨t2, rfl, hr2, hb⟩
  obtain ⟨r2, q2, rfl, _, hx⟩ := eleven hr2
  have hx3 := hx 3 (by decide)
  rw [cnt_one] at hx3
  have HB8 := Lib.hid (HB7.out.trans (hb.mono HB7.out.size))
  clear hb HV7 HB7 hr2 hx
  go_wp2
  go_ret
  exact ⟨rfl, HB8.out⟩
end Go.Proofs
