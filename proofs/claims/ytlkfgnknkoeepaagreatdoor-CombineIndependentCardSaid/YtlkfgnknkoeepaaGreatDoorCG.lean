/-
  CombineSides: the law's function answers true.
-/
import Derived.Test.YtlkfgnknkoeepaaGreatDoorCF
set_option linter.all false

namespace Go.Proofs
open Go.RowKit Go.Maps Go.MapKept
open Classical

/-- The error of two versions. -/
noncomputable def chk2 (b o : List FileT) : Int := if chkE b = 0 then chkE o else chkE b
theorem chk_bbo (b o : List FileT) : chk3 b b o = chk2 b o := by
  unfold chk3 chk2
  by_cases h : chkE b = 0
  · rw [if_pos h, if_pos h]
  · rw [if_neg h, if_neg h]
theorem chk_bob (b o : List FileT) : chk3 b o b = chk2 b o := by
  unfold chk3 chk2
  by_cases h : chkE b = 0
  · rw [if_pos h, if_pos h]
    by_cases h2 : chkE o = 0
    · rw [if_pos h2, h, h2]
    · rw [if_neg h2]
  · rw [if_neg h, if_neg h]
theorem chk_boo (b o : List FileT) : chk3 b o o = chk2 b o := by
  unfold chk3 chk2
  by_cases h : chkE b = 0
  · rw [if_pos h, if_pos h]
    by_cases h2 : chkE o = 0
    · rw [if_pos h2]
    · rw [if_neg h2]
  · rw [if_neg h, if_neg h]

theorem pathsL_sorted (b l r : List FileT) : (pathsL b l r).Pairwise ltB := sortS_sorted (nodup_gather b l r)
theorem mem_pathsL {p : ByteArray} {b l r : List FileT} : p ∈ pathsL b l r ↔ (∃ f ∈ b, f.1 = p) ∨ (∃ f ∈ l, f.1 = p) ∨ ∃ f ∈ r, f.1 = p := by
  unfold pathsL
  rw [mem_sortS, mem_gather]

/-- A merge that gives the other version. -/
theorem merged_other {b l r o : List FileT} (ho : chkE o = 0) (hin : ∀ f ∈ o, (∃ g ∈ b, g.1 = f.1) ∨ (∃ g ∈ l, g.1 = f.1) ∨ ∃ g ∈ r, g.1 = f.1) (hm : ∀ p, Go.Ev.mergeO (textOf b p) (textOf l p) (textOf r p) = textOf o p) :
    mergedL b l r (pathsL b l r) = o :=
  filterMap_eq (ordered_of (chkE_zero ho).2.2.1) (pathsL_sorted b l r) (fun f hf => mem_pathsL.2 (hin f hf)) (fun p _ => hm p)

/-- What comes of a merge that gives the other version. -/
def Other (w : World) (x : Int) (o : List FileT) (e : Ending) (w' : World) : Prop :=
  Below w.heap.size w w' ∧ ((x ≠ 0 ∧ e = .returned (.tuple #[.slice none 0 0, .slice none 0 0, .int .i64 x])) ∨
    (x = 0 ∧ ∃ fv rv ps, e = .returned (.tuple #[fv, rv, .int .i64 0]) ∧ FilesVal w' fv o ∧ RepsVal w' rv ps ∧ ps.length ≤ 96))

theorem pathsL_length {b l r : List FileT} (h : chk3 b l r = 0) : (pathsL b l r).length ≤ 96 := by
  obtain ⟨g0, g1, g2⟩ := chk3_zero h
  have n0 := (chkE_zero g0).1
  have n1 := (chkE_zero g1).1
  have n2 := (chkE_zero g2).1
  unfold pathsL
  rw [sortS_length]
  have h1 := collect_length [] b
  have h2 := collect_length (collect [] b) l
  have h3 := collect_length (collect (collect [] b) l) r
  simp only [List.foldl_cons, List.foldl_nil, List.length_nil] at *
  omega

theorem other_of {w : World} {b l r o : List FileT} {x : Int} (hx : chk3 b l r = x) (hm : x = 0 → mergedL b l r (pathsL b l r) = o) (hl : x = 0 → o.length ≤ 32) {e : Ending} {w' : World} (h : Merged w b l r e w') : Other w x o e w' := by
  obtain ⟨hb, h⟩ := h
  refine ⟨hb, ?_⟩
  rcases h with ⟨h1, h2⟩ | ⟨h1, h2, h3⟩ | ⟨h1, h2, fv, rv, h3, h4, h5⟩
  · rw [hx] at h1 h2
    exact .inl ⟨h1, h2⟩
  · have h0 : x = 0 := by rw [← hx]; exact h1
    rw [hm h0] at h2
    have := hl h0
    omega
  · have h0 : x = 0 := by rw [← hx]; exact h1
    rw [hm h0] at h4
    exact .inr ⟨h0, fv, rv, _, h3, h4, h5, pathsL_length h1⟩

theorem chk2_zero {b o : List FileT} (h : chk2 b o = 0) : chkE b = 0 ∧ chkE o = 0 := by
  unfold chk2 at h
  by_cases hb : chkE b = 0
  · rw [if_pos hb] at h; exact ⟨hb, h⟩
  · rw [if_neg hb] at h; exact absurd h hb

section
variable (vb vo : Value) (b o : List FileT)
theorem side_bbo (w : World) (hb : FilesVal w vb b) (ho : FilesVal w vo o) (kb : FilesOK b) (ko : FilesOK o) : Calls Tryz.prog 7 #[vb, vb, vo, .slice none 0 0] w (Other w (chk2 b o) o) :=
  (merge_calls vb vb vo b b o w hb hb ho kb kb ko (fun _ => .inl rfl)).mono fun _ _ h => other_of (chk_bbo b o)
    (fun h0 => merged_other (chk2_zero h0).2 (fun f hf => .inr (.inr ⟨f, hf, rfl⟩)) (fun p => by simp [Go.Ev.mergeO])) (fun h0 => (chkE_zero (chk2_zero h0).2).1) h
theorem side_bob (w : World) (hb : FilesVal w vb b) (ho : FilesVal w vo o) (kb : FilesOK b) (ko : FilesOK o) : Calls Tryz.prog 7 #[vb, vo, vb, .slice none 0 0] w (Other w (chk2 b o) o) :=
  (merge_calls vb vo vb b o b w hb ho hb kb ko kb (fun _ => .inr (.inl rfl))).mono fun _ _ h => other_of (chk_bob b o)
    (fun h0 => merged_other (chk2_zero h0).2 (fun f hf => .inr (.inl ⟨f, hf, rfl⟩)) (fun p => by unfold Go.Ev.mergeO; split <;> simp_all)) (fun h0 => (chkE_zero (chk2_zero h0).2).1) h
theorem side_boo (w : World) (hb : FilesVal w vb b) (ho : FilesVal w vo o) (kb : FilesOK b) (ko : FilesOK o) : Calls Tryz.prog 7 #[vb, vo, vo, .slice none 0 0] w (Other w (chk2 b o) o) :=
  (merge_calls vb vo vo b o o w hb ho ho kb ko ko (fun _ => .inr (.inr rfl))).mono fun _ _ h => other_of (chk_boo b o)
    (fun h0 => merged_other (chk2_zero h0).2 (fun f hf => .inr (.inl ⟨f, hf, rfl⟩)) (fun p => by unfold Go.Ev.mergeO; split <;> simp_all)) (fun h0 => (chkE_zero (chk2_zero h0).2).1) h
end

/-- What three merges gave. -/
structure Six (w : World) (vo f1 r1 f2 r2 f3 r3 : Value) (o : List FileT) : Prop where
  fo : FilesVal w vo o
  f1 : FilesVal w f1 o
  f2 : FilesVal w f2 o
  f3 : FilesVal w f3 o
  r1 : ∃ ps, RepsVal w r1 ps ∧ ps.length ≤ 9223372036854775807
  r2 : ∃ ps, RepsVal w r2 ps ∧ ps.length ≤ 9223372036854775807
  r3 : ∃ ps, RepsVal w r3 ps ∧ ps.length ≤ 9223372036854775807
theorem Six.below {w w' : World} {vo f1 r1 f2 r2 f3 r3 : Value} {o : List FileT} (h : Six w vo f1 r1 f2 r2 f3 r3 o) (hb : Below w.heap.size w w') : Six w' vo f1 r1 f2 r2 f3 r3 o :=
  ⟨h.fo.below hb, h.f1.below hb, h.f2.below hb, h.f3.below hb, h.r1.imp fun _ x => ⟨x.1.below hb, x.2⟩, h.r2.imp fun _ x => ⟨x.1.below hb, x.2⟩, h.r3.imp fun _ x => ⟨x.1.below hb, x.2⟩⟩

set_option maxRecDepth 100000 in
set_option maxHeartbeats 2000000 in
theorem sides_calls (vb vo : Value) (b o : List FileT) (w : World) (hb : FilesVal w vb b) (ho : FilesVal w vo o) (kb : FilesOK b) (ko : FilesOK o) :
    Calls Tryz.prog 3 #[vb, vo] w fun e w' => e = .returned (.bool true) ∧ Below w.heap.size w w' := by
  have pl := little_calls vb b w hb kb
  have pm := little_calls vo o w ho ko
  by_cases c1 : littleB b = true
  · rw [c1] at pl
    by_cases c2 : littleB o = true
    · rw [c2] at pm
      by_cases hx : chk2 b o = 0
      · go_enter Tryz.func3, Tryz.ntmps3
        go_wp2_with fail
        refine pl.mono ?_
        rintro e w1 ⟨rfl, rfl⟩
        go_wp2_with fail
        refine pm.mono ?_
        rintro e w1 ⟨rfl, rfl⟩
        go_wp2_with fail
        refine (side_bbo vb vo b o _ hb ho kb ko).mono ?_
        rintro e w1 ⟨hb1, ⟨h, _⟩ | ⟨_, fv1, rv1, ps1, rfl, hf1, hr1, hl1⟩⟩
        · exact absurd hx h
        have HB1 := Lib.hid hb1
        have HF1 := Lib.hid hf1
        have HR1 := Lib.hid hr1
        clear hb1 hf1 hr1
        go_wp2_with fail
        refine (side_bob vb vo b o _ (hb.below HB1.out) (ho.below HB1.out) kb ko).mono ?_
        rintro e w2 ⟨hb2, ⟨h, _⟩ | ⟨_, fv2, rv2, ps2, rfl, hf2, hr2, hl2⟩⟩
        · exact absurd hx h
        have HB2 := Lib.hid (HB1.out.trans (hb2.mono HB1.out.size))
        have HF1' := Lib.hid (HF1.out.below hb2)
        have HR1' := Lib.hid (HR1.out.below hb2)
        have HF2 := Lib.hid hf2
        have HR2 := Lib.hid hr2
        clear hb2 hf2 hr2 HF1 HR1
        go_wp2_with fail
        refine (side_boo vb vo b o _ (hb.below HB2.out) (ho.below HB2.out) kb ko).mono ?_
        rintro e w3 ⟨hb3, ⟨h, _⟩ | ⟨_, fv3, rv3, ps3, rfl, hf3, hr3, hl3⟩⟩
        · exact absurd hx h
        have HB3 := Lib.hid (HB2.out.trans (hb3.mono HB2.out.size))
        have H6 := Lib.hid (Six.mk (ho.below HB3.out) (HF1'.out.below hb3) (HF2.out.below hb3) hf3 ⟨_, HR1'.out.below hb3, by omega⟩ ⟨_, HR2.out.below hb3, by omega⟩ ⟨_, hr3, by omega⟩)
        clear hb3 hf3 hr3 HF1' HR1' HF2 HR2 HB1 HB2 hl1 hl2 hl3
        go_wp2_with fail
        refine (samefiles_calls _ _ o _ H6.out.f1 H6.out.fo ko.1).mono ?_
        rintro e w4 ⟨rfl, hb4⟩
        have HB4 := Lib.hid (HB3.out.trans (hb4.mono HB3.out.size))
        have H7 := Lib.hid (H6.out.below hb4)
        clear hb4 H6 HB3
        go_wp2_with fail
        refine (samefiles_calls _ _ o _ H7.out.f2 H7.out.fo ko.1).mono ?_
        rintro e w5 ⟨rfl, hb5⟩
        have HB5 := Lib.hid (HB4.out.trans (hb5.mono HB4.out.size))
        have H8 := Lib.hid (H7.out.below hb5)
        clear hb5 H7 HB4
        go_wp2_with fail
        refine (samefiles_calls _ _ o _ H8.out.f3 H8.out.fo ko.1).mono ?_
        rintro e w6 ⟨rfl, hb6⟩
        have HB6 := Lib.hid (HB5.out.trans (hb6.mono HB5.out.size))
        have H9 := Lib.hid (H8.out.below hb6)
        clear hb6 H8 HB5
        go_wp2_with fail
        obtain ⟨q1, hq1, hl1⟩ := H9.out.r1
        refine (clean_calls _ q1 _ hq1 hl1).mono ?_
        rintro e w7 ⟨rfl, hb7⟩
        have HB7 := Lib.hid (HB6.out.trans (hb7.mono HB6.out.size))
        have H10 := Lib.hid (H9.out.below hb7)
        clear hb7 H9 HB6 hq1 hl1
        go_wp2_with fail
        obtain ⟨q2, hq2, hl2⟩ := H10.out.r2
        refine (clean_calls _ q2 _ hq2 hl2).mono ?_
        rintro e w8 ⟨rfl, hb8⟩
        have HB8 := Lib.hid (HB7.out.trans (hb8.mono HB7.out.size))
        have H11 := Lib.hid (H10.out.below hb8)
        clear hb8 H10 HB7 hq2 hl2
        go_wp2_with fail
        obtain ⟨q3, hq3, hl3⟩ := H11.out.r3
        refine (clean_calls _ q3 _ hq3 hl3).mono ?_
        rintro e w9 ⟨rfl, hb9⟩
        have HB9 := Lib.hid (HB8.out.trans (hb9.mono HB8.out.size))
        clear hb9 H11 HB8 hq3 hl3
        go_wp2_with fail
        refine (Go.Ev.awake_calls _).mono ?_
        rintro e w10 ⟨rfl, hb10⟩
        have HB10 := Lib.hid (HB9.out.trans (hb10.mono HB9.out.size))
        clear hb10 HB9
        go_wp2
        go_ret
        exact ⟨rfl, HB10.out⟩
      · have p1 := side_bbo vb vo b o w hb ho kb ko
        have p2 := fun w1 (h : Below w.heap.size w w1) => side_bob vb vo b o w1 (hb.below h) (ho.below h) kb ko
        have p3 := fun w1 (h : Below w.heap.size w w1) => side_boo vb vo b o w1 (hb.below h) (ho.below h) kb ko
        generalize chk2 b o = x at *
        go_enter Tryz.func3, Tryz.ntmps3
        go_wp2_with fail
        refine pl.mono ?_
        rintro e w1 ⟨rfl, rfl⟩
        go_wp2_with fail
        refine pm.mono ?_
        rintro e w1 ⟨rfl, rfl⟩
        go_wp2_with fail
        refine p1.mono ?_
        rintro e w1 ⟨hb1, ⟨_, rfl⟩ | ⟨h, _⟩⟩
        rotate_left
        · exact absurd h hx
        have HB1 := Lib.hid hb1
        clear hb1
        go_wp2_with fail
        refine (p2 _ HB1.out).mono ?_
        rintro e w2 ⟨hb2, ⟨_, rfl⟩ | ⟨h, _⟩⟩
        rotate_left
        · exact absurd h hx
        have HB2 := Lib.hid (HB1.out.trans (hb2.mono HB1.out.size))
        clear hb2
        go_wp2_with fail
        refine (p3 _ HB2.out).mono ?_
        rintro e w3 ⟨hb3, ⟨_, rfl⟩ | ⟨h, _⟩⟩
        rotate_left
        · exact absurd h hx
        have HB3 := Lib.hid (HB2.out.trans (hb3.mono HB2.out.size))
        clear hb3
        go_wp2_with fail
        refine (Go.Ev.awake_calls _).mono ?_
        rintro e w10 ⟨rfl, hb10⟩
        have HB10 := Lib.hid (HB3.out.trans (hb10.mono HB3.out.size))
        clear hb10
        go_wp2
        go_ret
        exact ⟨rfl, HB10.out⟩
    · have c2 : littleB o = false := by simpa using c2
      rw [c2] at pm
      go_enter Tryz.func3, Tryz.ntmps3
      go_wp2_with fail
      refine pl.mono ?_
      rintro e w1 ⟨rfl, rfl⟩
      go_wp2_with fail
      refine pm.mono ?_
      rintro e w1 ⟨rfl, rfl⟩
      go_wp2_with fail
      refine (Go.Ev.awake_calls _).mono ?_
      rintro e w10 ⟨rfl, hb10⟩
      have HB10 := Lib.hid hb10
      clear hb10
      go_wp2
      go_ret
      exact ⟨rfl, HB10.out⟩
  · have c1 : littleB b = false := by simpa using c1
    rw [c1] at pl
    go_enter Tryz.func3, Tryz.ntmps3
    go_wp2_with fail
    refine pl.mono ?_
    rintro e w1 ⟨rfl, rfl⟩
    go_wp2_with fail
    refine (Go.Ev.awake_calls _).mono ?_
    rintro e w10 ⟨rfl, hb10⟩
    have HB10 := Lib.hid hb10
    clear hb10
    go_wp2
    go_ret
    exact ⟨rfl, HB10.out⟩
end Go.Proofs
