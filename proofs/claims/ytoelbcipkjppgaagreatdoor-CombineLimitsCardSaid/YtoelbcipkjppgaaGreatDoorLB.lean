/-
  The reference's Merge where every text is empty. Two lists of reports that read alike are the same. CombineLimits: the law's function answers true. CombineLimits: whatever the three numbers, the law's function answers true.
-/
import Derived.Test.YtoelbcipkjppgaaGreatDoorLA
import Derived.Test.YtoelbcipkjppgaaGreatDoorIB
import Derived.WalkSpells
import Derived.StillTactics
import Derived.Deep.RegionHeld3
import Derived.Deep.AppendLies
import Derived.Test.YtoelbcipkjppgaaGreatDoorCE
import Derived.Deep.QuietTactic
import Derived.BigQuiet
set_option linter.all false

namespace Go.Proofs
open Go.RowKit Go.Maps Go.MapKept
open Classical

theorem box_cells6 {w : World} {B : Nat} {x0 x1 x2 x3 x4 x5 : Value} {t : TypeId} {fz : Nat × Nat} (h : w.heap[B]? = some (.cells #[x0, x1, x2, x3, x4, x5] t fz)) :
    w.cell? ⟨B, 0, none⟩ = some x0 ∧ w.cell? ⟨B, 1, none⟩ = some x1 ∧ w.cell? ⟨B, 2, none⟩ = some x2 ∧ w.cell? ⟨B, 3, none⟩ = some x3 ∧ w.cell? ⟨B, 4, none⟩ = some x4 ∧ w.cell? ⟨B, 5, none⟩ = some x5 := by
  refine ⟨?_, ?_, ?_, ?_, ?_, ?_⟩ <;> (simp only [World.cell?, h]; rfl)

theorem textOf_empty {l : List FileT} (h : ∀ f ∈ l, f.2 = .empty) (p : ByteArray) : textOf l p = if (textOf l p).isSome = true then some .empty else none := by
  cases hx : textOf l p with
  | none => rfl
  | some y =>
    have := h _ (textOf_mem hx)
    simp only at this
    rw [this]
    rfl

theorem merge_empty {l0 l1 l2 : List FileT} (h0 : ∀ f ∈ l0, f.2 = .empty) (h1 : ∀ f ∈ l1, f.2 = .empty) (h2 : ∀ f ∈ l2, f.2 = .empty) (p : ByteArray) :
    Go.Ev.mergeO (textOf l0 p) (textOf l1 p) (textOf l2 p) = if keepB (textOf l0 p).isSome (textOf l1 p).isSome (textOf l2 p).isSome = true then some ⟨#[]⟩ else none := by
  rw [textOf_empty h0 p, textOf_empty h1 p, textOf_empty h2 p]
  generalize (textOf l0 p).isSome = i0
  generalize (textOf l1 p).isSome = i1
  generalize (textOf l2 p).isSome = i2
  unfold Go.Ev.mergeO keepB
  cases i0 <;> cases i1 <;> cases i2 <;> simp <;> rfl

theorem rentry_calls (v0 v1 v2 : Value) (l0 l1 l2 : List FileT) (w : World) (h0 : FilesVal w v0 l0) (h1 : FilesVal w v1 l1) (h2 : FilesVal w v2 l2) (n0 : l0.length ≤ 100) (n1 : l1.length ≤ 100) (n2 : l2.length ≤ 100)
    (e0 : ∀ f ∈ l0, f.2 = .empty) (e1 : ∀ f ∈ l1, f.2 = .empty) (e2 : ∀ f ∈ l2, f.2 = .empty) (o0 : Ordered l0) (o1 : Ordered l1) (o2 : Ordered l2) (p : ByteArray) :
    Calls Tryz.prog 20 #[v0, v1, v2, .string p, .slice none 0 0] w fun e w' => e = .returned (.tuple #[noentry (keepB (textOf l0 p).isSome (textOf l1 p).isSome (textOf l2 p).isSome), .int .i64 0]) ∧ Below w.heap.size w w' := by
  have key : ∀ (v : Value) (l : List FileT), FilesVal w v l → l.length ≤ 100 → (∀ f ∈ l, f.2 = .empty) → Ordered l → ∀ w', Below w.heap.size w w' → Calls Tryz.prog 22 #[v, .string p] w' fun e w'' => e = .returned (.tuple #[nostr, .bool (textOf l p).isSome]) ∧ w' = w'' := by
    intro v l hv hl he ho w' hb
    have h := rtext_calls v l p w' (hv.below hb) (by omega)
    rw [firstOf_eq ho p] at h
    have hx : (textOf l p).getD .empty = ⟨#[]⟩ := by
      rw [textOf_empty he p]
      cases (textOf l p).isSome <;> rfl
    rw [hx] at h
    exact h
  exact rentry_flags v0 v1 v2 p _ _ _ w (key v0 l0 h0 n0 e0 o0) (key v1 l1 h1 n1 e1 o1) (key v2 l2 h2 n2 e2 o2)

set_option maxHeartbeats 1000000 in
theorem rmerge_bad (v0 v1 v2 : Value) (l0 l1 l2 : List FileT) (w : World) (h0 : FilesVal w v0 l0) (h1 : FilesVal w v1 l1) (h2 : FilesVal w v2 l2) (k0 : FilesOK l0) (k1 : FilesOK l1) (k2 : FilesOK l2) (hbad : ¬ chk3 l0 l1 l2 = 0) :
    Calls Tryz.prog 7 #[v0, v1, v2, .slice none 0 0] w (Merged w l0 l1 l2) := by
  have pc := rerrors_calls v0 v1 v2 l0 l1 l2 w h0 h1 h2 k0 k1 k2
  have HFIN : Hid (∀ e w', Below w.heap.size w w' → e = .returned (.tuple #[.slice none 0 0, .slice none 0 0, .int .i64 (chk3 l0 l1 l2)]) → Merged w l0 l1 l2 e w') := Lib.hid fun e w' h1 h2 => ⟨h1, .inl ⟨hbad, h2⟩⟩
  generalize chk3 l0 l1 l2 = x at *
  go_enter Tryz.func7, Tryz.ntmps7
  go_wp2_with fail
  refine pc.mono ?_
  rintro e w1 ⟨rfl, hb⟩
  have HB1 := Lib.hid hb
  clear hb pc
  go_wp2
  go_ret3
  exact HFIN.out _ _ HB1.out rfl

set_option maxRecDepth 100000 in
set_option maxHeartbeats 4000000 in
theorem rmerge_good (v0 v1 v2 : Value) (l0 l1 l2 : List FileT) (w : World) (h0 : FilesVal w v0 l0) (h1 : FilesVal w v1 l1) (h2 : FilesVal w v2 l2) (k0 : FilesOK l0) (k1 : FilesOK l1) (k2 : FilesOK l2)
    (e0 : ∀ f ∈ l0, f.2 = .empty) (e1 : ∀ f ∈ l1, f.2 = .empty) (e2 : ∀ f ∈ l2, f.2 = .empty) (hgood : chk3 l0 l1 l2 = 0) :
    Calls Tryz.prog 7 #[v0, v1, v2, .slice none 0 0] w (Merged w l0 l1 l2) := by
  obtain ⟨g0, g1, g2⟩ := chk3_zero hgood
  have n0 := (chkE_zero g0).1
  have n1 := (chkE_zero g1).1
  have n2 := (chkE_zero g2).1
  have pc := rerrors_calls v0 v1 v2 l0 l1 l2 w h0 h1 h2 k0 k1 k2
  rw [hgood] at pc
  have HPL := Lib.hid (pathsL_length hgood)
  have HG := Lib.hid hgood
  have HME := Lib.hid (merge_empty e0 e1 e2)
  have HEN : Hid (∀ w', Below w.heap.size w w' → ∀ p, Calls Tryz.prog 20 #[v0, v1, v2, .string p, .slice none 0 0] w' fun e w'' => e = .returned (.tuple #[noentry (keepB (textOf l0 p).isSome (textOf l1 p).isSome (textOf l2 p).isSome), .int .i64 0]) ∧ Below w'.heap.size w' w'') :=
    Lib.hid fun w' hb p => rentry_calls v0 v1 v2 l0 l1 l2 w' (h0.below hb) (h1.below hb) (h2.below hb) (by omega) (by omega) (by omega) e0 e1 e2 (ordered_of (chkE_zero g0).2.2.1) (ordered_of (chkE_zero g1).2.2.1) (ordered_of (chkE_zero g2).2.2.1) p
  clear hgood g0 g1 g2 e0 e1 e2
  obtain ⟨fi, fi0, fz0, fz1, fz2⟩ := info_parts infoFile
  obtain ⟨ri, ri0, rz0, rz1, rz2⟩ := info_parts infoReport
  go_enter Tryz.func7, Tryz.ntmps7
  go_wp2_with fail
  refine pc.mono ?_
  rintro e w1 ⟨rfl, hb⟩
  have HB1 := Lib.hid hb
  clear hb pc
  have hba : Below w.heap.size w ((w1.alloc (.cells #[] 37)).alloc (.cells #[] 43)) := HB1.out.trans (((below_alloc _).mono HB1.out.size).trans ((below_alloc _).mono (by rw [size_alloc]; have := HB1.out.size; omega)))
  have HBA := Lib.hid hba
  have HF0 : Hid (((w1.alloc (.cells #[] 37)).alloc (.cells #[] 43)).ownsRow w.heap.size 37 2 (.slice (some ⟨w1.heap.size, 0, none⟩) 0 0) 0 []) := Lib.hid (World.ownsRow.alloc (World.ownsRow_lit _ _ 0 HB1.out.size (by simp [maxLen]) rfl) _)
  have HR0 : Hid (((w1.alloc (.cells #[] 37)).alloc (.cells #[] 43)).ownsRow w.heap.size 43 4 (.slice (some ⟨w1.heap.size + 1, 0, none⟩) 0 0) 0 []) := Lib.hid (by
    have h := World.ownsRow_lit (base := w.heap.size) (e := 43) (size := 4) (w1.alloc (.cells #[] 37)) #[] 0 (by rw [size_alloc]; have := HB1.out.size; omega) (by simp [maxLen]) rfl
    rw [size_alloc] at h
    exact h)
  clear hba
  go_wp2_with fail
  refine (rpaths_row v0 v1 v2 l0 l1 l2 _ (h0.below HBA.out) (h1.below HBA.out) (h2.below HBA.out) (by omega) (by omega) (by omega)).mono ?_
  rintro e w3 ⟨pv, rfl, hpv, hb⟩
  have HB3 := Lib.hid (HBA.out.trans (hb.mono HBA.out.size))
  have HPV := Lib.hid (row_mono hpv HBA.out.size)
  have HF3 := Lib.hid (World.ownsRow.kept HF0.out (below_grown hb) (.inr (fun e => by cases e)))
  have HR3 := Lib.hid (World.ownsRow.kept HR0.out (below_grown hb) (.inr (fun e => by cases e)))
  clear hb hpv HF0 HR0 HBA h0 h1 h2
  obtain ⟨pp, pcap, rfl⟩ := row_form HPV.out
  have HFIN : Hid (∀ e w', Below w.heap.size w w' → ((32 < (mergedL l0 l1 l2 (pathsL l0 l1 l2)).length ∧ e = .returned (.tuple #[.slice none 0 0, .slice none 0 0, .int .i64 3])) ∨
      (¬ 32 < (mergedL l0 l1 l2 (pathsL l0 l1 l2)).length ∧ ∃ fv rv, e = .returned (.tuple #[fv, rv, .int .i64 0]) ∧ FilesVal w' fv (mergedL l0 l1 l2 (pathsL l0 l1 l2)) ∧ RepsVal w' rv (pathsL l0 l1 l2))) → Merged w l0 l1 l2 e w') := Lib.hid (by
    rintro e w' h1 (⟨h2, h3⟩ | ⟨h2, h3⟩)
    · exact ⟨h1, .inr (.inl ⟨HG.out, h2, h3⟩)⟩
    · exact ⟨h1, .inr (.inr ⟨HG.out, h2, h3⟩)⟩)
  generalize pathsL l0 l1 l2 = P at *
  have hpl := HPL.out
  go_wp2
  go_loopw [12, 13, 15] (fun fv rv i w' => ∃ k : Nat, k ≤ P.length ∧ Below w.heap.size w w' ∧ StrRow w' w.heap.size (.slice pp P.length pcap) P ∧
      w'.ownsRow w.heap.size 37 2 fv (mergedL l0 l1 l2 (P.take k)).length ((mergedL l0 l1 l2 (P.take k)).flatMap fileCells) ∧ w'.ownsRow w.heap.size 43 4 rv k ((P.take k).flatMap repCells) ∧ i = .int .i64 k) (fun _ _ i _ => P.length - (intOf i).toNat)
  case atStart => exact ⟨0, by omega, HB3.out, HPV.out, HF3.out, HR3.out, rfl⟩
  case round =>
    rename_i wr hrel
    obtain ⟨k, hk, hbel, hps, hrf, hrr, rfl⟩ := hrel
    have HB := Lib.hid hbel
    have HPS := Lib.hid hps
    have HRF := Lib.hid hrf
    have HRR := Lib.hid hrr
    clear hbel hps hrf hrr HB3 HPV HF3 HR3
    by_cases hlt : k < P.length
    · obtain ⟨p, hp⟩ : ∃ p, P[k]? = some p := ⟨P[k], List.getElem?_eq_getElem hlt⟩
      obtain ⟨b, rfl, hbl, hcell⟩ := (strs_of_row HPS.out).at hp
      have pf := HEN.out wr HB.out p
      have HPK := Lib.hid hp
      have hml := mergedL_length l0 l1 l2 (P.take k)
      have htl : (P.take k).length ≤ P.length := List.length_take_le' ..
      have HSN := Lib.hid (mergedL_snoc (b := l0) (l := l1) (r := l2) hp)
      have HRS : Hid ((P.take (k + 1)).flatMap repCells = (P.take k).flatMap repCells ++ repCells p) := Lib.hid (by rw [List.take_add_one, HPK.out, List.flatMap_append]; rfl)
      have hmo := HME.out p
      clear hp
      generalize keepB (textOf l0 p).isSome (textOf l1 p).isSome (textOf l2 p).isSome = kp at *
      cases kp with
      | false =>
        have HSN2 : Hid (mergedL l0 l1 l2 (P.take (k + 1)) = mergedL l0 l1 l2 (P.take k)) := Lib.hid (by rw [HSN.out, hmo]; simp)
        clear hmo HSN
        generalize mergedL l0 l1 l2 (P.take k) = ml at *
        go_wp2_with fail
        refine pf.mono ?_
        rintro e w6 ⟨rfl, hb⟩
        have HB6 := Lib.hid hb
        have hcell6 := (hb.cell (p := ⟨b, k, none⟩) hbl).trans hcell
        have HR6 : Hid (w6.ownsRow w.heap.size 43 4 u13 k ((P.take k).flatMap repCells)) := Lib.hid (World.ownsRow.kept HRR.out (below_grown hb) (by rcases u13.ownBlock with _ | g; exact .inl rfl; exact .inr (by simp)))
        have HF6 : Hid (w6.ownsRow w.heap.size 37 2 u12 ml.length (ml.flatMap fileCells)) := Lib.hid (World.ownsRow.kept HRF.out (below_grown hb) (by rcases u12.ownBlock with _ | g; exact .inl rfl; exact .inr (by simp)))
        have HP6 : Hid (StrRow w6 w.heap.size (.slice (some ⟨b, 0, none⟩) P.length pcap) P) := Lib.hid (World.ownsRow.kept HPS.out (below_grown hb) (.inr (fun e => by cases e)))
        have hb5 : Hid (w.heap.size ≤ w6.heap.size) := Lib.hid (Nat.le_trans HB.out.size hb.size)
        have hn4 := Lib.hid (new_cells4 ((w6.alloc (.cells (entryCells false) 58)).alloc (.cells #[.string p, .int .i64 1, .slice none 0 0, .slice none 0 0] 43)) (.string p) (.int .i64 1) (.slice none 0 0) (.slice none 0 0) 43)
        have hbl6 : b < w6.heap.size := Nat.lt_of_lt_of_le hbl hb.size
        clear hb pf
        go_wp2_with (at_builtin; refine wpList_append_own _ rfl (.tmp 72) (.tmp 74) 27 rfl w.heap.size 43 ri _ 4 72 Tryz.underlying27 ri0 rz0 rz1 rz2 rfl (by decide) _ k ((P.take k).flatMap repCells) rfl (World.ownsRow.alloc (World.ownsRow.alloc (World.ownsRow.alloc HR6.out _) _) _) ⟨w6.heap.size + 2, 0, none⟩ 1 1 (repCells p) rfl rfl (by have := hn4.out; rw [size_alloc, size_alloc] at this; exact this) (one_rep p) (le_max (by omega)) (by omega) (by rw [size_alloc, size_alloc, size_alloc]; have := hb5.out; omega) ?_; intro v' w7 hown7 hgrow7 hnil7)
        go_roundw
        case rel =>
          refine ⟨k + 1, by omega, ?_, ?_, ?_, ?_, by go_num⟩
          · exact grown_below (HB.out.trans ((HB6.out.mono HB.out.size).trans (((below_alloc _).mono hb5.out).trans (((below_alloc _).mono (by rw [size_alloc]; have := hb5.out; omega)).trans ((below_alloc _).mono (by rw [size_alloc, size_alloc]; have := hb5.out; omega)))))) hgrow7 (own_block_ge HR6.out) (by rw [size_alloc, size_alloc, size_alloc]; have := hb5.out; omega)
          · exact World.ownsRow.kept (World.ownsRow.alloc (World.ownsRow.alloc (World.ownsRow.alloc HP6.out _) _) _) hgrow7 (rows_apart HP6.out HR6.out (by decide))
          · rw [HSN2.out]
            exact World.ownsRow.kept (World.ownsRow.alloc (World.ownsRow.alloc (World.ownsRow.alloc HF6.out _) _) _) hgrow7 (rows_apart HF6.out HR6.out (by decide))
          · rw [HRS.out]
            exact hown7
        case measure => simp [intOf]; omega
      | true =>
        have HSN2 : Hid (mergedL l0 l1 l2 (P.take (k + 1)) = mergedL l0 l1 l2 (P.take k) ++ [(p, ⟨#[]⟩)]) := Lib.hid (by rw [HSN.out, hmo]; rfl)
        clear hmo HSN
        generalize mergedL l0 l1 l2 (P.take k) = ml at *
        go_wp2_with fail
        refine pf.mono ?_
        rintro e w6 ⟨rfl, hb⟩
        have HB6 := Lib.hid hb
        have hcell6 := (hb.cell (p := ⟨b, k, none⟩) hbl).trans hcell
        have HR6 : Hid (w6.ownsRow w.heap.size 43 4 u13 k ((P.take k).flatMap repCells)) := Lib.hid (World.ownsRow.kept HRR.out (below_grown hb) (by rcases u13.ownBlock with _ | g; exact .inl rfl; exact .inr (by simp)))
        have HF6 : Hid (w6.ownsRow w.heap.size 37 2 u12 ml.length (ml.flatMap fileCells)) := Lib.hid (World.ownsRow.kept HRF.out (below_grown hb) (by rcases u12.ownBlock with _ | g; exact .inl rfl; exact .inr (by simp)))
        have HP6 : Hid (StrRow w6 w.heap.size (.slice (some ⟨b, 0, none⟩) P.length pcap) P) := Lib.hid (World.ownsRow.kept HPS.out (below_grown hb) (.inr (fun e => by cases e)))
        have hb5 : Hid (w.heap.size ≤ w6.heap.size) := Lib.hid (Nat.le_trans HB.out.size hb.size)
        have hbl6 : b < w6.heap.size := Nat.lt_of_lt_of_le hbl hb.size
        have hA1 : (w6.alloc (.cells #[.bool true, .string ⟨#[]⟩, .string ⟨#[]⟩, .int .i64 1, .slice none 0 0, .slice none 0 0] 58)).cell? ⟨b, k, none⟩ = some (.string p) := ((below_alloc (w := w6) (.cells #[.bool true, .string ⟨#[]⟩, .string ⟨#[]⟩, .int .i64 1, .slice none 0 0, .slice none 0 0] 58)).cell (p := ⟨b, k, none⟩) hbl6).trans hcell6
        have hAx : (w6.alloc (.cells #[.bool true, .string ⟨#[]⟩, .string ⟨#[]⟩, .int .i64 1, .slice none 0 0, .slice none 0 0] 58)).heap[w6.heap.size]? = some (.cells #[.bool true, .string ⟨#[]⟩, .string ⟨#[]⟩, .int .i64 1, .slice none 0 0, .slice none 0 0] 58 (0, 0)) := (MapKept.heap_alloc w6 (.cells #[.bool true, .string ⟨#[]⟩, .string ⟨#[]⟩, .int .i64 1, .slice none 0 0, .slice none 0 0] 58)).1
        have hA2 : (w6.alloc (.cells #[.bool true, .string ⟨#[]⟩, .string ⟨#[]⟩, .int .i64 1, .slice none 0 0, .slice none 0 0] 58)).cell? ⟨w6.heap.size, 1, none⟩ = some (.string ⟨#[]⟩) := by simp only [World.cell?, hAx]; rfl
        have HAX := Lib.hid hAx
        have HFX := Lib.hid (World.ownsRow.alloc HF6.out (.cells #[.bool true, .string ⟨#[]⟩, .string ⟨#[]⟩, .int .i64 1, .slice none 0 0, .slice none 0 0] 58))
        have HRX := Lib.hid (World.ownsRow.alloc HR6.out (.cells #[.bool true, .string ⟨#[]⟩, .string ⟨#[]⟩, .int .i64 1, .slice none 0 0, .slice none 0 0] 58))
        have HPX := Lib.hid (World.ownsRow.alloc HP6.out (.cells #[.bool true, .string ⟨#[]⟩, .string ⟨#[]⟩, .int .i64 1, .slice none 0 0, .slice none 0 0] 58))
        have HBX := Lib.hid (HB.out.trans ((HB6.out.mono HB.out.size).trans ((below_alloc (.cells #[.bool true, .string ⟨#[]⟩, .string ⟨#[]⟩, .int .i64 1, .slice none 0 0, .slice none 0 0] 58)).mono hb5.out)))
        have hne1 : u12.ownBlock ≠ some b := by
          rcases rows_apart HF6.out HP6.out (by decide) with h | h
          · rw [h]; intro e; cases e
          · exact h
        have hne2 : u12.ownBlock ≠ some w6.heap.size := fun e => by have := (World.ownsRow.lt HF6.out _ e).2; omega
        have hsx : (w6.alloc (.cells #[.bool true, .string ⟨#[]⟩, .string ⟨#[]⟩, .int .i64 1, .slice none 0 0, .slice none 0 0] 58)).heap.size = w6.heap.size + 1 := size_alloc _ _
        clear hb pf hAx hcell6 hcell
        go_wp2_with fail
        generalize hwx : w6.alloc (.cells #[.bool true, .string ⟨#[]⟩, .string ⟨#[]⟩, .int .i64 1, .slice none 0 0, .slice none 0 0] 58) = wx at *
        clear hwx
        have HSX := Lib.hid hsx
        have hble : w6.heap.size < wx.heap.size := by omega
        have hbb : b < wx.heap.size := by omega
        clear hsx
        have hk0 : (0 : Int) ≤ (k : Int) := Int.natCast_nonneg _
        have hk1 : (k : Int) < (P.length : Int) := by omega
        go_region_held3 (fun w' => w'.cell? ⟨b, k, none⟩ = some (.string p) ∧ w'.cell? ⟨w6.heap.size, 1, none⟩ = some (.string ⟨#[]⟩))
          (first
            | go_keep
            | (go_split_ands
               refine ⟨?_, ?_⟩
               · (rw [hgrow.cell_far _ (by simp; omega) (Ne.symm hne1)]; assumption)
               · (rw [hgrow.cell_far _ (by simp; omega) (Ne.symm hne2)]; assumption)))
          ((refine step_append_lies _ (by rfl) _ _ _ (by rfl) w.heap.size 37 fi _ 2 32 Tryz.underlying23 fi0 fz0 fz1 fz2 rfl (by omega) u12 ml.length (ml.flatMap fileCells) (by rfl) ((HFX.out.alloc _).drew)
              ⟨wx.heap.size, 0, none⟩ 1 1 [.string p, .string ⟨#[]⟩] (by rfl) (by rfl) (World.news_of_block (cs := #[.string p, .string ⟨#[]⟩]) (t := 37) (fr := (0, 0)) (heap_alloc_new wx _)) (by simp [Value.oneCell'])
              (by omega) (le_max (by omega)) (by omega) (by simp; have := hb5.out; have := HSX.out; omega) (wx.heap.size + 1) (by simp) ?_; intro gg cap w7 hown7 hgrow hat hlt7))
        have hcell7 : w7.cell? ⟨b, k, none⟩ = some (.string p) := by
          rename_i hS
          exact hS.1
        have hX7 : w7.heap[w6.heap.size]? = some (.cells #[.bool true, .string ⟨#[]⟩, .string ⟨#[]⟩, .int .i64 1, .slice none 0 0, .slice none 0 0] 58 (0, 0)) := by
          refine (hgrow.block w6.heap.size ?_ (Ne.symm hne2)).trans ?_
          · show w6.heap.size < (wx.alloc (.cells #[.string p, .string ⟨#[]⟩] 37)).heap.size
            rw [size_alloc]; omega
          · exact ((below_alloc (w := wx) (.cells #[.string p, .string ⟨#[]⟩] 37)).block w6.heap.size hble).trans HAX.out
        obtain ⟨q0, q1, q2, q3, q4, q5⟩ := box_cells6 hX7
        have HF7 := Lib.hid hown7
        have HR7 := Lib.hid (World.ownsRow.kept ((World.ownsRow.alloc HRX.out (.cells #[.string p, .string ⟨#[]⟩] 37)).drew) hgrow (rows_apart HR6.out HF6.out (by decide)))
        have HP7 := Lib.hid (World.ownsRow.kept ((World.ownsRow.alloc HPX.out (.cells #[.string p, .string ⟨#[]⟩] 37)).drew) hgrow (rows_apart HP6.out HF6.out (by decide)))
        have hs7 : w.heap.size ≤ w7.heap.size := by
          have h1 := hgrow.size
          have h2 : (wx.alloc (.cells #[.string p, .string ⟨#[]⟩] 37)).heap.size ≤ w7.heap.size := h1
          rw [size_alloc] at h2
          have := hb5.out
          omega
        have hx7 : w6.heap.size < w7.heap.size := by
          have h1 := hgrow.size
          have h2 : (wx.alloc (.cells #[.string p, .string ⟨#[]⟩] 37)).heap.size ≤ w7.heap.size := h1
          rw [size_alloc] at h2
          omega
        have hb7 : b < w7.heap.size := by omega
        have hBd : Below w.heap.size w (wx.alloc (.cells #[.string p, .string ⟨#[]⟩] 37)).drew := by
          have h := HBX.out.trans ((below_alloc (w := wx) (.cells #[.string p, .string ⟨#[]⟩] 37)).mono (by have := hb5.out; omega))
          exact ⟨h.os, h.tape, h.output, h.size, fun k hk => h.block k hk⟩
        have HB7 := Lib.hid (grown_below hBd hgrow (own_block_ge HF6.out) (by
          show w.heap.size ≤ (wx.alloc (.cells #[.string p, .string ⟨#[]⟩] 37)).heap.size
          rw [size_alloc]
          have := hb5.out
          omega))
        have HS7 := Lib.hid hs7
        have hn4 := Lib.hid (new_cells4 (w7.alloc (.cells #[.string p, .int .i64 1, .slice none 0 0, .slice none 0 0] 43)) (.string p) (.int .i64 1) (.slice none 0 0) (.slice none 0 0) 43)
        clear hs7 hBd hX7 hgrow hown7 hA1 hA2 hat hlt7 HBX HPX HRX HFX HAX hne1 hne2 hble hbb
        go_wp2_with (at_builtin; refine wpList_append_own _ rfl (.tmp 72) (.tmp 74) 27 rfl w.heap.size 43 ri _ 4 72 Tryz.underlying27 ri0 rz0 rz1 rz2 rfl (by decide) _ k ((P.take k).flatMap repCells) rfl (World.ownsRow.alloc (World.ownsRow.alloc HR7.out _) _) ⟨w7.heap.size + 1, 0, none⟩ 1 1 (repCells p) rfl rfl (by have := hn4.out; rw [size_alloc] at this; exact this) (one_rep p) (le_max (by omega)) (by omega) (by rw [size_alloc, size_alloc]; have := HS7.out; omega) ?_; intro v8 w8 hown8 hgrow8 hnil8)
        go_roundw
        case rel =>
          refine ⟨k + 1, by omega, ?_, ?_, ?_, ?_, by go_num⟩
          · exact grown_below (HB7.out.trans (((below_alloc _).mono HS7.out).trans ((below_alloc _).mono (by rw [size_alloc]; have := HS7.out; omega)))) hgrow8 (own_block_ge HR7.out) (by rw [size_alloc, size_alloc]; have := HS7.out; omega)
          · exact World.ownsRow.kept (World.ownsRow.alloc (World.ownsRow.alloc HP7.out _) _) hgrow8 (rows_apart HP7.out HR7.out (by decide))
          · rw [HSN2.out, List.length_append, List.flatMap_append]
            have := World.ownsRow.kept (World.ownsRow.alloc (World.ownsRow.alloc HF7.out _) _) hgrow8 (rows_apart HF7.out HR7.out (by decide))
            simpa [fileCells] using this
          · rw [HRS.out]
            exact hown8
        case measure => simp [intOf]; omega
    · have hkl : k = P.length := by omega
      subst hkl
      have hfr := HRF.out
      have hrr := HRR.out
      rw [List.take_length] at hfr hrr
      clear HRF HRR HPS
      have hff := Lib.hid (files_of_row hfr)
      have hrv := Lib.hid (reps_of_row hrr)
      obtain ⟨fa, fc, rfl⟩ := row_form hfr
      have hpost : Hid (∀ e, (32 < (mergedL l0 l1 l2 P).length ∧ e = .returned (.tuple #[.slice none 0 0, .slice none 0 0, .int .i64 3])) ∨ (¬ 32 < (mergedL l0 l1 l2 P).length ∧ e = .returned (.tuple #[.slice fa (mergedL l0 l1 l2 P).length fc, u13, .int .i64 0])) → Merged w l0 l1 l2 e wr) := Lib.hid (by
        rintro e (⟨h1, h2⟩ | ⟨h1, h2⟩)
        · exact HFIN.out _ _ HB.out (.inl ⟨h1, h2⟩)
        · exact HFIN.out _ _ HB.out (.inr ⟨h1, _, _, h2, hff.out, hrv.out⟩))
      have hml := mergedL_length l0 l1 l2 P
      clear hfr hrr hff hrv
      generalize (mergedL l0 l1 l2 P).length = n at *
      by_cases h32 : 32 < n
      · go_wp2
        go_ret3
        exact hpost.out _ (.inl ⟨h32, rfl⟩)
      · go_wp2
        go_ret3
        exact hpost.out _ (.inr ⟨h32, rfl⟩)

theorem rmerge_calls (v0 v1 v2 : Value) (l0 l1 l2 : List FileT) (w : World) (h0 : FilesVal w v0 l0) (h1 : FilesVal w v1 l1) (h2 : FilesVal w v2 l2) (k0 : FilesOK l0) (k1 : FilesOK l1) (k2 : FilesOK l2)
    (e0 : ∀ f ∈ l0, f.2 = .empty) (e1 : ∀ f ∈ l1, f.2 = .empty) (e2 : ∀ f ∈ l2, f.2 = .empty) :
    Calls Tryz.prog 7 #[v0, v1, v2, .slice none 0 0] w (Merged w l0 l1 l2) := by
  by_cases h : chk3 l0 l1 l2 = 0
  · exact rmerge_good v0 v1 v2 l0 l1 l2 w h0 h1 h2 k0 k1 k2 e0 e1 e2 h
  · exact rmerge_bad v0 v1 v2 l0 l1 l2 w h0 h1 h2 k0 k1 k2 h
end Go.Proofs

namespace Go.Proofs
open Go.RowKit Go.Maps Go.MapKept
open Classical

set_option maxHeartbeats 1000000 in
theorem r35same_nil (w : World) : Calls Tryz.prog 23 #[.slice none 0 0, .slice none 0 0] w fun e w' => e = .returned (.bool true) ∧ w' = w := by
  go_enter Tryz.func23, Tryz.ntmps23
  go_wp2
  refine wp_loop_rounds 1 ?_
  rw [rounds_succ]
  go_wp2
  go_ret
  exact ⟨rfl, rfl⟩

set_option maxRecDepth 100000 in
set_option maxHeartbeats 2000000 in
theorem samereports_calls (v1 v2 : Value) (ps : List ByteArray) (w : World) (h1 : RepsVal w v1 ps) (h2 : RepsVal w v2 ps) (hll : ps.length ≤ 9223372036854775807) :
    Calls Tryz.prog 11 #[v1, v2] w fun e w' => e = .returned (.bool true) ∧ Below w.heap.size w w' := by
  obtain ⟨a1, c1, rfl⟩ : ∃ a c, v1 = .slice a ps.length c := by
    rcases h1 with ⟨rfl, rfl⟩ | ⟨b, cap, rfl, _⟩ <;> exact ⟨_, _, rfl⟩
  obtain ⟨a2, c2, rfl⟩ : ∃ a c, v2 = .slice a ps.length c := by
    rcases h2 with ⟨rfl, rfl⟩ | ⟨b, cap, rfl, _⟩ <;> exact ⟨_, _, rfl⟩
  go_enter Tryz.func11, Tryz.ntmps11
  go_wp2
  go_loopw [5] (fun i w' => ∃ k : Nat, k ≤ ps.length ∧ Below w.heap.size w w' ∧ i = .int .i64 k) (fun i _ => ps.length - (intOf i).toNat)
  case atStart => exact ⟨0, by omega, Below.refl _ _, rfl⟩
  case round =>
    rename_i wr hrel
    obtain ⟨k, hk, hbel, rfl⟩ := hrel
    have HB := Lib.hid hbel
    have hr1 := h1.below hbel
    have hr2 := h2.below hbel
    clear hbel
    by_cases hlt : k < ps.length
    · obtain ⟨p, hp⟩ : ∃ p, ps[k]? = some p := ⟨ps[k], List.getElem?_eq_getElem hlt⟩
      obtain ⟨b1, rfl, d0, d1, d2, d3⟩ : ∃ b, a1 = some ⟨b, 0, none⟩ ∧ wr.cell? ⟨b, k * 4, none⟩ = some (.string p) ∧ wr.cell? ⟨b, k * 4 + 1, none⟩ = some (.int .i64 1) ∧ wr.cell? ⟨b, k * 4 + 2, none⟩ = some (.slice none 0 0) ∧ wr.cell? ⟨b, k * 4 + 3, none⟩ = some (.slice none 0 0) := by
        rcases hr1 with ⟨_, hn⟩ | ⟨b, cap, e, hlt, hc⟩
        · subst hn; simp at hlt
        · cases e; exact ⟨b, rfl, hc k p hp⟩
      obtain ⟨b2, rfl, f0, f1, f2, f3⟩ : ∃ b, a2 = some ⟨b, 0, none⟩ ∧ wr.cell? ⟨b, k * 4, none⟩ = some (.string p) ∧ wr.cell? ⟨b, k * 4 + 1, none⟩ = some (.int .i64 1) ∧ wr.cell? ⟨b, k * 4 + 2, none⟩ = some (.slice none 0 0) ∧ wr.cell? ⟨b, k * 4 + 3, none⟩ = some (.slice none 0 0) := by
        rcases hr2 with ⟨_, hn⟩ | ⟨b, cap, e, hlt, hc⟩
        · subst hn; simp at hlt
        · cases e; exact ⟨b, rfl, hc k p hp⟩
      clear hp h1 h2 hr1 hr2
      go_wp2
      go_quiet ((go_at_call 23; exact Calls.quiet_of_same (r35same_nil _)))
      go_wp2
      refine wp_loop_rounds 1 ?_
      rw [rounds_succ]
      go_wp2
      go_roundw
      case rel => exact ⟨k + 1, by omega, below_drewN HB.out, by go_num⟩
      case measure => simp [intOf]; omega
    · go_wp2
      go_ret
      exact ⟨rfl, HB.out⟩
end Go.Proofs

namespace Go.Proofs
open Go.RowKit Go.Maps Go.MapKept
open Classical

/-- Three versions in a variable. -/
structure Box (w0 w : World) (b : Nat) (v0 v1 v2 : Value) (l0 l1 l2 : List FileT) : Prop where
  bel : Below w0.heap.size w0 w
  lt : b < w.heap.size
  c0 : w.cell? ⟨b, 0, none⟩ = some v0
  c1 : w.cell? ⟨b, 1, none⟩ = some v1
  c2 : w.cell? ⟨b, 2, none⟩ = some v2
  f0 : FilesVal w v0 l0
  f1 : FilesVal w v1 l1
  f2 : FilesVal w v2 l2
theorem Box.below {w0 w w' : World} {b : Nat} {v0 v1 v2 : Value} {l0 l1 l2 : List FileT} (h : Box w0 w b v0 v1 v2 l0 l1 l2) (hb : Below w.heap.size w w') : Box w0 w' b v0 v1 v2 l0 l1 l2 :=
  ⟨h.bel.trans (hb.mono h.bel.size), Nat.lt_of_lt_of_le h.lt hb.size, (hb.cell (p := ⟨b, 0, none⟩) h.lt).trans h.c0, (hb.cell (p := ⟨b, 1, none⟩) h.lt).trans h.c1, (hb.cell (p := ⟨b, 2, none⟩) h.lt).trans h.c2, h.f0.below hb, h.f1.below hb, h.f2.below hb⟩
theorem Box.new {w : World} {v0 v1 v2 : Value} {l0 l1 l2 : List FileT} (h0 : FilesVal w v0 l0) (h1 : FilesVal w v1 l1) (h2 : FilesVal w v2 l2) : Box w (w.alloc (.cells #[v0, v1, v2] 26)) w.heap.size v0 v1 v2 l0 l1 l2 := by
  have hba := below_alloc (w := w) (.cells #[v0, v1, v2] 26)
  have hx := (MapKept.heap_alloc w (.cells #[v0, v1, v2] 26)).1
  refine ⟨hba, by simp, ?_, ?_, ?_, h0.below hba, h1.below hba, h2.below hba⟩ <;> (simp only [World.cell?, hx]; rfl)


/-- What a merge returns. -/
noncomputable def mx (l0 l1 l2 : List FileT) : Int := if chk3 l0 l1 l2 = 0 then if 32 < (mergedL l0 l1 l2 (pathsL l0 l1 l2)).length then 3 else 0 else chk3 l0 l1 l2
noncomputable def mfl (l0 l1 l2 : List FileT) : List FileT := if chk3 l0 l1 l2 = 0 ∧ ¬ 32 < (mergedL l0 l1 l2 (pathsL l0 l1 l2)).length then mergedL l0 l1 l2 (pathsL l0 l1 l2) else []
noncomputable def mrl (l0 l1 l2 : List FileT) : List ByteArray := if chk3 l0 l1 l2 = 0 ∧ ¬ 32 < (mergedL l0 l1 l2 (pathsL l0 l1 l2)).length then pathsL l0 l1 l2 else []
theorem mlen (l0 l1 l2 : List FileT) : (mfl l0 l1 l2).length ≤ 100 ∧ (mrl l0 l1 l2).length ≤ 100 := by
  unfold mfl mrl
  by_cases h : chk3 l0 l1 l2 = 0 ∧ ¬ 32 < (mergedL l0 l1 l2 (pathsL l0 l1 l2)).length
  · rw [if_pos h, if_pos h]
    have := pathsL_length h.1
    omega
  · rw [if_neg h, if_neg h]
    simp
theorem merged_form {w w' : World} {l0 l1 l2 : List FileT} {e : Ending} (h : Merged w l0 l1 l2 e w') :
    ∃ fv rv, e = .returned (.tuple #[fv, rv, .int .i64 (mx l0 l1 l2)]) ∧ FilesVal w' fv (mfl l0 l1 l2) ∧ RepsVal w' rv (mrl l0 l1 l2) ∧ Below w.heap.size w w' := by
  obtain ⟨hb, ⟨h1, h2⟩ | ⟨h1, h2, h3⟩ | ⟨h1, h2, fv, rv, h3, h4, h5⟩⟩ := h
  · refine ⟨_, _, ?_, .inl ⟨rfl, ?_⟩, .inl ⟨rfl, ?_⟩, hb⟩
    · rw [h2]; unfold mx; rw [if_neg h1]
    · unfold mfl; rw [if_neg (fun h => h1 h.1)]
    · unfold mrl; rw [if_neg (fun h => h1 h.1)]
  · refine ⟨_, _, ?_, .inl ⟨rfl, ?_⟩, .inl ⟨rfl, ?_⟩, hb⟩
    · rw [h3]; unfold mx; rw [if_pos h1, if_pos h2]
    · unfold mfl; rw [if_neg (fun h => h.2 h2)]
    · unfold mrl; rw [if_neg (fun h => h.2 h2)]
  · refine ⟨fv, rv, ?_, ?_, ?_, hb⟩
    · rw [h3]; unfold mx; rw [if_pos h1, if_neg h2]
    · unfold mfl; rw [if_pos ⟨h1, h2⟩]; exact h4
    · unfold mrl; rw [if_pos ⟨h1, h2⟩]; exact h5
noncomputable def ib (l0 l1 l2 : List FileT) : Bool := if chk3 l0 l1 l2 = 0 then indepB l0 l1 l2 else false
theorem indep_form {w w' : World} {l0 l1 l2 : List FileT} {e : Ending} (h : Indep w l0 l1 l2 e w') : e = .returned (.tuple #[.bool (ib l0 l1 l2), .int .i64 (chk3 l0 l1 l2)]) ∧ Below w.heap.size w w' := by
  obtain ⟨hb, ⟨h1, h2⟩ | ⟨h1, h2⟩⟩ := h
  · refine ⟨?_, hb⟩
    rw [h2]; unfold ib; rw [if_neg h1]
  · refine ⟨?_, hb⟩
    rw [h2]; unfold ib; rw [if_pos h1, h1]
theorem hor_empty {l0 l1 l2 : List FileT} (h0 : ∀ f ∈ l0, f.2 = .empty) (h1 : ∀ f ∈ l1, f.2 = .empty) (h2 : ∀ f ∈ l2, f.2 = .empty) (p : ByteArray) :
    textOf l1 p = textOf l0 p ∨ textOf l2 p = textOf l0 p ∨ textOf l1 p = textOf l2 p := by
  rw [textOf_empty h0 p, textOf_empty h1 p, textOf_empty h2 p]
  cases (textOf l0 p).isSome <;> cases (textOf l1 p).isSome <;> cases (textOf l2 p).isSome <;> simp

theorem RepsVal.belowR {w wr : World} {v : Value} {l : List ByteArray} (h : RepsVal w v l) (hb : Below w.heap.size w wr) : RepsVal wr v l := h.below hb

/-- What the law has gathered. -/
structure Got (w0 w : World) (f1 r1 f2 r2 : Value) (fl : List FileT) (rl : List ByteArray) : Prop where
  bel : Below w0.heap.size w0 w
  f1 : FilesVal w f1 fl
  r1 : RepsVal w r1 rl
  f2 : FilesVal w f2 fl
  r2 : RepsVal w r2 rl
theorem Got.below {w0 w w' : World} {f1 r1 f2 r2 : Value} {fl : List FileT} {rl : List ByteArray} (h : Got w0 w f1 r1 f2 r2 fl rl) (hb : Below w.heap.size w w') : Got w0 w' f1 r1 f2 r2 fl rl :=
  ⟨h.bel.trans (hb.mono h.bel.size), h.f1.below hb, h.r1.below hb, h.f2.below hb, h.r2.below hb⟩

set_option maxRecDepth 100000 in
set_option maxHeartbeats 4000000 in
theorem limits_main (a b c : Nat) (ha : a ≤ 70) (hb : b ≤ 70) (hc : c ≤ 70) (w : World) :
    Calls Tryz.prog 3 #[.int .u8 a, .int .u8 b, .int .u8 c] w fun e w' => e = .returned (.bool true) ∧ Below w.heap.size w w' := by
  go_enter Tryz.func3, Tryz.ntmps3
  go_wp2_with fail
  refine (many_calls a 0 ha (by omega) _).mono ?_
  rintro e w1 ⟨v0, l0, rfl, hf0, k0, e0, hbel⟩
  obtain ⟨p0, q0, rfl⟩ := hf0.slice
  have HB1 := Lib.hid hbel
  have HF0 := Lib.hid hf0
  clear hbel hf0
  go_wp2_with fail
  refine (many_calls b 20 hb (by omega) _).mono ?_
  rintro e w2 ⟨v1, l1, rfl, hf1, k1, e1, hbel⟩
  obtain ⟨p1, q1, rfl⟩ := hf1.slice
  have HB2 := Lib.hid (HB1.out.trans (hbel.mono HB1.out.size))
  have HF0' := Lib.hid (HF0.out.below hbel)
  have HF1 := Lib.hid hf1
  clear hbel hf1 HF0
  go_wp2_with fail
  refine (many_calls c 40 hc (by omega) _).mono ?_
  rintro e w3 ⟨v2, l2, rfl, hf2, k2, e2, hbel⟩
  obtain ⟨p2, q2, rfl⟩ := hf2.slice
  have HB3 := Lib.hid (HB2.out.trans (hbel.mono HB2.out.size))
  have HX := Lib.hid (Box.new (HF0'.out.below hbel) (HF1.out.below hbel) hf2)
  have HBB := Lib.hid (HB3.out.trans (HX.out.bel.mono HB3.out.size))
  have HX1 : Hid (Box w (w3.alloc (.cells #[(.slice p0 l0.length q0), (.slice p1 l1.length q1), (.slice p2 l2.length q2)] 26)) w3.heap.size (.slice p0 l0.length q0) (.slice p1 l1.length q1) (.slice p2 l2.length q2) l0 l1 l2) := Lib.hid ⟨HBB.out, HX.out.lt, HX.out.c0, HX.out.c1, HX.out.c2, HX.out.f0, HX.out.f1, HX.out.f2⟩
  have HLEN := Lib.hid (mlen l0 l1 l2)
  clear hbel hf2 HF0' HF1 HX HB1 HB2 HB3 ha hb hc
  go_wp2_with fail
  refine (merge_calls (.slice p0 l0.length q0) (.slice p1 l1.length q1) (.slice p2 l2.length q2) l0 l1 l2 _ HX1.out.f0 HX1.out.f1 HX1.out.f2 k0 k1 k2 (hor_empty e0 e1 e2)).mono ?_
  intro e w4 he
  obtain ⟨f1, r1, rfl, hff1, hrr1, hbel⟩ := merged_form he
  have HX2 := Lib.hid (HX1.out.below hbel)
  have HFF1 := Lib.hid hff1
  have HRR1 := Lib.hid hrr1
  clear he hbel hff1 hrr1 HX1
  have c0 := HX2.out.c0
  have c1 := HX2.out.c1
  have c2 := HX2.out.c2
  go_wp2_with fail
  refine (rmerge_calls (.slice p0 l0.length q0) (.slice p1 l1.length q1) (.slice p2 l2.length q2) l0 l1 l2 _ HX2.out.f0 HX2.out.f1 HX2.out.f2 k0 k1 k2 e0 e1 e2).mono ?_
  intro e w5 he
  obtain ⟨f2, r2, rfl, hff2, hrr2, hbel⟩ := merged_form he
  have HX3 := Lib.hid (HX2.out.below hbel)
  have HG := Lib.hid (Got.mk HX3.out.bel (HFF1.out.below hbel) (HRR1.out.below hbel) hff2 hrr2)
  clear he hbel hff2 hrr2 HX2 HFF1 HRR1 c0 c1 c2
  have c0 := HX3.out.c0
  have c1 := HX3.out.c1
  have c2 := HX3.out.c2
  go_wp2_with fail
  refine (cindep_calls (.slice p0 l0.length q0) (.slice p1 l1.length q1) (.slice p2 l2.length q2) l0 l1 l2 _ HX3.out.f0 HX3.out.f1 HX3.out.f2 k0 k1 k2).mono ?_
  intro e w6 he
  obtain ⟨rfl, hbel⟩ := indep_form he
  have HX4 := Lib.hid (HX3.out.below hbel)
  have HG2 := Lib.hid (HG.out.below hbel)
  clear he hbel HX3 HG c0 c1 c2
  have c0 := HX4.out.c0
  have c1 := HX4.out.c1
  have c2 := HX4.out.c2
  go_wp2_with fail
  refine (rindep_calls (.slice p0 l0.length q0) (.slice p1 l1.length q1) (.slice p2 l2.length q2) l0 l1 l2 _ HX4.out.f0 HX4.out.f1 HX4.out.f2 k0 k1 k2).mono ?_
  intro e w7 he
  obtain ⟨rfl, hbel⟩ := indep_form he
  have HG3 := Lib.hid (HG2.out.below hbel)
  clear he hbel HX4 HG2 c0 c1 c2 k0 k1 k2 e0 e1 e2
  generalize ib l0 l1 l2 = bb at *
  generalize chk3 l0 l1 l2 = xx at *
  generalize mx l0 l1 l2 = yy at *
  generalize mfl l0 l1 l2 = fl at *
  generalize mrl l0 l1 l2 = rl at *
  go_wp2_with fail
  refine (samefiles_calls _ _ fl _ HG3.out.f1 HG3.out.f2 (by have := HLEN.out.1; omega)).mono ?_
  rintro e w8 ⟨rfl, hbel⟩
  have HG4 := Lib.hid (HG3.out.below hbel)
  clear hbel HG3
  go_wp2_with fail
  refine (samereports_calls _ _ rl _ HG4.out.r1 HG4.out.r2 (by have := HLEN.out.2; omega)).mono ?_
  rintro e w9 ⟨rfl, hbel⟩
  have HG5 := Lib.hid (HG4.out.below hbel)
  clear hbel HG4
  cases bb
  all_goals
    go_wp2_with fail
    refine (Go.Ev.awake_calls _).mono ?_
    rintro e w10 ⟨rfl, hb10⟩
    have HB10 := Lib.hid (HG5.out.bel.trans (hb10.mono HG5.out.bel.size))
    clear hb10
    go_wp2
    go_ret
    exact ⟨rfl, HB10.out⟩
end Go.Proofs

namespace Go.Proofs
open Go.RowKit Go.Maps Go.MapKept
open Classical

set_option maxRecDepth 100000 in
set_option maxHeartbeats 1000000 in
theorem limits_awake (a b c : Nat) (ha : a ≤ 255) (hb : b ≤ 255) (hc : c ≤ 255) (h : 70 < a ∨ (¬ 70 < a ∧ 70 < b) ∨ (¬ 70 < a ∧ ¬ 70 < b ∧ 70 < c)) (w : World) :
    Calls Tryz.prog 3 #[.int .u8 a, .int .u8 b, .int .u8 c] w fun e w' => e = .returned (.bool true) ∧ Below w.heap.size w w' := by
  rcases h with h | ⟨h1, h⟩ | ⟨h1, h2, h⟩
  all_goals
    go_enter Tryz.func3, Tryz.ntmps3
    go_wp2_with fail
    refine (Go.Ev.awake_calls _).mono ?_
    rintro e w10 ⟨rfl, hb10⟩
    have HB10 := Lib.hid hb10
    clear hb10
    go_wp2
    go_ret
    exact ⟨rfl, HB10.out⟩

theorem limits_calls (a b c : Nat) (ha : a ≤ 255) (hb : b ≤ 255) (hc : c ≤ 255) (w : World) :
    Calls Tryz.prog 3 #[.int .u8 a, .int .u8 b, .int .u8 c] w fun e w' => e = .returned (.bool true) ∧ Below w.heap.size w w' := by
  by_cases h1 : 70 < a
  · exact limits_awake a b c ha hb hc (.inl h1) w
  by_cases h2 : 70 < b
  · exact limits_awake a b c ha hb hc (.inr (.inl ⟨h1, h2⟩)) w
  by_cases h3 : 70 < c
  · exact limits_awake a b c ha hb hc (.inr (.inr ⟨h1, h2, h3⟩)) w
  · exact limits_main a b c (by omega) (by omega) (by omega) w
end Go.Proofs
