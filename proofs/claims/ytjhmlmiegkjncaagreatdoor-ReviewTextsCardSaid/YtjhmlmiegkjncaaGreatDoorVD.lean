/-
  review.Views where at most one file has changed.
-/
import Derived.Test.YtjhmlmiegkjncaaGreatDoorVC
import Derived.Test.YtjhmlmiegkjncaaGreatDoorRE
set_option linter.all false

namespace Go.Proofs
open Go.RowKit Go.Shelf Go.Maps
open Classical
attribute [local go_sem] Oper.semAt_some

/-- A list of at most one view. -/
def Res {α : Type} (V : ViewT) (ds : List α) (res : Value) (W : World) : Prop :=
  (ds = [] ∧ res = .slice none 0 0) ∨ (ds ≠ [] ∧ ∃ g c lv, res = .slice (some ⟨g, 0, none⟩) 1 c ∧ g < W.heap.size ∧ ViewAt W g 0 { V with lv := lv })

theorem ViewAt.own {V : ViewT} {W W' : World} {g o : Nat} {row : Option Nat} (h : ViewAt W g o V) (hg : W.grownBy W' row) (hr : ∀ r, row = some r → ∃ o : Obj, W.heap[r]? = some o ∧ o.isCells = false) : ViewAt W' g o V := by
  obtain ⟨h0, h1, h2, h3, h4, h5, h6, h7, h8⟩ := h
  refine ⟨cell_kept h0 hg hr, cell_kept h1 hg hr, cell_kept h2 hg hr, cell_kept h3 hg hr, cell_kept h4 hg hr, cell_kept h5 hg hr, cell_kept h6 hg hr, cell_kept h7 hg hr, ?_⟩
  rcases h8 with h | ⟨b, off, cap, hv, hcap, hlt, hc⟩
  · exact .inl h
  · exact .inr ⟨b, off, cap, hv, hcap, Nat.lt_of_lt_of_le hlt hg.size, fun i s hs => cell_kept (hc i s hs) hg hr⟩

theorem res_own {α : Type} (V : ViewT) (bo : Nat) : Own (fun (s : List α) W => ∃ res, Boxed W bo 22 res ∧ Res V s res W) := by
  rintro s X Y row ⟨res, hb, hres⟩ hg hr
  refine ⟨res, boxed_own bo 22 (fun (_ : Unit) => res) () X Y row hb hg hr, ?_⟩
  rcases hres with h | ⟨hs, g, c, lv, e, hlt, hv⟩
  · exact .inl h
  · exact .inr ⟨hs, g, c, lv, e, Nat.lt_of_lt_of_le hlt hg.size, hv.own hg hr⟩

theorem file_own {β : Type} (Bx : Nat) (c : Array Value) (t : TypeId) : Own (fun (_ : β) W => W.heap[Bx]? = some (.cells c t (0, 0))) := by
  intro s X Y row h hg hr
  refine (hg.block Bx (Array.getElem?_eq_some_iff.1 h).1 (fun e => ?_)).trans h
  obtain ⟨o, ho, hc⟩ := hr Bx e.symm
  have h : X.heap[Bx]? = some (.cells c t (0, 0)) := h
  rw [h] at ho
  cases ho
  cases hc

theorem keepR_putObj {lo hi : Nat} (W : World) (l : Nat) (o o' : Obj) (hl : hi ≤ l) (_ : W.heap[l]? = some o) : KeepR lo hi W (W.putObj l o') :=
  ⟨by simp [World.putObj], fun k _ hk => World.putObj_heap_other (by omega)⟩

/-- What intents and hunks give at a changed file: one view. -/
def GotOne (V : ViewT) (W : World) (e : Ending) (W' : World) : Prop :=
  ∃ b off c lv, e = .returned (.tuple #[.slice (some ⟨b, off, none⟩) 1 c, .int .i64 0]) ∧ b < W'.heap.size ∧ ViewAt W' b off { V with lv := lv } ∧ Below W.heap.size W W'
def OneView (V : ViewT) (x : Diff) (W : World) : Prop :=
  Calls Tryz.prog 15 #[diffV x] W (GotOne V W) ∨
  (Calls Tryz.prog 15 #[diffV x] W (fun e W' => e = .returned (.tuple #[.slice none 0 0, .int .i64 0]) ∧ Below W.heap.size W W') ∧
   ∀ W', Below W.heap.size W W' → Calls Tryz.prog 16 #[diffV x] W' (GotOne V W'))

def viewCells (V : ViewT) : List Value := [.string V.path, .int .i64 V.k, .string V.own, .string V.nm, .string V.to, .int .i64 V.old, .int .i64 V.new, V.lv]
theorem addr_add (b o n : Nat) : (⟨b, o, none⟩ : Addr).add n = ⟨b, o + n, none⟩ := by
  unfold Addr.add
  split
  · subst_vars
    rfl
  · rfl
theorem view_cells {W : World} {b o : Nat} {V : ViewT} (h : ViewAt W b o V) : ∀ j u, (viewCells V)[j]? = some u → W.cell? ((⟨b, o, none⟩ : Addr).add j) = some u := by
  intro j u hu
  rw [addr_add]
  obtain ⟨h0, h1, h2, h3, h4, h5, h6, h7, _⟩ := h
  match j, hu with
  | 0, hu => cases hu; exact h0
  | 1, hu => cases hu; exact h1
  | 2, hu => cases hu; exact h2
  | 3, hu => cases hu; exact h3
  | 4, hu => cases hu; exact h4
  | 5, hu => cases hu; exact h5
  | 6, hu => cases hu; exact h6
  | 7, hu => cases hu; exact h7
theorem view_one {W : World} {b o : Nat} {V : ViewT} (h : ViewAt W b o V) : ∀ u ∈ viewCells V, u.oneCell' = true := by
  obtain ⟨p, c, e⟩ := h.2.2.2.2.2.2.2.2.slice
  intro u hu
  simp only [viewCells, List.mem_cons, List.not_mem_nil, or_false] at hu
  rcases hu with rfl | rfl | rfl | rfl | rfl | rfl | rfl | rfl <;> first | rfl | (rw [e]; rfl)

theorem LinesVal.set {W : World} {v u x : Value} {l : List ByteArray} {bo : Nat} {t : TypeId} (h : LinesVal W v l) (hb : Boxed W bo t u) (hu : ∀ s, u ≠ .string s) : LinesVal (W.setCell ⟨bo, 0, none⟩ x) v l := by
  rcases h with h | ⟨b, off, cap, hv, hcap, hlt, hc⟩
  · exact .inl h
  · refine .inr ⟨b, off, cap, hv, hcap, by simpa [World.setCell] using hlt, fun i s hs => ?_⟩
    have h1 := hc i s hs
    have hne : b ≠ bo := by
      rintro rfl
      simp only [World.cell?, show W.heap[b]? = _ from hb] at h1
      by_cases hz : off + i = 0
      · rw [hz] at h1
        simp at h1
        exact hu _ h1
      · have : (#[u] : Array Value)[off + i]? = none := by simp; omega
        rw [this] at h1
        simp at h1
    have e : (W.setCell ⟨bo, 0, none⟩ x).heap[b]? = W.heap[b]? := Below.heap_setCell _ _ _ b hne
    simp only [World.cell?, e] at h1 ⊢
    exact h1

theorem ViewAt.set {W : World} {u x : Value} {V : ViewT} {g o bo : Nat} {t : TypeId} (h : ViewAt W g o V) (hb : Boxed W bo t u) (hu : ∀ s, u ≠ .string s) : ViewAt (W.setCell ⟨bo, 0, none⟩ x) g o V := by
  obtain ⟨h0, h1, h2, h3, h4, h5, h6, h7, h8⟩ := h
  have hne : g ≠ bo := by
    rintro rfl
    simp only [World.cell?, show W.heap[g]? = _ from hb] at h1
    have : (#[u] : Array Value)[o + 1]? = none := by simp
    rw [this] at h1
    simp at h1
  have e : (W.setCell ⟨bo, 0, none⟩ x).heap[g]? = W.heap[g]? := Below.heap_setCell _ _ _ g hne
  have c : ∀ j, (W.setCell ⟨bo, 0, none⟩ x).cell? ⟨g, j, none⟩ = W.cell? ⟨g, j, none⟩ := fun j => by simp only [World.cell?, e]
  exact ⟨(c _).trans h0, (c _).trans h1, (c _).trans h2, (c _).trans h3, (c _).trans h4, (c _).trans h5, (c _).trans h6, (c _).trans h7, h8.set hb hu⟩

/-- The view is pushed. -/
theorem pushed {V : ViewT} {w W W' w6 : World} {lo n4 bo br be b off g c' : Nat} (hw : Below w.heap.size w W) (hb : Below W.heap.size W W') (hbo : Boxed W bo 22 (.slice none 0 0)) (hbr : Boxed W br 22 (.slice none 0 0)) (hbe : Boxed W be 36 (.int .i64 0)) (hW4 : n4 ≤ W.heap.size) (hlo : bo < lo) (hlt : bo < n4) (h1 : br < bo) (h2 : be < bo) (h3 : w.heap.size ≤ bo)
    (hv : ViewAt W' b off V) (hown : w6.ownsRow n4 28 8 (.slice (some ⟨g, 0, none⟩) 1 c') 1 (viewCells V)) (hg : W'.grownBy w6 none) :
    KeepsFrom n4 W (w6.setCell ⟨bo, 0, none⟩ (.slice (some ⟨g, 0, none⟩) 1 c')) ∧ KeepR lo n4 W (w6.setCell ⟨bo, 0, none⟩ (.slice (some ⟨g, 0, none⟩) 1 c')) ∧
    (∃ res, Boxed (w6.setCell ⟨bo, 0, none⟩ (.slice (some ⟨g, 0, none⟩) 1 c')) bo 22 res ∧ ∃ gg cc, res = .slice (some ⟨gg, 0, none⟩) 1 cc ∧ gg < (w6.setCell ⟨bo, 0, none⟩ (.slice (some ⟨g, 0, none⟩) 1 c')).heap.size ∧ ViewAt (w6.setCell ⟨bo, 0, none⟩ (.slice (some ⟨g, 0, none⟩) 1 c')) gg 0 V) ∧
    (Boxed (w6.setCell ⟨bo, 0, none⟩ (.slice (some ⟨g, 0, none⟩) 1 c')) br 22 (.slice none 0 0) ∧ Boxed (w6.setCell ⟨bo, 0, none⟩ (.slice (some ⟨g, 0, none⟩) 1 c')) be 36 (.int .i64 0)) ∧
    (Below w.heap.size w (w6.setCell ⟨bo, 0, none⟩ (.slice (some ⟨g, 0, none⟩) 1 c')) ∧ n4 ≤ (w6.setCell ⟨bo, 0, none⟩ (.slice (some ⟨g, 0, none⟩) 1 c')).heap.size) := by
  have h6 : ∀ k, k < W.heap.size → w6.heap[k]? = W.heap[k]? := fun k hk => (hg.block k (Nat.lt_of_lt_of_le hk hb.size) (by simp)).trans (hb.block k hk)
  have hsz : W.heap.size ≤ w6.heap.size := Nat.le_trans hb.size hg.size
  have hbw : Below W.heap.size W w6 := ⟨hg.os.trans hb.os, hg.tape.trans hb.tape, hg.output.trans hb.output, hsz, h6⟩
  have hbo6 : Boxed w6 bo 22 (.slice none 0 0) := (h6 bo (by omega)).trans hbo
  have hssz : (w6.setCell ⟨bo, 0, none⟩ (.slice (some ⟨g, 0, none⟩) 1 c')).heap.size = w6.heap.size := by simp [World.setCell]
  have hgl := World.ownsRow.lt hown g rfl
  have so : ∀ k, k ≠ bo → (w6.setCell ⟨bo, 0, none⟩ (.slice (some ⟨g, 0, none⟩) 1 c')).heap[k]? = w6.heap[k]? := fun k hk => Below.heap_setCell _ _ _ k hk
  refine ⟨⟨by rw [hssz]; exact hsz, fun k o hk ho hc => ?_⟩, ⟨by rw [hssz]; exact hsz, fun k hk1 hk2 => (so k (by omega)).trans (h6 k (by omega))⟩, ⟨_, hbo6.set _, g, c', rfl, by rw [hssz]; exact hgl.2, ?_⟩, ⟨(so br (by omega)).trans ((h6 br (by omega)).trans hbr), (so be (by omega)).trans ((h6 be (by omega)).trans hbe)⟩, (hw.trans (hbw.mono hw.size)).setCell (p := ⟨bo, 0, none⟩) h3 _, by rw [hssz]; omega⟩
  · exact (so k (by omega)).trans ((h6 k (Array.getElem?_eq_some_iff.1 ho).1).trans ho)
  · have cell : ∀ j u, (viewCells V)[j]? = some u → (w6.setCell ⟨bo, 0, none⟩ (.slice (some ⟨g, 0, none⟩) 1 c')).cell? ⟨g, j, none⟩ = some u := by
      intro j u hu
      have hj : j < 8 := by have := (List.getElem?_eq_some_iff.1 hu).1; simpa [viewCells] using this
      have h1 : w6.cell? ⟨g, j, none⟩ = some u := by rw [World.ownsRow.cellAt hown j (by omega)]; exact hu
      simp only [World.cell?, so g (by have := hgl.1; omega)] at h1 ⊢
      exact h1
    refine ⟨cell 0 _ rfl, cell 1 _ rfl, cell 2 _ rfl, cell 3 _ rfl, cell 4 _ rfl, cell 5 _ rfl, cell 6 _ rfl, cell 7 _ rfl, LinesVal.set ?_ hbo6 (by simp)⟩
    have hl := hv.2.2.2.2.2.2.2.2
    refine hl.below ⟨hg.os, hg.tape, hg.output, hg.size, fun k hk => hg.block k hk (by simp)⟩

theorem infoView : (Tryz.prog.info? 28).map (fun i => (i.zero, i.size, i.bytes)) = some (some (.agg #[.string .empty, .int .i64 0, .string .empty, .string .empty, .string .empty, .int .i64 0, .int .i64 0, .slice none 0 0]), 8, 112) := by kernel_rfl

set_option maxRecDepth 100000 in
set_option maxHeartbeats 4000000 in
theorem views_calls (V : ViewT) (v0 v1 : Value) (l0 l1 : List FileT) (w : World) (h0 : FilesVal w v0 l0) (h1 : FilesVal w v1 l1) (k0 : FilesOK l0) (k1 : FilesOK l1) (n0 : l0.length ≤ 1000) (n1 : l1.length ≤ 1000) (e0 : chkE l0 = 0) (e1 : chkE l1 = 0)
    (ds : List Diff) (hds : diffs (textOf l0) (textOf l1) (sortS (l0.map (·.1) ++ fresh (textOf l0) l1)) = ds) (hone : ds.length ≤ 1) (HV : ∀ x W, Below w.heap.size w W → x ∈ ds → OneView V x W) :
    Calls Tryz.prog 9 #[v0, v1] w fun e w' => ∃ res, e = .returned (.tuple #[res, .int .i64 0]) ∧ Res V ds res w' ∧ Below w.heap.size w w' := by
  have HVV := Lib.hid HV
  obtain ⟨iv, iv0, iz0, iz1, iz2⟩ := info_parts infoView
  have HF0 := Lib.hid h0
  have HF1 := Lib.hid h1
  clear HV h0 h1
  refine (callsIn_wide (n := 6)).1 ?_
  refine callsIn_of_wp_marks Tryz.func9 rfl trivial ?_ rfl
  simp only [Tryz.ntmps9, List.size_toArray, List.length_cons, List.length_nil, Nat.reduceAdd, Nat.reduceSub, Array.replicate_succ, Array.replicate_zero, List.push_toArray, List.append_toArray, List.nil_append, List.cons_append]
  gi_wp2_with fail
  have bR := (Boxed.new w 22 (.slice none 0 0)).alloc (.cells #[.int .i64 0] 36)
  have bE := Boxed.new (w.alloc (.cells #[.slice none 0 0] 22)) 36 (.int .i64 0)
  rw [World.size_alloc] at bE
  have hBA : Below w.heap.size w ((w.alloc (.cells #[.slice none 0 0] 22)).alloc (.cells #[.int .i64 0] 36)) := ((Below.refl _ w).alloc (Nat.le_refl _) _).alloc (by simp) _
  generalize (w.alloc (.cells #[.slice none 0 0] 22)).alloc (.cells #[.int .i64 0] 36) = wA at *
  refine ⟨trivial, (callsIn_wide.2 (pcheck_val v0 l0 _ (HF0.out.below hBA) k0)).mono ?_⟩
  rw [e0]
  rintro e w1 ⟨rfl, hb⟩
  have bR1 : Boxed w1 w.heap.size 22 (.slice none 0 0) := (hb.block _ bR.lt).trans bR
  have bE1 : Boxed w1 (w.heap.size + 1) 36 (.int .i64 0) := (hb.block _ bE.lt).trans bE
  have hB1 := hBA.trans (hb.mono hBA.size)
  clear hb bR bE hBA
  gi_wp2_with fail
  refine ⟨trivial, (callsIn_wide.2 (pcheck_val v1 l1 _ (HF1.out.below hB1) k1)).mono ?_⟩
  rw [e1]
  rintro e w2 ⟨rfl, hb⟩
  have bR2 : Boxed w2 w.heap.size 22 (.slice none 0 0) := (hb.block _ bR1.lt).trans bR1
  have bE2 : Boxed w2 (w.heap.size + 1) 36 (.int .i64 0) := (hb.block _ bE1.lt).trans bE1
  have hB2 := hB1.trans (hb.mono hB1.size)
  clear hb bR1 bE1 hB1
  gi_wp2_with fail
  have bR3 := bR2.alloc (.cells #[.slice none 0 0] 22)
  have bE3 := bE2.alloc (.cells #[.slice none 0 0] 22)
  have bO3 := Boxed.new w2 22 (.slice none 0 0)
  have hB3 := hB2.alloc hB2.size (.cells #[.slice none 0 0] 22)
  have hs3 : (w2.alloc (.cells #[.slice none 0 0] 22)).heap.size = w2.heap.size + 1 := by simp
  have hs2 := bE2.lt
  generalize w2.alloc (.cells #[.slice none 0 0] 22) = w3 at *
  refine ⟨trivial, (callsIn_wide.2 (changed_calls v0 v1 l0 l1 _ (HF0.out.below hB3) (HF1.out.below hB3) k0 k1 n0 n1)).mono ?_⟩
  rintro e w4 ⟨rfl, hch⟩
  have hb := hch.1
  have HIT := Lib.hid (hch.it k0 k1)
  have bR4 : Boxed w4 w.heap.size 22 (.slice none 0 0) := (hb.block _ bR3.lt).trans bR3
  have bE4 : Boxed w4 (w.heap.size + 1) 36 (.int .i64 0) := (hb.block _ bE3.lt).trans bE3
  have bO4 : Boxed w4 w2.heap.size 22 (.slice none 0 0) := (hb.block _ bO3.lt).trans bO3
  have hB4 := hB3.trans (hb.mono hB3.size)
  have hs4 := hb.size
  clear hb hch bR3 bE3 bO3 hB3 bR2 bE2 hB2
  gi_wp2_with fail
  have hps : (sortS (l0.map (·.1) ++ fresh (textOf l0) l1)).length ≤ 100000 := by
    have h1 := fresh_length (textOf l0) l1
    have h2 : (sortS (l0.map (·.1) ++ fresh (textOf l0) l1)).length = (l0.map (·.1) ++ fresh (textOf l0) l1).length := by
      unfold sortS
      rw [List.length_map, List.length_mergeSort, List.length_map]
    rw [h2, List.length_append, List.length_map]
    omega
  have HI4 := HIT.out
  rw [hs3] at HI4
  have hs5 : w.heap.size + 2 ≤ w2.heap.size := by omega
  refine wpIn_rangeFunc_ownH (F := Fence.wide) rfl (by omega) (gf := 22) (lb := #[.pointer (some ⟨w2.heap.size + 1 + 4, 0, none⟩), .pointer (some ⟨w2.heap.size + 1 + 2, 0, none⟩), .pointer (some ⟨w2.heap.size + 1 + 3, 0, none⟩)]) rfl trivial (enters_of Tryz.func22 (by kernel_rfl) rfl)
    (changed1_stops Fence.wide (6 - 1) trivial rfl (by omega) (w2.heap.size + 1 + 4) (w2.heap.size + 1 + 2) (w2.heap.size + 1 + 3) (w2.heap.size + 1) w4.heap.size (textOf l0) (textOf l1) _ hps ds hds w4 HI4 (Nat.le_refl _))
    KeepR.trans (fun W l o o' hl h _ _ => keepR_putObj W l o o' hl h) (Below.refl _ _) (fun _ => rfl)
    (fun pre W => (∃ res, Boxed W w2.heap.size 22 res ∧ Res V pre res W) ∧ ((Boxed W w.heap.size 22 (.slice none 0 0) ∧ Boxed W (w.heap.size + 1) 36 (.int .i64 0)) ∧ (Below w.heap.size w W ∧ w4.heap.size ≤ W.heap.size)))
    (fun _ _ _ => False)
    (OwnFrom.and (Own.from (res_own V _) _) (OwnFrom.and (OwnFrom.and (Own.from (boxed_own _ _ _) _) (Own.from (boxed_own _ _ _) _)) (OwnFrom.and (ownFrom_below (Nat.le_refl _) hB4.size) (fun _ _ _ _ h hg _ => Nat.le_trans h hg.size))))
    (fun _ _ _ _ _ hs _ _ => hs)
    ⟨⟨_, bO4, .inl ⟨rfl, rfl⟩⟩, ⟨bR4, bE4⟩, hB4, Nat.le_refl _⟩
    (fun x a' W => ∃ Bx, w4.heap.size ≤ Bx ∧ W.heap[Bx]? = some (.cells #[.string x.1.1, .string x.1.2.1, .string x.1.2.2] 46 (0, 0)) ∧ a' = { tmps := #[v0, v1, undef, undef, .pointer (some ⟨w.heap.size, 0, none⟩), .pointer (some ⟨w.heap.size + 1, 0, none⟩), .int .i64 0, .int .i64 0, .pointer (some ⟨w2.heap.size, 0, none⟩), .pointer (some ⟨Bx, 0, none⟩), undef, undef, v0, .int .i64 0, .int .i64 0, .bool false, undef, v1, .int .i64 0, .int .i64 0, .bool false, undef, v0, v1, .func (.func 22) #[] #[.pointer (some ⟨w2.heap.size + 1 + 4, 0, none⟩), .pointer (some ⟨w2.heap.size + 1 + 2, 0, none⟩), .pointer (some ⟨w2.heap.size + 1 + 3, 0, none⟩)], (.agg #[.string x.1.1, .string x.1.2.1, .string x.1.2.2]), undef, undef, undef, undef, undef, undef, undef, undef, undef, undef, undef, undef, undef, undef, undef, undef, undef, undef, undef, undef, undef, undef, undef, undef], defers := [] })
    (fun x a' _ X Y row hs hg hr => by obtain ⟨Bx, h1, h2, h3⟩ := hs; exact ⟨Bx, h1, file_own (β := Unit) Bx _ 46 () X Y row h2 hg (fun r e => (hr r e).2), h3⟩)
    ?assign ?body ?done ?stop
  case assign =>
    rintro l pre ⟨⟨p, ta, tb⟩, hx⟩ W K ⟨hro, ⟨hbr, hbe⟩, hbw, hW4⟩ hK
    simp only [diffV] at hK ⊢
    gi_wp2
    exact hK _ _ ((KeepsOthers.alloc _ _).from _) (KeepR.of_below ((Below.refl _ W).alloc (Nat.le_refl _) _) hW4) ⟨(res_own V w2.heap.size).alloc _ hro, ⟨hbr.alloc _, hbe.alloc _⟩, hbw.alloc hbw.size _, Nat.le_trans hW4 (by simp)⟩ ⟨W.heap.size, hW4, (MapKept.heap_alloc W _).1, rfl⟩
  case body =>
    rintro l pre ⟨⟨p, ta, tb⟩, hx⟩ a' W hl ⟨r, hr⟩ ⟨⟨res, hbo, hres⟩, ⟨hbr, hbe⟩, hbw, hW4⟩ ⟨Bx, hBx, hbx, rfl⟩ hlt
    obtain rfl : pre = [] := List.length_eq_zero_iff.1 (by omega)
    obtain rfl : res = .slice none 0 0 := by
      rcases hres with ⟨_, rfl⟩ | ⟨h, _⟩
      · rfl
      · exact absurd rfl h
    clear hres hlt hr hl
    have x0 : W.cell? ⟨Bx, 0, none⟩ = some (.string p) := by simp only [World.cell?, hbx]; rfl
    have x1 : W.cell? ⟨Bx, 1, none⟩ = some (.string ta) := by simp only [World.cell?, hbx]; rfl
    have x2 : W.cell? ⟨Bx, 2, none⟩ = some (.string tb) := by simp only [World.cell?, hbx]; rfl
    have HWB := Lib.hid hbw
    have hV := HVV.out _ W hbw hx
    clear hbw
    simp only at *
    rcases hV with hV | ⟨hV, hV2⟩
    · gi_wp2_with fail
      refine ⟨trivial, (CallsIn.inRound l (callsIn_wide.2 hV)).mono ?_⟩
      rintro e W' ⟨b, off, c, lv, rfl, hlt, hva, hbel⟩
      have HVA := Lib.hid hva
      have HB := Lib.hid hbel
      have hbo' : Boxed W' w2.heap.size 22 (.slice none 0 0) := (hbel.block _ hbo.lt).trans hbo
      have bo_kept : ∀ {w6 : World}, W'.grownBy w6 none → Boxed w6 w2.heap.size 22 (.slice none 0 0) := fun hg => hbo'.kept hg (by simp)
      have co := hbo'.cell
      have hs6 : w4.heap.size ≤ W'.heap.size := Nat.le_trans hW4 hbel.size
      clear hva hbel hbo'
      gi_wp2_with (first
        | (gi_at_builtin; refine wpListIn_append_own _ rfl _ _ 22 rfl w4.heap.size 28 iv _ 8 112 Tryz.underlying22 iv0 iz0 iz1 iz2 rfl (by decide) (.slice none 0 0) 0 [] rfl (World.ownsRow_nil _ _ _ _) ⟨b, off, none⟩ 1 c (viewCells { V with lv := lv }) rfl rfl (view_cells HVA.out) (view_one HVA.out) (by decide) (by decide) hs6 ?_; intro v' w6 hown hgrow hnil; obtain ⟨g, c', rfl⟩ := ownsRow_succ hown; have HO := Lib.hid hown; have HG := Lib.hid hgrow; have bo6 : w6.cell? ⟨w2.heap.size, 0, none⟩ = some (.slice none 0 0) := (bo_kept hgrow).cell; have bf6 : w6.frozen? ⟨w2.heap.size, 0, none⟩ = false := (bo_kept hgrow).frozen; clear hown hgrow hnil))
      obtain ⟨p1, p2, ⟨res', p3, g', c'', e', p4, p5⟩, p6, p7⟩ := pushed (lo := w2.heap.size + 1) HWB.out HB.out hbo hbr hbe hW4 (by omega) (by omega) (by omega) (by omega) (by omega) HVA.out HO.out HG.out
      exact ⟨p1, p2, ⟨res', p3, .inr ⟨by simp, g', c'', lv, e', p4, p5⟩⟩, p6, p7⟩
    · gi_wp2_with fail
      refine ⟨trivial, (CallsIn.inRound l (callsIn_wide.2 hV)).mono ?_⟩
      rintro e W1 ⟨rfl, hb1⟩
      have y0 : W1.cell? ⟨Bx, 0, none⟩ = some (.string p) := (hb1.cell (p := ⟨Bx, 0, none⟩) (Array.getElem?_eq_some_iff.1 hbx).1).trans x0
      have y1 : W1.cell? ⟨Bx, 1, none⟩ = some (.string ta) := (hb1.cell (p := ⟨Bx, 1, none⟩) (Array.getElem?_eq_some_iff.1 hbx).1).trans x1
      have y2 : W1.cell? ⟨Bx, 2, none⟩ = some (.string tb) := (hb1.cell (p := ⟨Bx, 2, none⟩) (Array.getElem?_eq_some_iff.1 hbx).1).trans x2
      have HB1 := Lib.hid hb1
      have hV3 := hV2 W1 hb1
      clear hb1 hV hV2 x0 x1 x2
      gi_wp2_with fail
      refine ⟨trivial, (CallsIn.inRound l (callsIn_wide.2 hV3)).mono ?_⟩
      rintro e W' ⟨b, off, c, lv, rfl, hlt, hva, hb2⟩
      have hbel := HB1.out.trans (hb2.mono HB1.out.size)
      clear hb2
      have HVA := Lib.hid hva
      have HB := Lib.hid hbel
      have hbo' : Boxed W' w2.heap.size 22 (.slice none 0 0) := (hbel.block _ hbo.lt).trans hbo
      have bo_kept : ∀ {w6 : World}, W'.grownBy w6 none → Boxed w6 w2.heap.size 22 (.slice none 0 0) := fun hg => hbo'.kept hg (by simp)
      have co := hbo'.cell
      have hs6 : w4.heap.size ≤ W'.heap.size := Nat.le_trans hW4 hbel.size
      clear hva hbel hbo'
      gi_wp2_with (first
        | (gi_at_builtin; refine wpListIn_append_own _ rfl _ _ 22 rfl w4.heap.size 28 iv _ 8 112 Tryz.underlying22 iv0 iz0 iz1 iz2 rfl (by decide) (.slice none 0 0) 0 [] rfl (World.ownsRow_nil _ _ _ _) ⟨b, off, none⟩ 1 c (viewCells { V with lv := lv }) rfl rfl (view_cells HVA.out) (view_one HVA.out) (by decide) (by decide) hs6 ?_; intro v' w6 hown hgrow hnil; obtain ⟨g, c', rfl⟩ := ownsRow_succ hown; have HO := Lib.hid hown; have HG := Lib.hid hgrow; have bo6 : w6.cell? ⟨w2.heap.size, 0, none⟩ = some (.slice none 0 0) := (bo_kept hgrow).cell; have bf6 : w6.frozen? ⟨w2.heap.size, 0, none⟩ = false := (bo_kept hgrow).frozen; clear hown hgrow hnil))
      obtain ⟨p1, p2, ⟨res', p3, g', c'', e', p4, p5⟩, p6, p7⟩ := pushed (lo := w2.heap.size + 1) HWB.out HB.out hbo hbr hbe hW4 (by omega) (by omega) (by omega) (by omega) (by omega) HVA.out HO.out HG.out
      exact ⟨p1, p2, ⟨res', p3, .inr ⟨by simp, g', c'', lv, e', p4, p5⟩⟩, p6, p7⟩
  case done =>
    rintro D xs W hD hS ⟨⟨res, hbo, hres⟩, ⟨hbr, hbe⟩, hbw, hW4⟩ hK
    have co := hbo.cell
    have cr := hbr.cell
    have fr := hbr.frozen
    have ce := hbe.cell
    have fe := hbe.frozen
    obtain ⟨sp, sn, sc, rfl⟩ : ∃ sp sn sc, res = .slice sp sn sc := by
      rcases hres with ⟨_, rfl⟩ | ⟨_, g, c, lv, rfl, _⟩ <;> exact ⟨_, _, _, rfl⟩
    have HR := Lib.hid hres
    have HK := Lib.hid hK
    clear hres hK
    gi_wp2
    have bR' : Boxed ((W.setCell ⟨w.heap.size, 0, none⟩ (.slice sp sn sc)).setCell ⟨w.heap.size + 1, 0, none⟩ (.int .i64 0)) w.heap.size 22 (.slice sp sn sc) := (hbr.set _).other (by omega) _
    have bE' : Boxed ((W.setCell ⟨w.heap.size, 0, none⟩ (.slice sp sn sc)).setCell ⟨w.heap.size + 1, 0, none⟩ (.int .i64 0)) (w.heap.size + 1) 36 (.int .i64 0) := (hbe.other (by omega) _).set _
    have hKf := ((KeepsOthers.setCell W ⟨w.heap.size, 0, none⟩ (.slice sp sn sc)).trans (KeepsOthers.setCell _ ⟨w.heap.size + 1, 0, none⟩ (.int .i64 0))).same D _ HK.out rfl
    have hBf := (hbw.setCell (p := ⟨w.heap.size, 0, none⟩) (Nat.le_refl _) (.slice sp sn sc)).setCell (p := ⟨w.heap.size + 1, 0, none⟩) (by simp) (.int .i64 0)
    have hRes : Res V ds (.slice sp sn sc) ((W.setCell ⟨w.heap.size, 0, none⟩ (.slice sp sn sc)).setCell ⟨w.heap.size + 1, 0, none⟩ (.int .i64 0)) := by
      rcases HR.out with ⟨rfl, e⟩ | ⟨hne, g, c, lv, e, hg, hv⟩
      · exact .inl ⟨by rw [← hS]; rfl, e⟩
      · refine .inr ⟨fun h => hne ?_, g, c, lv, e, by simpa [World.setCell] using hg, (hv.set hbr (by simp)).set (hbe.other (by omega) _) (by simp)⟩
        exact List.map_eq_nil_iff.1 (hS.trans h)
    generalize (W.setCell ⟨w.heap.size, 0, none⟩ (.slice sp sn sc)).setCell ⟨w.heap.size + 1, 0, none⟩ (.int .i64 0) = Wf at *
    refine ⟨by simp, .inl ⟨_, _, rfl, run_takeDeferred hKf, ?_⟩⟩
    have hlt := bE'.lt
    have q0 := (bR'.kept (grownBy_putObj' Wf D (.deferred none)) (by simp; omega)).cell
    have q1 := (bE'.kept (grownBy_putObj' Wf D (.deferred none)) (by simp; omega)).cell
    refine ⟨.tuple #[.slice sp sn sc, .int .i64 0], ?_, _, rfl, ?_, hBf.trans (belowK_b (w := w) (Nat.le_refl _) Wf D _ _ (by omega) hKf rfl rfl)⟩
    · simp [results, Tryz.results9, go_sem, q0, q1]
    · rcases hRes with h | ⟨hne, g, c, lv, e, hg, hv⟩
      · exact .inl h
      · refine .inr ⟨hne, g, c, lv, e, by simpa [World.putObj] using hg, hv.own (grownBy_putObj' Wf D (.deferred none)) (fun r e => by cases e; exact ⟨_, hKf, rfl⟩)⟩
  case stop =>
    rintro D c pre W _ _ h _
    exact h.elim

set_option maxRecDepth 100000 in
set_option maxHeartbeats 4000000 in
/-- review.Views where the first project is none. -/
theorem views_bad (v0 v1 : Value) (l0 : List FileT) (w : World) (h0 : FilesVal w v0 l0) (k0 : FilesOK l0) (e : Int) (e0 : chkE l0 = e) (hne : (e != 0) = true) :
    Calls Tryz.prog 9 #[v0, v1] w fun r w' => r = .returned (.tuple #[.slice none 0 0, .int .i64 e]) ∧ Below w.heap.size w w' := by
  have HF0 := Lib.hid h0
  have hne' : (e == 0) = false := by simpa using hne
  clear h0
  refine (callsIn_wide (n := 6)).1 ?_
  refine callsIn_of_wp_marks Tryz.func9 rfl trivial ?_ rfl
  simp only [Tryz.ntmps9, List.size_toArray, List.length_cons, List.length_nil, Nat.reduceAdd, Nat.reduceSub, Array.replicate_succ, Array.replicate_zero, List.push_toArray, List.append_toArray, List.nil_append, List.cons_append]
  gi_wp2_with fail
  have bR := (Boxed.new w 22 (.slice none 0 0)).alloc (.cells #[.int .i64 0] 36)
  have bE := Boxed.new (w.alloc (.cells #[.slice none 0 0] 22)) 36 (.int .i64 0)
  rw [World.size_alloc] at bE
  have hBA : Below w.heap.size w ((w.alloc (.cells #[.slice none 0 0] 22)).alloc (.cells #[.int .i64 0] 36)) := ((Below.refl _ w).alloc (Nat.le_refl _) _).alloc (by simp) _
  generalize (w.alloc (.cells #[.slice none 0 0] 22)).alloc (.cells #[.int .i64 0] 36) = wA at *
  refine ⟨trivial, (callsIn_wide.2 (pcheck_val v0 l0 _ (HF0.out.below hBA) k0)).mono ?_⟩
  rw [e0]
  rintro r w1 ⟨rfl, hb⟩
  have bR1 : Boxed w1 w.heap.size 22 (.slice none 0 0) := (hb.block _ bR.lt).trans bR
  have bE1 : Boxed w1 (w.heap.size + 1) 36 (.int .i64 0) := (hb.block _ bE.lt).trans bE
  have hB1 := hBA.trans (hb.mono hBA.size)
  clear hb bR bE hBA
  have cr := bR1.cell
  have fr := bR1.frozen
  have ce := bE1.cell
  have fe := bE1.frozen
  gi_wp2
  have q0 := ((bR1.set (.slice none 0 0)).other (B' := w.heap.size + 1) (by omega) (.int .i64 e)).cell
  have q1 := ((bE1.other (B' := w.heap.size) (by omega) (.slice none 0 0)).set (.int .i64 e)).cell
  have hBf := (hB1.setCell (p := ⟨w.heap.size, 0, none⟩) (Nat.le_refl _) (.slice none 0 0)).setCell (p := ⟨w.heap.size + 1, 0, none⟩) (by simp) (.int .i64 e)
  generalize (w1.setCell ⟨w.heap.size, 0, none⟩ (.slice none 0 0)).setCell ⟨w.heap.size + 1, 0, none⟩ (.int .i64 e) = Wf at *
  refine ⟨.tuple #[.slice none 0 0, .int .i64 e], ?_, rfl, hBf⟩
  simp [results, Tryz.results9, go_sem, q0, q1]
end Go.Proofs
