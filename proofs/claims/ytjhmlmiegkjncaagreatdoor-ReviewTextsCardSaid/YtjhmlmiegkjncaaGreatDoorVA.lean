/-
  review.changed: two maps, the sorted paths, the iterator. review.changed's walk.
-/
import Derived.Test.YtjhmlmiegkjncaaGreatDoorCC
import Derived.RangeFuncBox
import Derived.RangeFuncNested
import Derived.Maps.AppendAt
import Derived.BigQuiet
import Derived.Deep.QuietTactic
set_option linter.all false

namespace Go.Proofs
open Go.RowKit Go.Maps Go.MapKept
open Classical

/-- The texts of the first files by their paths. -/
def textOf (l : List FileT) : ByteArray → Option ByteArray := l.foldl (fun m f => updS m f.1 f.2) fun _ => none

theorem textOf_take {l : List FileT} {k : Nat} {f : FileT} (h : l[k]? = some f) : textOf (l.take (k + 1)) = updS (textOf (l.take k)) f.1 f.2 := by
  unfold textOf
  rw [List.take_add_one, h]
  simp

theorem le_max {n : Nat} (h : n ≤ 9223372036854775807) : n ≤ maxLen := h
theorem lt_max {n : Nat} (h : n < 9223372036854775807) : n < maxLen := h

/-- The paths of the second list that the first map lacks. -/
def fresh (m : ByteArray → Option ByteArray) (l : List FileT) : List ByteArray := (l.filter fun f => (m f.1).isNone).map (·.1)
theorem fresh_take {m : ByteArray → Option ByteArray} {l : List FileT} {k : Nat} {f : FileT} (h : l[k]? = some f) : fresh m (l.take (k + 1)) = if (m f.1).isNone then fresh m (l.take k) ++ [f.1] else fresh m (l.take k) := by
  unfold fresh
  rw [List.take_add_one, h, List.filter_append, List.map_append]
  by_cases hn : (m f.1).isNone = true <;> simp [hn]
theorem fresh_length (m : ByteArray → Option ByteArray) (l : List FileT) : (fresh m l).length ≤ l.length := by
  unfold fresh
  rw [List.length_map]
  exact List.length_filter_le _ _

/-- How the gathering stands: the maps, the variables, the list of paths. -/
structure ChInv (w0 wr : World) (nb na : Nat) (fb fa : ByteArray → Option ByteArray) (v : Value) (out : List ByteArray) : Prop where
  bel : Below w0.heap.size w0 wr
  mb : SMap wr w0.heap.size nb fb
  ma : SMap wr (w0.heap.size + 1) na fa
  bb : Boxed wr (w0.heap.size + 2) 59 (.map (some w0.heap.size))
  ba : Boxed wr (w0.heap.size + 3) 59 (.map (some (w0.heap.size + 1)))
  bp : Boxed wr (w0.heap.size + 4) 26 v
  row : StrRow wr (w0.heap.size + 5) v out

section
variable {w0 wr w1 w2 : World} {nb na : Nat} {fb fa : ByteArray → Option ByteArray} {v v' : Value} {out : List ByteArray}

theorem ChInv.size (h : ChInv w0 wr nb na fb fa v out) : w0.heap.size + 5 ≤ wr.heap.size := by have := h.bp.lt; omega

theorem ChInv.alloc (h : ChInv w0 wr nb na fb fa v out) (o : Obj) : ChInv w0 (wr.alloc o) nb na fb fa v out := by
  have hs := h.size
  exact ⟨h.bel.trans ((below_alloc o).mono h.bel.size), h.mb.below (below_alloc o) (by omega), h.ma.below (below_alloc o) (by omega), h.bb.alloc o, h.ba.alloc o, h.bp.alloc o, World.ownsRow.alloc h.row o⟩

theorem ChInv.turned (h : ChInv w0 wr nb na fb fa v out) {b : Nat} (hb : w0.heap.size ≤ b) (hb2 : b < w0.heap.size + 2) (ht : wr.mapTurned w1 b) :
    Below w0.heap.size w0 w1 ∧ Boxed w1 (w0.heap.size + 2) 59 (.map (some w0.heap.size)) ∧ Boxed w1 (w0.heap.size + 3) 59 (.map (some (w0.heap.size + 1))) ∧ Boxed w1 (w0.heap.size + 4) 26 v ∧ StrRow w1 (w0.heap.size + 5) v out := by
  refine ⟨h.bel.trans (mapTurned_below ht hb), (mapTurned_block ht (by omega)).trans h.bb, (mapTurned_block ht (by omega)).trans h.ba, (mapTurned_block ht (by omega)).trans h.bp, World.ownsRow.kept h.row ht.grown ?_⟩
  rcases hv : v.ownBlock with _ | g
  · exact .inl rfl
  · refine .inr ?_
    have := (World.ownsRow.lt h.row g hv).1
    intro e
    cases e
    omega

theorem ChInv.before (h : ChInv w0 wr nb na fb fa v out) {n : Nat} {f : ByteArray → Option ByteArray} (hm : SMap w1 w0.heap.size n f) (ht : wr.mapTurned w1 w0.heap.size) : ChInv w0 w1 n na f fa v out := by
  obtain ⟨a, b, c, d, e⟩ := h.turned (Nat.le_refl _) (by omega) ht
  exact ⟨a, hm, h.ma.block (mapTurned_block ht (by omega)), b, c, d, e⟩
theorem ChInv.after (h : ChInv w0 wr nb na fb fa v out) {n : Nat} {f : ByteArray → Option ByteArray} (hm : SMap w1 (w0.heap.size + 1) n f) (ht : wr.mapTurned w1 (w0.heap.size + 1)) : ChInv w0 w1 nb n fb f v out := by
  obtain ⟨a, b, c, d, e⟩ := h.turned (by omega) (by omega) ht
  exact ⟨a, h.mb.block (mapTurned_block ht (by omega)), hm, b, c, d, e⟩

/-- Behind append, ahead of the store. -/
theorem ChInv.grown (h : ChInv w0 w1 nb na fb fa v out) (o : Obj) (hg : (w1.alloc o).grownBy w2 v.ownBlock) : Below w0.heap.size w0 w2 ∧ SMap w2 w0.heap.size nb fb ∧ SMap w2 (w0.heap.size + 1) na fa ∧
    Boxed w2 (w0.heap.size + 2) 59 (.map (some w0.heap.size)) ∧ Boxed w2 (w0.heap.size + 3) 59 (.map (some (w0.heap.size + 1))) ∧ Boxed w2 (w0.heap.size + 4) 26 v := by
  have hs := h.size
  have ha : Below (w0.heap.size + 5) w1 w2 := by
    have hne : ∀ k, k < w0.heap.size + 5 → some k ≠ v.ownBlock := by
      intro k hk e
      have := (World.ownsRow.lt h.row k e.symm).1
      omega
    refine ⟨hg.os, hg.tape, hg.output, Nat.le_trans (below_alloc o).size hg.size, fun k hk => ?_⟩
    rw [hg.block k (by simp; omega) (hne k hk)]
    exact (below_alloc o).block k (by omega)
  exact ⟨h.bel.trans (ha.mono (by omega)), h.mb.below ha (by omega), h.ma.below ha (by omega), (ha.block _ (by omega)).trans h.bb, (ha.block _ (by omega)).trans h.ba, (ha.block _ (by omega)).trans h.bp⟩

theorem ChInv.appended (h : ChInv w0 w1 nb na fb fa v out) (o : Obj) {s : ByteArray} (hr : w2.ownsRow (w0.heap.size + 5) 9 1 v' (out.length + 1) (out.map Value.string ++ [.string s])) (hg : (w1.alloc o).grownBy w2 v.ownBlock) :
    ChInv w0 (w2.setCell ⟨w0.heap.size + 4, 0, none⟩ v') nb na fb fa v' (out ++ [s]) := by
  obtain ⟨a, b, c, d, e, f⟩ := h.grown o hg
  have hgs := grownBy_setCell' w2 (w0.heap.size + 4) v'
  refine ⟨a.setCell (p := ⟨w0.heap.size + 4, 0, none⟩) (by simp) _, b.block (hgs.block _ b.lt (by simp)), c.block (hgs.block _ c.lt (by simp)), d.kept hgs (by simp), e.kept hgs (by simp), f.set v', ?_⟩
  unfold StrRow
  have hr' : w2.ownsRow (w0.heap.size + 5) 9 1 v' (out ++ [s]).length ((out ++ [s]).map Value.string) := by simpa using hr
  refine World.ownsRow.kept hr' hgs ?_
  rcases hv : v'.ownBlock with _ | g
  · exact .inl rfl
  · refine .inr ?_
    have := (World.ownsRow.lt hr' g hv).1
    intro e
    cases e
    omega
end
end Go.Proofs

namespace Go.Proofs
open Go.RowKit Go.Maps Go.MapKept
open Classical

/-- What changed leaves. -/
def ChangedAt (w0 w' : World) (l0 l1 : List FileT) : Prop :=
  Below w0.heap.size w0 w' ∧ SMap w' w0.heap.size l0.length (textOf l0) ∧ SMap w' (w0.heap.size + 1) l1.length (textOf l1) ∧ Boxed w' (w0.heap.size + 2) 59 (.map (some w0.heap.size)) ∧ Boxed w' (w0.heap.size + 3) 59 (.map (some (w0.heap.size + 1))) ∧
  ∃ v, Boxed w' (w0.heap.size + 4) 26 v ∧ StrsVal w' v (sortS (l0.map (·.1) ++ fresh (textOf l0) l1)) ∧ ∀ b n cap, v = .slice (some ⟨b, 0, none⟩) n cap → w0.heap.size ≤ b

set_option maxRecDepth 100000 in
set_option maxHeartbeats 4000000 in
theorem changed_calls (v0 v1 : Value) (l0 l1 : List FileT) (w : World) (h0 : FilesVal w v0 l0) (h1 : FilesVal w v1 l1) (k0 : FilesOK l0) (k1 : FilesOK l1) (n0 : l0.length ≤ 1000) (n1 : l1.length ≤ 1000) :
    Calls Tryz.prog 14 #[v0, v1] w fun e w' => e = .returned (.func (.func 22) #[] #[.pointer (some ⟨w.heap.size + 4, 0, none⟩), .pointer (some ⟨w.heap.size + 2, 0, none⟩), .pointer (some ⟨w.heap.size + 3, 0, none⟩)]) ∧ ChangedAt w w' l0 l1 := by
  obtain ⟨a0, c0, rfl⟩ := h0.slice
  obtain ⟨a1, c1, rfl⟩ := h1.slice
  have hmm := @run_makeMap Tryz.prog
  have hmf : ∀ (fn : Fn) (first cap : Array Value) (w : World), (Instr.makeFunc fn first cap).run Tryz.prog w = .ok (.func fn first cap) w := fun _ _ _ _ => rfl
  obtain ⟨is, hi, hz0, hz1, hz2⟩ := info_parts infoStr
  go_enter Tryz.func14, Tryz.ntmps14
  go_wp2
  obtain ⟨W0, hW0⟩ : ∃ W0 : World, W0 = ((((w.alloc (.map #[] 0)).alloc (.map #[] 0)).alloc (.cells #[.map (some w.heap.size)] 59)).alloc (.cells #[.map (some (w.heap.size + 1))] 59)).alloc (.cells #[.slice none 0 0] 26) := ⟨_, rfl⟩
  have hst : ChInv w W0 0 0 (fun _ => none) (fun _ => none) (.slice none 0 0) [] := by
    rw [hW0]
    have m0 := (((smap_made w).below (below_alloc (.map #[] 0)) (by simp)))
    have m1 := smap_made (w.alloc (.map #[] 0))
    rw [World.size_alloc] at m1
    refine ⟨((((below_alloc _).trans ((below_alloc _).mono (by simp))).trans ((below_alloc _).mono (by simp; omega))).trans ((below_alloc _).mono (by simp; omega))).trans ((below_alloc _).mono (by simp; omega)), ?_, ?_, ?_, ?_, ?_, World.ownsRow_nil _ _ _ _⟩
    · exact (((m0.below (below_alloc _) (by simp <;> omega)).below (below_alloc _) (by simp <;> omega)).below (below_alloc _) (by simp <;> omega))
    · exact ((m1.below (below_alloc _) (by simp <;> omega)).below (below_alloc _) (by simp <;> omega)).below (below_alloc _) (by simp <;> omega)
    · have := Boxed.new ((w.alloc (.map #[] 0)).alloc (.map #[] 0)) 59 (.map (some w.heap.size))
      simp only [World.size_alloc] at this
      exact (this.alloc _).alloc _
    · have := Boxed.new (((w.alloc (.map #[] 0)).alloc (.map #[] 0)).alloc (.cells #[.map (some w.heap.size)] 59)) 59 (.map (some (w.heap.size + 1)))
      simp only [World.size_alloc] at this
      exact this.alloc _
    · have := Boxed.new ((((w.alloc (.map #[] 0)).alloc (.map #[] 0)).alloc (.cells #[.map (some w.heap.size)] 59)).alloc (.cells #[.map (some (w.heap.size + 1))] 59)) 26 (.slice none 0 0)
      simp only [World.size_alloc] at this
      exact this
  have HST := Lib.hid hst
  rw [← hW0]
  clear hst hW0
  go_loopw [18] (fun i w' => ∃ (k : Nat) (v : Value), k ≤ l0.length ∧ ChInv w w' k 0 (textOf (l0.take k)) (fun _ => none) v ((l0.take k).map (·.1)) ∧ i = .int .i64 k) (fun i _ => l0.length - (intOf i).toNat)
  case atStart => exact ⟨0, _, by omega, HST.out, rfl⟩
  case round =>
    rename_i wr hrel
    obtain ⟨k, v, hk, hinv, rfl⟩ := hrel
    have HI := Lib.hid hinv
    clear hinv HST
    by_cases hkl : k < l0.length
    · obtain ⟨b, off, rfl, hb, hc⟩ : ∃ b off, a0 = some ⟨b, off, none⟩ ∧ b < w.heap.size ∧ FilesAt w b off l0 := by
        rcases h0 with ⟨_, hnil⟩ | ⟨b, off, cap, e, hb, hc⟩
        · subst hnil; simp at hkl
        · cases e; exact ⟨b, off, rfl, hb, hc⟩
      obtain ⟨f, hf⟩ : ∃ f, l0[k]? = some f := ⟨l0[k], List.getElem?_eq_getElem hkl⟩
      obtain ⟨d1, d2⟩ := below_cells hc hb HI.out.bel k f hf
      have hfm := List.mem_of_getElem? hf
      have s1' := Lib.hid (le_max (k0.2 f hfm).1)
      have s2' := Lib.hid (le_max (k0.2 f hfm).2)
      have k1' : Hid (k < maxLen) := Lib.hid (lt_max (by omega))
      have hmt := Lib.hid (textOf_take hf)
      have hot : Hid ((l0.take (k + 1)).map (·.1) = (l0.take k).map (·.1) ++ [f.1]) := Lib.hid (by rw [List.take_add_one, hf]; simp)
      have hol : ((l0.take k).map (·.1)).length ≤ 1000 := by rw [List.length_map, List.length_take]; omega
      generalize (l0.take k).map (·.1) = out at *
      generalize textOf (l0.take k) = fm at *
      clear hf hc
      have HA := Lib.hid (HI.out.alloc (.cells #[.string f.1, .string f.2] 34))
      have hbx : (wr.alloc (.cells #[.string f.1, .string f.2] 34)).heap[wr.heap.size]? = some (.cells #[.string f.1, .string f.2] 34) := (MapKept.heap_alloc wr _).1
      have HBX := Lib.hid hbx
      have cb : (wr.alloc (.cells #[.string f.1, .string f.2] 34)).cell? ⟨w.heap.size + 1 + 1, 0, none⟩ = some (.map (some w.heap.size)) := HA.out.bb.cell
      have hws := Lib.hid HI.out.size
      clear hbx
      go_wp2_with (first
        | (at_mapUpdate; refine wpList_smap_store rfl _ _ _ 59 rfl Tryz.underlying59 w.heap.size k fm rfl HA.out.mb k1'.out f.1 f.2 rfl rfl s1'.out s2'.out ?_; intro w1 hm1 ht1; have HP := Lib.hid (HA.out.before hm1 ht1); have hc1 : w1.cell? ⟨wr.heap.size, 0, none⟩ = some (.string f.1) := (by simp only [World.cell?]; rw [mapTurned_block ht1 (by have := hws.out; omega), HBX.out]; rfl); have cp1 : w1.cell? ⟨w.heap.size + 1 + 1 + 1 + 1, 0, none⟩ = some v := HP.out.bp.cell; have hsz1 := Lib.hid HP.out.size; clear hm1 ht1)
        | (at_builtin; refine wpList_append_own _ rfl _ _ 26 rfl (w.heap.size + 5) 9 is (.string .empty) 1 16 Tryz.underlying26 hi hz0 hz1 hz2 rfl (by decide) _ out.length (out.map Value.string) rfl (World.ownsRow.alloc HP.out.row _) ⟨w1.heap.size, 0, none⟩ 1 1 [.string f.1] rfl rfl (new_cell _ _ _) (one_string _) (le_max (by omega)) (by omega) (Nat.le_trans hsz1.out (below_alloc _).size) ?_; intro v' w2 hown2 hgrow2 hnil2; obtain ⟨g', cap', rfl⟩ := ownsRow_succ hown2; have HQ := Lib.hid (HP.out.appended _ hown2 hgrow2); have cp2 : w2.cell? ⟨w.heap.size + 1 + 1 + 1 + 1, 0, none⟩ = some v := (HP.out.grown _ hgrow2).2.2.2.2.2.cell; have fp2 : w2.frozen? ⟨w.heap.size + 1 + 1 + 1 + 1, 0, none⟩ = false := (HP.out.grown _ hgrow2).2.2.2.2.2.frozen; clear hown2 hgrow2))
      go_roundw
      case rel => exact ⟨k + 1, _, by omega, by rw [hot.out, hmt.out]; exact HQ.out, by go_num⟩
      case measure => simp [intOf]; omega
    · obtain rfl : k = l0.length := by omega
      have HI2 : Hid (ChInv w wr l0.length 0 (textOf l0) (fun _ => none) v (l0.map (·.1))) := Lib.hid (by have := HI.out; rw [List.take_length] at this; exact this)
      clear HI
      go_wp2
      obtain ⟨wo, rfl⟩ : ∃ wo : World, wo = wr := ⟨_, rfl⟩
      go_loopw [35] (fun i w' => ∃ (k : Nat) (v : Value), k ≤ l1.length ∧ ChInv w w' l0.length k (textOf l0) (textOf (l1.take k)) v (l0.map (·.1) ++ fresh (textOf l0) (l1.take k)) ∧ i = .int .i64 k) (fun i _ => l1.length - (intOf i).toNat)
      case atStart => exact ⟨0, v, by omega, by have := HI2.out; simp only [List.take_zero, fresh, List.filter_nil, List.map_nil, List.append_nil]; exact this, rfl⟩
      case round =>
        rename_i wr hrel
        obtain ⟨k, v, hk, hinv, rfl⟩ := hrel
        have HI := Lib.hid hinv
        clear hinv HI2
        by_cases hkl : k < l1.length
        · obtain ⟨b, off, rfl, hb, hc⟩ : ∃ b off, a1 = some ⟨b, off, none⟩ ∧ b < w.heap.size ∧ FilesAt w b off l1 := by
            rcases h1 with ⟨_, hnil⟩ | ⟨b, off, cap, e, hb, hc⟩
            · subst hnil; simp at hkl
            · cases e; exact ⟨b, off, rfl, hb, hc⟩
          obtain ⟨f, hf⟩ : ∃ f, l1[k]? = some f := ⟨l1[k], List.getElem?_eq_getElem hkl⟩
          obtain ⟨d1, d2⟩ := below_cells hc hb HI.out.bel k f hf
          have hfm := List.mem_of_getElem? hf
          have s1' := Lib.hid (le_max (k1.2 f hfm).1)
          have s2' := Lib.hid (le_max (k1.2 f hfm).2)
          have k1' : Hid (k < maxLen) := Lib.hid (lt_max (by omega))
          have hmt := Lib.hid (textOf_take hf)
          have hft := Lib.hid (fresh_take (m := textOf l0) hf)
          have hol : (l0.map (·.1) ++ fresh (textOf l0) (l1.take k)).length ≤ 2000 := by
            have := fresh_length (textOf l0) (l1.take k)
            rw [List.length_append, List.length_map]
            rw [List.length_take] at this
            omega
          have hao : Hid (∀ s, l0.map (·.1) ++ (fresh (textOf l0) (l1.take k) ++ [s]) = (l0.map (·.1) ++ fresh (textOf l0) (l1.take k)) ++ [s]) := Lib.hid fun s => by simp
          generalize hO : l0.map (·.1) ++ fresh (textOf l0) (l1.take k) = out at *
          generalize textOf (l1.take k) = fm at *
          clear hf hc
          have HO := Lib.hid hO
          clear hO
          have HA := Lib.hid (HI.out.alloc (.cells #[.string f.1, .string f.2] 34))
          have hbx : (wr.alloc (.cells #[.string f.1, .string f.2] 34)).heap[wr.heap.size]? = some (.cells #[.string f.1, .string f.2] 34) := (MapKept.heap_alloc wr _).1
          have HBX := Lib.hid hbx
          have cb : (wr.alloc (.cells #[.string f.1, .string f.2] 34)).cell? ⟨w.heap.size + 1 + 1 + 1, 0, none⟩ = some (.map (some (w.heap.size + 1))) := HA.out.ba.cell
          have hws := Lib.hid HI.out.size
          clear hbx
          cases hin : textOf l0 f.1 with
          | some tx =>
            rw [hin] at hft
            go_wp2_with (first
              | (at_mapUpdate; refine wpList_smap_store rfl _ _ _ 59 rfl Tryz.underlying59 (w.heap.size + 1) k fm rfl HA.out.ma k1'.out f.1 f.2 rfl rfl s1'.out s2'.out ?_; intro w1 hm1 ht1; have HP := Lib.hid (HA.out.after hm1 ht1); have hc1 : w1.cell? ⟨wr.heap.size, 0, none⟩ = some (.string f.1) := (by simp only [World.cell?]; rw [mapTurned_block ht1 (by have := hws.out; omega), HBX.out]; rfl); have cb1 : w1.cell? ⟨w.heap.size + 1 + 1, 0, none⟩ = some (.map (some w.heap.size)) := HP.out.bb.cell; have hlk := HP.out.mb.look_ok (t := 59) Tryz.underlying59 f.1 s1'.out; rw [hin] at hlk; clear hm1 ht1))
            go_roundw
            case rel => exact ⟨k + 1, v, by omega, by rw [hmt.out, hft.out, if_neg (by simp), HO.out]; exact HP.out, by go_num⟩
            case measure => simp [intOf]; omega
          | none =>
            rw [hin] at hft
            go_wp2_with (first
              | (at_mapUpdate; refine wpList_smap_store rfl _ _ _ 59 rfl Tryz.underlying59 (w.heap.size + 1) k fm rfl HA.out.ma k1'.out f.1 f.2 rfl rfl s1'.out s2'.out ?_; intro w1 hm1 ht1; have HP := Lib.hid (HA.out.after hm1 ht1); have hc1 : w1.cell? ⟨wr.heap.size, 0, none⟩ = some (.string f.1) := (by simp only [World.cell?]; rw [mapTurned_block ht1 (by have := hws.out; omega), HBX.out]; rfl); have cb1 : w1.cell? ⟨w.heap.size + 1 + 1, 0, none⟩ = some (.map (some w.heap.size)) := HP.out.bb.cell; have hlk := HP.out.mb.look_ok (t := 59) Tryz.underlying59 f.1 s1'.out; rw [hin] at hlk; have cp1 : w1.cell? ⟨w.heap.size + 1 + 1 + 1 + 1, 0, none⟩ = some v := HP.out.bp.cell; have hsz1 := Lib.hid HP.out.size; clear hm1 ht1)
              | (at_builtin; refine wpList_append_own _ rfl _ _ 26 rfl (w.heap.size + 5) 9 is (.string .empty) 1 16 Tryz.underlying26 hi hz0 hz1 hz2 rfl (by decide) _ out.length (out.map Value.string) rfl (World.ownsRow.alloc HP.out.row _) ⟨w1.heap.size, 0, none⟩ 1 1 [.string f.1] rfl rfl (new_cell _ _ _) (one_string _) (le_max (by omega)) (by omega) (Nat.le_trans hsz1.out (below_alloc _).size) ?_; intro v' w2 hown2 hgrow2 hnil2; obtain ⟨g', cap', rfl⟩ := ownsRow_succ hown2; have HQ := Lib.hid (HP.out.appended _ hown2 hgrow2); have cp2 : w2.cell? ⟨w.heap.size + 1 + 1 + 1 + 1, 0, none⟩ = some v := (HP.out.grown _ hgrow2).2.2.2.2.2.cell; have fp2 : w2.frozen? ⟨w.heap.size + 1 + 1 + 1 + 1, 0, none⟩ = false := (HP.out.grown _ hgrow2).2.2.2.2.2.frozen; clear hown2 hgrow2))
            go_roundw
            case rel => exact ⟨k + 1, _, by omega, by rw [hmt.out, hft.out, if_pos (by rfl), hao.out]; exact HQ.out, by go_num⟩
            case measure => simp [intOf]; omega
        · obtain rfl : k = l1.length := by omega
          have HI2 : Hid (ChInv w wr l0.length l1.length (textOf l0) (textOf l1) v (l0.map (·.1) ++ fresh (textOf l0) l1)) := Lib.hid (by have := HI.out; rw [List.take_length] at this; exact this)
          clear HI
          have hol : (l0.map (·.1) ++ fresh (textOf l0) l1).length ≤ 100000 := by
            have := fresh_length (textOf l0) l1
            rw [List.length_append, List.length_map]
            omega
          have cp := HI2.out.bp.cell
          have cp1 : wr.cell? ⟨w.heap.size + 1 + 1 + 1 + 1, 0, none⟩ = some v := cp
          clear cp
          go_wp2_with (go_at_call 21; refine (sort_own _ _ _ _ HI2.out.row hol).mono ?_; rintro e w1 ⟨rfl, hs, hb⟩)
          go_wp2
          go_ret
          have hi2 := HI2.out
          refine ⟨rfl, hi2.bel.trans (hb.mono (by omega)), hi2.mb.below hb (by omega), hi2.ma.below hb (by omega), (hb.block _ (by omega)).trans hi2.bb, (hb.block _ (by omega)).trans hi2.ba, v, (hb.block _ (by omega)).trans hi2.bp, hs, fun b n cap e => by have := (World.ownsRow.lt hi2.row b (by rw [e]; rfl)).1; omega⟩
end Go.Proofs
