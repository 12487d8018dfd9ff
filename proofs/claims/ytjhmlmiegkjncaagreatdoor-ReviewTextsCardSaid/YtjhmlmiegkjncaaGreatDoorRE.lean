/-
  Views in memory. The reference's totals: how many views are of each kind. The program's totals.
-/
import Derived.Test.YtjhmlmiegkjncaaGreatDoorRD
import Derived.Laws.OwnMore
import Derived.Deep.AppendLies
import Derived.Laws.MakeOwn
set_option linter.all false

namespace Go.Proofs
open Go.RowKit
open Classical

/-- A view: its path, its intent, its lines. -/
structure ViewT where
  path : ByteArray
  k : Int
  own : ByteArray
  nm : ByteArray
  to : ByteArray
  old : Int
  new : Int
  lv : Value
  lines : List ByteArray

def ViewAt (w : World) (b o : Nat) (v : ViewT) : Prop :=
  w.cell? ⟨b, o, none⟩ = some (.string v.path) ∧ w.cell? ⟨b, o + 1, none⟩ = some (.int .i64 v.k) ∧ w.cell? ⟨b, o + 2, none⟩ = some (.string v.own) ∧ w.cell? ⟨b, o + 3, none⟩ = some (.string v.nm) ∧
  w.cell? ⟨b, o + 4, none⟩ = some (.string v.to) ∧ w.cell? ⟨b, o + 5, none⟩ = some (.int .i64 v.old) ∧ w.cell? ⟨b, o + 6, none⟩ = some (.int .i64 v.new) ∧ w.cell? ⟨b, o + 7, none⟩ = some v.lv ∧ LinesVal w v.lv v.lines

theorem ViewAt.below {w wr : World} {b o : Nat} {v : ViewT} (h : ViewAt w b o v) (hb : Below w.heap.size w wr) (hl : b < w.heap.size) : ViewAt wr b o v := by
  obtain ⟨h0, h1, h2, h3, h4, h5, h6, h7, h8⟩ := h
  exact ⟨(hb.cell (p := ⟨b, o, none⟩) hl).trans h0, (hb.cell (p := ⟨b, o + 1, none⟩) hl).trans h1, (hb.cell (p := ⟨b, o + 2, none⟩) hl).trans h2, (hb.cell (p := ⟨b, o + 3, none⟩) hl).trans h3, (hb.cell (p := ⟨b, o + 4, none⟩) hl).trans h4,
    (hb.cell (p := ⟨b, o + 5, none⟩) hl).trans h5, (hb.cell (p := ⟨b, o + 6, none⟩) hl).trans h6, (hb.cell (p := ⟨b, o + 7, none⟩) hl).trans h7, h8.below hb⟩

/-- A slice of views. -/
def ViewsVal (w : World) (x : Value) (l : List ViewT) : Prop :=
  (x = .slice none 0 0 ∧ l = []) ∨ ∃ b off cap, x = .slice (some ⟨b, off, none⟩) l.length cap ∧ b < w.heap.size ∧ ∀ i (v : ViewT), l[i]? = some v → ViewAt w b (off + i * 8) v
theorem ViewsVal.below {w wr : World} {x : Value} {l : List ViewT} (h : ViewsVal w x l) (hb : Below w.heap.size w wr) : ViewsVal wr x l := by
  rcases h with h | ⟨b, off, cap, hv, hlt, hc⟩
  · exact .inl h
  · exact .inr ⟨b, off, cap, hv, Nat.lt_of_lt_of_le hlt hb.size, fun i v hi => (hc i v hi).below hb hlt⟩
theorem ViewsVal.slice {w : World} {x : Value} {l : List ViewT} (h : ViewsVal w x l) : ∃ p c, x = .slice p l.length c := by
  rcases h with ⟨rfl, rfl⟩ | ⟨b, off, cap, rfl, _⟩
  · exact ⟨_, _, rfl⟩
  · exact ⟨_, _, rfl⟩
theorem ViewsVal.at {w : World} {p : Option Addr} {n c : Nat} {l : List ViewT} (h : ViewsVal w (.slice p n c) l) {i : Nat} {v : ViewT} (hv : l[i]? = some v) :
    ∃ b off, p = some ⟨b, off, none⟩ ∧ b < w.heap.size ∧ ViewAt w b (off + i * 8) v := by
  rcases h with ⟨_, rfl⟩ | ⟨b, off, cap, e, hlt, hc⟩
  · simp at hv
  · cases e
    exact ⟨b, off, rfl, hlt, hc i v hv⟩

/-- A view that the law looks at: its strings are short. -/
structure ViewT.Short (v : ViewT) : Prop where
  path : v.path.size ≤ 100
  own : v.own.size ≤ 100
  nm : v.nm.size ≤ 100
  to : v.to.size ≤ 100
  len : v.lines.length ≤ 20
  lines : ∀ x ∈ v.lines, x.size ≤ 100

def ViewT.text (v : ViewT) : ByteArray := headL v.path v.k v.own v.nm v.to ++ catL v.lines

theorem texts_agree (v : ViewT) (hs : v.Short) (w : World) (hv : LinesVal w v.lv v.lines) :
    (Calls Tryz.prog 7 #[viewV v.path v.k v.own v.nm v.to v.old v.new v.lv] w fun e w' => e = .returned (.string v.text) ∧ Below w.heap.size w w') ∧
    (Calls Tryz.prog 8 #[viewV v.path v.k v.own v.nm v.to v.old v.new v.lv] w fun e w' => e = .returned (.string v.text) ∧ Below w.heap.size w w') := by
  obtain ⟨path, k, own, nm, to, old, new, lv, lines⟩ := v
  obtain ⟨z, z0, z1, z2, hn, hz⟩ := hs
  obtain ⟨p, c, hp⟩ := LinesVal.slice hv
  simp only at *
  subst hp
  by_cases hk : (k != 0) = true
  · exact ⟨vtext_some path own nm to k old new p c lines w hv z z0 z1 z2 hn hz hk, rvtext_some path own nm to k old new p c lines w hv z z0 z1 z2 hn hz hk⟩
  · have hk : k = 0 := by simpa using hk
    subst hk
    exact ⟨vtext_zero path own nm to old new p c lines w hv z hn hz, rvtext_zero path own nm to old new p c lines w hv z hn hz⟩
end Go.Proofs

namespace Go.Proofs
open Go.RowKit
open Classical

def cnt (ks : List ViewT) (k : Int) : Nat := (ks.filter fun v => v.k == k).length
theorem cnt_take {l : List ViewT} {i : Nat} {v : ViewT} (h : l[i]? = some v) (k : Int) : cnt (l.take (i + 1)) k = cnt (l.take i) k + (if (v.k == k) = true then 1 else 0) := by
  unfold cnt
  rw [List.take_add_one, h]
  simp only [Option.toList_some, List.filter_append, List.length_append]
  congr 1
  by_cases hv : (v.k == k) = true
  · rw [if_pos hv]
    simp [List.filter, hv]
  · rw [if_neg hv]
    have hv : (v.k == k) = false := by simpa using hv
    simp [List.filter, hv]
theorem cnt_le (l : List ViewT) (k : Int) : cnt l k ≤ l.length := List.length_filter_le _ _

/-- How many are of each kind below n. -/
def totL (l : List ViewT) (n : Nat) : List Value := (List.range n).map fun (k : Nat) => .int .i64 (cnt l (k : Int) : Nat)
theorem totL_succ (l : List ViewT) (n : Nat) : totL l (n + 1) = totL l n ++ [.int .i64 (cnt l (n : Int) : Nat)] := by
  unfold totL
  rw [List.range_succ, List.map_append]
  rfl

theorem infoInt : (Tryz.prog.info? 3).map (fun i => (i.zero, i.size, i.bytes)) = some (some (.int .i64 0), 1, 8) := by kernel_rfl
theorem new_int (w : World) (x : Value) (t : TypeId) : ∀ j u, [x][j]? = some u → (w.alloc (.cells #[x] t)).cell? ((⟨w.heap.size, 0, none⟩ : Addr).add j) = some u := by
  intro j u h
  match j, h with
  | 0, h =>
    cases h
    have := (MapKept.heap_alloc w (.cells #[x] t)).1
    show (w.alloc (.cells #[x] t)).cell? ⟨w.heap.size, 0, none⟩ = some x
    simp only [World.cell?, this]
    rfl

set_option maxRecDepth 100000 in
set_option maxHeartbeats 4000000 in
theorem rtotals_calls (x : Value) (l : List ViewT) (w : World) (hv : ViewsVal w x l) (hn : l.length ≤ 30) :
    Calls Tryz.prog 6 #[x] w fun e w' => ∃ v, e = .returned v ∧ w'.ownsRow w.heap.size 3 1 v 11 (totL l 11) ∧ Below w.heap.size w w' := by
  obtain ⟨p, c, rfl⟩ := hv.slice
  obtain ⟨is, hi, hz0, hz1, hz2⟩ := info_parts infoInt
  go_enter Tryz.func6, Tryz.ntmps6
  go_wp2
  go_loopw [3, 4] (fun v i w' => ∃ k : Nat, k ≤ 11 ∧ w'.ownsRow w.heap.size 3 1 v k (totL l k) ∧ Below w.heap.size w w' ∧ i = .int .i64 k) (fun _ i _ => 11 - (intOf i).toNat)
  case atStart => exact ⟨0, by omega, (show w.ownsRow w.heap.size 3 1 (.slice none 0 0) 0 [] from World.ownsRow_nil _ _ _ _), Below.refl _ _, rfl⟩
  case round =>
    rename_i wr hrel
    obtain ⟨k, hk, hrow, hbel, rfl⟩ := hrel
    have HR := Lib.hid hrow
    have HB := Lib.hid hbel
    have hvr := hv.below hbel
    clear hrow hbel
    by_cases hlt : k < 11
    · go_wp2
      go_loop [5, 6] (fun n i => ∃ j : Nat, j ≤ l.length ∧ n = .int .i64 (cnt (l.take j) k) ∧ i = .int .i64 j) (fun _ i => l.length - (intOf i).toNat)
      case atStart => exact ⟨0, by omega, rfl, rfl⟩
      case round =>
        obtain ⟨j, hj, rfl, rfl⟩ := hrel
        by_cases hjl : j < l.length
        · obtain ⟨v, hvj⟩ : ∃ v, l[j]? = some v := ⟨l[j], List.getElem?_eq_getElem hjl⟩
          obtain ⟨b, off, rfl, hb, c0, c1, _⟩ := hvr.at hvj
          have HT := Lib.hid (cnt_take hvj (k : Int))
          have hcl := cnt_le (l.take j) (k : Int)
          have htl : (l.take j).length ≤ l.length := List.length_take_le' ..
          clear hvj
          generalize cnt (l.take j) (k : Int) = cj at *
          by_cases he : (v.k == (k : Int)) = true
          · go_wp2
            go_round
            case rel => exact ⟨j + 1, by omega, by rw [HT.out, if_pos he]; go_num, by go_num⟩
            case measure => simp [intOf]; omega
          · have he : (v.k == (k : Int)) = false := by simpa using he
            go_wp2
            go_round
            case rel => exact ⟨j + 1, by omega, by rw [HT.out, he]; rfl, by go_num⟩
            case measure => simp [intOf]; omega
        · obtain rfl : j = l.length := by omega
          rw [List.take_length]
          have hcl := cnt_le l (k : Int)
          go_wp2_with (at_builtin; refine wpList_append_own _ rfl _ _ 29 rfl w.heap.size 3 is (.int .i64 0) 1 8 Tryz.underlying29 hi hz0 hz1 hz2 rfl (by decide) _ k (totL l k) rfl (World.ownsRow.alloc HR.out _) ⟨wr.heap.size, 0, none⟩ 1 1 [.int .i64 (cnt l (k : Int) : Nat)] rfl rfl (new_int _ _ _) (by simp [Value.oneCell']) (by simp [maxLen]; omega) (by omega) (Nat.le_trans HB.out.size (below_alloc' _).size) ?_; intro v' w2 hown2 hgrow2 hnil2)
          go_roundw
          case rel =>
            refine ⟨k + 1, by omega, ?_, ?_, by go_num⟩
            · rw [totL_succ]
              exact hown2
            · refine ⟨hgrow2.os.trans HB.out.os, hgrow2.tape.trans HB.out.tape, hgrow2.output.trans HB.out.output, ?_, fun q hq => ?_⟩
              · exact Nat.le_trans HB.out.size (Nat.le_trans (below_alloc' _).size hgrow2.size)
              · have h1 := HB.out.size
                refine (hgrow2.block q (by simp; omega) (fun e => ?_)).trans (((below_alloc' (w := wr) _).block q (by omega)).trans (HB.out.block q hq))
                have := (World.ownsRow.lt HR.out q e.symm).1
                omega
          case measure => simp [intOf]; omega
    · obtain rfl : k = 11 := by omega
      go_wp2
      go_ret
      exact ⟨_, rfl, HR.out, HB.out⟩
end Go.Proofs

namespace Go.Proofs
open Go.RowKit
open Classical

theorem totL_same {l : List ViewT} {j : Nat} {v : ViewT} (h : l[j]? = some v) (hout : v.k < 0 ∨ 11 ≤ v.k) : totL (l.take (j + 1)) 11 = totL (l.take j) 11 := by
  unfold totL
  refine List.map_congr_left fun k hk => ?_
  have hk := List.mem_range.1 hk
  rw [cnt_take h]
  have : (v.k == (k : Int)) = false := by simp; omega
  rw [this]
  simp
theorem totL_set {l : List ViewT} {j m : Nat} {v : ViewT} (h : l[j]? = some v) (hm : v.k = (m : Int)) (hm1 : m < 11) :
    (totL (l.take j) 11).toArray.setIfInBounds m (.int .i64 (((cnt (l.take j) (m : Int) : Nat) : Int) + 1)) = (totL (l.take (j + 1)) 11).toArray := by
  apply Array.ext'
  rw [Array.toList_setIfInBounds]
  simp only [totL]
  apply List.ext_getElem?
  intro i
  rw [List.getElem?_set]
  simp only [List.getElem?_map, List.length_map, List.length_range]
  by_cases hi : m = i
  · subst hi
    rw [if_pos rfl, if_pos hm1, List.getElem?_range hm1]
    simp only [Option.map_some]
    rw [cnt_take h, hm]
    simp
  · rw [if_neg hi]
    by_cases h11 : i < 11
    · rw [List.getElem?_range h11]
      simp only [Option.map_some]
      rw [cnt_take h, hm]
      have : ((m : Int) == (i : Int)) = false := by simp; omega
      rw [this]
      simp
    · rw [List.getElem?_eq_none (by simpa using h11)]
      rfl

set_option maxRecDepth 100000 in
set_option maxHeartbeats 4000000 in
theorem vtotals_calls (x : Value) (l : List ViewT) (w : World) (hv : ViewsVal w x l) (hn : l.length ≤ 30) :
    Calls Tryz.prog 5 #[x] w fun e w' => ∃ v, e = .returned v ∧ w'.ownsRow w.heap.size 3 1 v 11 (totL l 11) ∧ Below w.heap.size w w' := by
  obtain ⟨p, c, rfl⟩ := hv.slice
  obtain ⟨is, hi, hz0, hz1, hz2⟩ := info_parts infoInt
  have hmk := fun (w : World) => @run_makeSlice Tryz.prog w 29 3 is (.int .i64 0) Tryz.underlying29 hi hz0
  go_enter Tryz.func5, Tryz.ntmps5
  go_wp2
  have hst : (w.alloc (Obj.cells (madeCells #[Value.int IntKind.i64 0] 11) 3)).heap[w.heap.size]? = some (.cells (totL (l.take 0) 11).toArray 3 (0, 0)) := by
    rw [(MapKept.heap_alloc w _).1]
    have e : madeCells #[Value.int IntKind.i64 0] 11 = (totL (l.take 0) 11).toArray := by
      apply Array.ext'
      simp [totL, cnt, madeCells, List.range_succ]
      try rfl
    rw [e]
  have HST := Lib.hid hst
  clear hst
  go_loopw [9] (fun i w' => ∃ j : Nat, j ≤ l.length ∧ w'.heap[w.heap.size]? = some (.cells (totL (l.take j) 11).toArray 3 (0, 0)) ∧ Below w.heap.size w w' ∧ i = .int .i64 j) (fun i _ => l.length - (intOf i).toNat)
  case atStart => exact ⟨0, by omega, HST.out, below_alloc' _, rfl⟩
  case round =>
    rename_i wr hrel
    obtain ⟨j, hj, hrow, hbel, rfl⟩ := hrel
    have HR := Lib.hid hrow
    have HB := Lib.hid hbel
    have hvr := hv.below hbel
    have hgl : w.heap.size < wr.heap.size := (Array.getElem?_eq_some_iff.1 hrow).1
    clear hrow hbel
    by_cases hjl : j < l.length
    · obtain ⟨v, hvj⟩ : ∃ v, l[j]? = some v := ⟨l[j], List.getElem?_eq_getElem hjl⟩
      obtain ⟨b, off, rfl, hb, c0, c1, c2, c3, c4, c5, c6, c7, c8⟩ := hvr.at hvj
      obtain ⟨lp, lc, hlv⟩ := c8.slice
      rw [hlv] at c7
      have HT := Lib.hid (fun k => cnt_take hvj k)
      by_cases h0 : v.k < 0
      · go_wp2
        go_roundw
        case rel =>
          refine ⟨j + 1, by omega, ?_, HB.out.trans ((below_alloc' _).mono HB.out.size), by go_num⟩
          rw [totL_same hvj (.inl h0), (below_alloc' (w := wr) _).block _ hgl]
          exact HR.out
        case measure => simp [intOf]; omega
      · by_cases h1 : v.k < 11
        · obtain ⟨m, hm⟩ : ∃ m : Nat, v.k = (m : Int) := ⟨v.k.toNat, by omega⟩
          rw [hm] at c1
          have hm1 : m < 11 := by omega
          have hc : wr.cell? ⟨w.heap.size, m, none⟩ = some (.int .i64 (cnt (l.take j) (m : Int) : Nat)) := by
            simp only [World.cell?, HR.out]
            simp [totL, hm1]
          have hfz : wr.frozen? ⟨w.heap.size, m, none⟩ = false := by
            simp [World.frozen?, HR.out]
          have HTS := Lib.hid (totL_set hvj hm hm1)
          have hcm : cnt (l.take j) (m : Int) ≤ 30 := by
            have h1 := cnt_le (l.take j) (m : Int)
            have h2 : (l.take j).length ≤ l.length := List.length_take_le' ..
            omega
          generalize cnt (l.take j) (m : Int) = cm at *
          go_wp2
          go_roundw
          case rel =>
            refine ⟨j + 1, by omega, ?_, ?_, by go_num⟩
            · rw [← HTS.out]
              rw [(below_alloc' (w := wr.setCell ⟨w.heap.size, m, none⟩ (.int .i64 ((cm : Int) + 1))) _).block _ (by simp [World.setCell]; omega)]
              simp [World.setCell, Array.getElem?_modify, HR.out]
            · exact (HB.out.setCell (p := ⟨w.heap.size, m, none⟩) (Nat.le_refl _) _).alloc (by simp [World.setCell]; omega) _
          case measure => simp [intOf]; omega
        · go_wp2
          go_roundw
          case rel =>
            refine ⟨j + 1, by omega, ?_, HB.out.trans ((below_alloc' _).mono HB.out.size), by go_num⟩
            rw [totL_same hvj (.inr (by omega)), (below_alloc' (w := wr) _).block _ hgl]
            exact HR.out
          case measure => simp [intOf]; omega
    · obtain rfl : j = l.length := by omega
      go_wp2
      go_ret
      have h := HR.out
      rw [List.take_length] at h
      exact ⟨_, rfl, ⟨by simp [totL], .inr ⟨w.heap.size, 11, _, rfl, Nat.le_refl _, h, Nat.le_refl _, by simp [maxLen], by simp [totL], by rw [List.take_of_length_le (by simp [totL])]⟩⟩, HB.out⟩
end Go.Proofs
