/-
  The reference's text of a view.
-/
import Derived.Test.YtjhmlmiegkjncaaGreatDoorRC
import Derived.Deep.RegionHeld
set_option linter.all false

namespace Go.Proofs
open Go.RowKit
open Classical

theorem catL_take {l : List ByteArray} {k : Nat} {x : ByteArray} (h : l[k]? = some x) : catL (l.take (k + 1)) = catL (l.take k) ++ x := by
  unfold catL
  rw [List.take_add_one, h]
  apply ByteArray.ext
  apply Array.ext'
  simp

/-- What the reference reads of a view in its loop. -/
structure RHeld (w0 wr : World) (lv : Value) (l : List ByteArray) : Prop where
  c7 : wr.cell? ⟨w0.heap.size, 7, none⟩ = some lv
  h : VHeld w0 wr ⟨#[]⟩ lv l

theorem LinesVal.at {w : World} {p : Option Addr} {n c : Nat} {l : List ByteArray} (h : LinesVal w (.slice p n c) l) {k : Nat} {x : ByteArray} (hx : l[k]? = some x) :
    ∃ b off, p = some ⟨b, off, none⟩ ∧ w.cell? ⟨b, off + k, none⟩ = some (.string x) := by
  rcases h with ⟨_, rfl⟩ | ⟨b, off, cap, e, _, hlt, hc⟩
  · simp at hx
  · cases e
    exact ⟨b, off, rfl, hc k x hx⟩

set_option maxRecDepth 100000 in
set_option maxHeartbeats 4000000 in
theorem rvtext_zero (path own nm to : ByteArray) (old new : Int) (p : Option Addr) (c : Nat) (l : List ByteArray) (w : World) (hv : LinesVal w (.slice p l.length c) l) (hp : path.size ≤ 100)
    (hn : l.length ≤ 20) (hz : ∀ x ∈ l, x.size ≤ 100) :
    Calls Tryz.prog 8 #[viewV path 0 own nm to old new (.slice p l.length c)] w fun e w' => e = .returned (.string (headL path 0 own nm to ++ catL l)) ∧ Below w.heap.size w w' := by
  have hba := below_alloc' (w := w) (.cells #[.string path, .int .i64 0, .string own, .string nm, .string to, .int .i64 old, .int .i64 new, .slice p l.length c] 28)
  have hlv := hv.below hba
  have HH : Hid (headL path 0 own nm to = path ++ ⟨#[58, 32, 99, 104, 97, 110, 103, 101, 32, 108, 105, 110, 101, 115, 10]⟩) := Lib.hid (by
    apply ByteArray.ext
    apply Array.ext'
    simp [headL])
  have HS : Hid (∀ k, k ≤ l.length → (catL (l.take k)).size ≤ 2000) := Lib.hid (fun k hk => catL_size _ (by have := List.length_take_le' k l; omega) (fun x hx => hz x (List.mem_of_mem_take hx)))
  go_enter Tryz.func8, Tryz.ntmps8
  go_wp2
  generalize hhd : headL path 0 own nm to = hd at *
  have HHS : Hid (hd.size ≤ 1000) := Lib.hid (by
    rw [HH.out, ByteArray.size_append]
    have : (⟨#[58, 32, 99, 104, 97, 110, 103, 101, 32, 108, 105, 110, 101, 115, 10]⟩ : ByteArray).size = 15 := rfl
    omega)
  have HE := Lib.hid hhd
  clear hhd
  go_loop [3, 4] (fun s i => ∃ j : Nat, j ≤ l.length ∧ s = .string (hd ++ catL (l.take j)) ∧ i = .int .i64 j) (fun _ i => l.length - (intOf i).toNat)
  case atStart => exact ⟨0, by omega, by rw [← HH.out]; congr 1; apply ByteArray.ext; apply Array.ext'; simp [catL], rfl⟩
  case round =>
    obtain ⟨j, hj, rfl, rfl⟩ := hrel
    by_cases hlt : j < l.length
    · obtain ⟨x, hx⟩ : ∃ x, l[j]? = some x := ⟨l[j], List.getElem?_eq_getElem hlt⟩
      obtain ⟨b, off, rfl, hcell⟩ := hlv.at hx
      have HT := Lib.hid (catL_take hx)
      have hxs := hz x (List.mem_of_getElem? hx)
      have h1 := HS.out j (by omega)
      have h2 := HHS.out
      generalize catL (l.take j) = cj at *
      have hcs : (hd ++ cj).size ≤ 3000 := by rw [ByteArray.size_append]; omega
      have HA : Hid (hd ++ cj ++ x = hd ++ (cj ++ x)) := Lib.hid ByteArray.append_assoc
      generalize hd ++ cj = cur at *
      clear hx h1 h2
      go_wp2
      go_round
      case rel => exact ⟨j + 1, by omega, by rw [HT.out, ← HA.out], by go_num⟩
      case measure => simp [intOf]; omega
    · obtain rfl : j = l.length := by omega
      rw [List.take_length]
      go_wp2
      go_ret
      exact ⟨ret_str (by rw [HE.out]), hba⟩

/-- What the region with the description reads. -/
def RS (w0 wr : World) (path : ByteArray) (k : Int) (own nm to : ByteArray) (old new : Int) (lv : Value) (l : List ByteArray) : Prop :=
  wr.cell? ⟨w0.heap.size, 0, none⟩ = some (.string path) ∧ wr.cell? ⟨w0.heap.size, 1, none⟩ = some (.int .i64 k) ∧ wr.cell? ⟨w0.heap.size, 2, none⟩ = some (.string own) ∧ wr.cell? ⟨w0.heap.size, 3, none⟩ = some (.string nm) ∧
  wr.cell? ⟨w0.heap.size, 4, none⟩ = some (.string to) ∧ wr.cell? ⟨w0.heap.size, 5, none⟩ = some (.int .i64 old) ∧ wr.cell? ⟨w0.heap.size, 6, none⟩ = some (.int .i64 new) ∧ RHeld w0 wr lv l
theorem RS.below {w0 wr w' : World} {path : ByteArray} {k : Int} {own nm to : ByteArray} {old new : Int} {lv : Value} {l : List ByteArray} (h : RS w0 wr path k own nm to old new lv l) (hb : Below wr.heap.size wr w') : RS w0 w' path k own nm to old new lv l := by
  obtain ⟨h0, h1, h2, h3, h4, h5, h6, h7⟩ := h
  have hl := h7.h.lt
  exact ⟨(hb.cell (p := ⟨w0.heap.size, 0, none⟩) hl).trans h0, (hb.cell (p := ⟨w0.heap.size, 1, none⟩) hl).trans h1, (hb.cell (p := ⟨w0.heap.size, 2, none⟩) hl).trans h2, (hb.cell (p := ⟨w0.heap.size, 3, none⟩) hl).trans h3,
    (hb.cell (p := ⟨w0.heap.size, 4, none⟩) hl).trans h4, (hb.cell (p := ⟨w0.heap.size, 5, none⟩) hl).trans h5, (hb.cell (p := ⟨w0.heap.size, 6, none⟩) hl).trans h6, ⟨(hb.cell (p := ⟨w0.heap.size, 7, none⟩) hl).trans h7.c7, h7.h.below hb⟩⟩

set_option maxRecDepth 100000 in
set_option maxHeartbeats 4000000 in
theorem rvtext_some (path own nm to : ByteArray) (k old new : Int) (p : Option Addr) (c : Nat) (l : List ByteArray) (w : World) (hv : LinesVal w (.slice p l.length c) l) (hp : path.size ≤ 100)
    (z0 : own.size ≤ 100) (z1 : nm.size ≤ 100) (z2 : to.size ≤ 100) (hn : l.length ≤ 20) (hz : ∀ x ∈ l, x.size ≤ 100) (hk : (k != 0) = true) :
    Calls Tryz.prog 8 #[viewV path k own nm to old new (.slice p l.length c)] w fun e w' => e = .returned (.string (headL path k own nm to ++ catL l)) ∧ Below w.heap.size w w' := by
  have hba := below_alloc' (w := w) (.cells #[.string path, .int .i64 k, .string own, .string nm, .string to, .int .i64 old, .int .i64 new, .slice p l.length c] 28)
  have hV : RHeld w ((w.alloc (.cells #[.string path, .int .i64 k, .string own, .string nm, .string to, .int .i64 old, .int .i64 new, .slice p l.length c] 28)).drew) (.slice p l.length c) l := by
    have hx := (MapKept.heap_alloc w (.cells #[.string path, .int .i64 k, .string own, .string nm, .string to, .int .i64 old, .int .i64 new, .slice p l.length c] 28)).1
    refine ⟨?_, VHeld.below (wr := w.alloc (.cells #[.string path, .int .i64 k, .string own, .string nm, .string to, .int .i64 old, .int .i64 new, .slice p l.length c] 28)) ⟨by simp, hv.below hba, hba⟩ (Below.refl _ _).drew⟩
    show (w.alloc (.cells #[.string path, .int .i64 k, .string own, .string nm, .string to, .int .i64 old, .int .i64 new, .slice p l.length c] 28)).cell? ⟨w.heap.size, 7, none⟩ = some (.slice p l.length c)
    simp only [World.cell?, hx]
    rfl
  have HD : Hid (∀ w', RS w w' path k own nm to old new (.slice p l.length c) l → Calls Tryz.prog 12 #[.agg #[.int .i64 k, .string own, .string nm, .string to, .int .i64 old, .int .i64 new]] w' fun e w'' => e = .returned (.string (descr k own nm to)) ∧ RS w w'' path k own nm to old new (.slice p l.length c) l) :=
    Lib.hid fun w' h => (rdescribe_calls k own nm to old new w' z0 z1 z2).mono fun _ _ ⟨e, hb⟩ => ⟨e, h.below hb⟩
  have HH : Hid (headL path k own nm to = path ++ ⟨#[58, 32]⟩ ++ descr k own nm to ++ ⟨#[10]⟩) := Lib.hid (by unfold headL; rw [if_pos hk])
  have hds := descr_size k own nm to z0 z1 z2
  have HS : Hid (∀ k, k ≤ l.length → (catL (l.take k)).size ≤ 2000) := Lib.hid (fun k hk => catL_size _ (by have := List.length_take_le' k l; omega) (fun x hx => hz x (List.mem_of_mem_take hx)))
  generalize descr k own nm to = ds at *
  clear z0 z1 z2 hv hba
  go_enter Tryz.func8, Tryz.ntmps8
  go_wp2
  go_region_held (fun w' => w'.cell? ⟨w.heap.size, 0, none⟩ = some (.string path) ∧ w'.cell? ⟨w.heap.size, 1, none⟩ = some (.int .i64 k) ∧ w'.cell? ⟨w.heap.size, 2, none⟩ = some (.string own) ∧ w'.cell? ⟨w.heap.size, 3, none⟩ = some (.string nm) ∧
      w'.cell? ⟨w.heap.size, 4, none⟩ = some (.string to) ∧ w'.cell? ⟨w.heap.size, 5, none⟩ = some (.int .i64 old) ∧ w'.cell? ⟨w.heap.size, 6, none⟩ = some (.int .i64 new) ∧ RHeld w w' (.slice p l.length c) l)
    (first | assumption | (change RS w _ path k own nm to old new (.slice p l.length c) l; assumption) | (refine ⟨?_, ?_, ?_, ?_, ?_, ?_, ?_, ?_⟩ <;> first | assumption | (simp [*]; done)))
    (first | (go_at_call 12; refine (HD.out _ (by unfold RS; assumption)).mono ?_; rintro e w' ⟨rfl, hS⟩))
  all_goals
    have hRS : RS w w' path k own nm to old new (.slice p l.length c) l := by assumption
    have hc7 := hRS.2.2.2.2.2.2.2.c7
    have hlv := hRS.2.2.2.2.2.2.2.h.lines
    have hbel := Lib.hid hRS.2.2.2.2.2.2.2.h.bel
    clear hRS
    generalize hhd : headL path k own nm to = hd at *
    have HE := Lib.hid hhd
    have HHS : Hid (hd.size ≤ 2000) := Lib.hid (by
      rw [HH.out]
      simp only [ByteArray.size_append]
      have h1 : (⟨#[58, 32]⟩ : ByteArray).size = 2 := rfl
      have h2 : (⟨#[10]⟩ : ByteArray).size = 1 := rfl
      omega)
    clear hhd
    go_wp2
    go_loop [3, 4] (fun s i => ∃ j : Nat, j ≤ l.length ∧ s = .string (hd ++ catL (l.take j)) ∧ i = .int .i64 j) (fun _ i => l.length - (intOf i).toNat)
    case atStart => exact ⟨0, by omega, by rw [HH.out]; congr 1; apply ByteArray.ext; apply Array.ext'; simp [catL], rfl⟩
    case round =>
      obtain ⟨j, hj, rfl, rfl⟩ := hrel
      by_cases hlt : j < l.length
      · obtain ⟨x, hx⟩ : ∃ x, l[j]? = some x := ⟨l[j], List.getElem?_eq_getElem hlt⟩
        obtain ⟨b, off, rfl, hcell⟩ := hlv.at hx
        have HT := Lib.hid (catL_take hx)
        have hxs := hz x (List.mem_of_getElem? hx)
        have h1 := HS.out j (by omega)
        have h2 := HHS.out
        generalize catL (l.take j) = cj at *
        have hcs : (hd ++ cj).size ≤ 4000 := by rw [ByteArray.size_append]; omega
        have HA : Hid (hd ++ cj ++ x = hd ++ (cj ++ x)) := Lib.hid ByteArray.append_assoc
        generalize hd ++ cj = cur at *
        clear hx h1 h2
        go_wp2
        go_round
        case rel => exact ⟨j + 1, by omega, by rw [HT.out, ← HA.out], by go_num⟩
        case measure => simp [intOf]; omega
      · obtain rfl : j = l.length := by omega
        rw [List.take_length]
        go_wp2
        go_ret
        exact ⟨ret_str (by rw [HE.out]), hbel.out⟩
end Go.Proofs
