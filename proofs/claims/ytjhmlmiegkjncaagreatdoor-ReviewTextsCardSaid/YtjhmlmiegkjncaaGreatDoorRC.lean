/-
  The text of a view: the program's and the reference's: they agree.
-/
import Derived.Test.YtjhmlmiegkjncaaGreatDoorRA
import Derived.Deep.RegionHeld
set_option linter.all false

namespace Go.Proofs
open Go.RowKit
open Classical

theorem descr_size (k : Int) (own nm to : ByteArray) (z0 : own.size ≤ 100) (z1 : nm.size ≤ 100) (z2 : to.size ≤ 100) : (descr k own nm to).size ≤ 1000 := by
  have hn : (dName own nm).size ≤ 201 := by
    unfold dName
    split
    · simp only [ByteArray.size_append]
      have : (⟨#[46]⟩ : ByteArray).size = 1 := rfl
      omega
    · omega
  have ht : (dTo to).size ≤ 100 := by
    unfold dTo
    split
    · decide
    · exact z2
  unfold descr
  generalize dName own nm = n at *
  generalize dTo to = t at *
  unfold dText
  repeat' split
  all_goals
    simp only [ByteArray.size_append]
    simp only [ByteArray.size, List.size_toArray, List.length_cons, List.length_nil] at hn ht ⊢
    omega

theorem catL_size (l : List ByteArray) (hn : l.length ≤ 20) (hz : ∀ x ∈ l, x.size ≤ 100) : (catL l).size ≤ 2000 := by
  have hl : (l.map (·.data.toList)).flatten.length ≤ 100 * l.length := by
    clear hn
    induction l with
    | nil => simp
    | cons a l ih =>
      have h1 := hz a (by simp)
      have h2 := ih (fun x hx => hz x (by simp [hx]))
      have h3 : a.data.toList.length = a.size := rfl
      simp only [List.map_cons, List.flatten_cons, List.length_append, List.length_cons]
      omega
  have : (catL l).size = (l.map (·.data.toList)).flatten.length := by simp [catL, ByteArray.size]
  omega

/-- What a view is told as, ahead of its lines. -/
def headL (path : ByteArray) (k : Int) (own nm to : ByteArray) : ByteArray :=
  path ++ ⟨#[58, 32]⟩ ++ (if (k != 0) = true then descr k own nm to else ⟨#[99, 104, 97, 110, 103, 101, 32, 108, 105, 110, 101, 115]⟩) ++ ⟨#[10]⟩

abbrev viewV (path : ByteArray) (k : Int) (own nm to : ByteArray) (old new : Int) (lv : Value) : Value := .agg #[.string path, .int .i64 k, .string own, .string nm, .string to, .int .i64 old, .int .i64 new, lv]

/-- What the region with the join reads. -/
structure VHeld (w0 wr : World) (path : ByteArray) (lv : Value) (l : List ByteArray) : Prop where
  lt : w0.heap.size < wr.heap.size
  lines : LinesVal wr lv l
  bel : Below w0.heap.size w0 wr
theorem VHeld.below {w0 wr w' : World} {path : ByteArray} {lv : Value} {l : List ByteArray} (h : VHeld w0 wr path lv l) (hb : Below wr.heap.size wr w') : VHeld w0 w' path lv l :=
  ⟨Nat.lt_of_lt_of_le h.lt hb.size, h.lines.below hb, h.bel.trans (hb.mono h.bel.size)⟩

def VS (w0 wr : World) (path : ByteArray) (lv : Value) (l : List ByteArray) : Prop :=
  wr.cell? ⟨w0.heap.size, 0, none⟩ = some (.string path) ∧ wr.cell? ⟨w0.heap.size, 7, none⟩ = some lv ∧ VHeld w0 wr path lv l
theorem VS.below {w0 wr w' : World} {path : ByteArray} {lv : Value} {l : List ByteArray} (h : VS w0 wr path lv l) (hb : Below wr.heap.size wr w') : VS w0 w' path lv l :=
  ⟨(hb.cell (p := ⟨w0.heap.size, 0, none⟩) h.2.2.lt).trans h.1, (hb.cell (p := ⟨w0.heap.size, 7, none⟩) h.2.2.lt).trans h.2.1, h.2.2.below hb⟩
theorem join_held {w0 w : World} {path : ByteArray} {lv : Value} {l : List ByteArray} (h : VS w0 w path lv l) (hn : l.length ≤ 20) (hz : ∀ x ∈ l, x.size ≤ 100) :
    Calls Tryz.prog 11 #[lv, .string ⟨#[]⟩] w fun e w' => e = .returned (.string (catL l)) ∧ VS w0 w' path lv l :=
  (join_calls lv l w h.2.2.lines hn hz).mono fun _ _ ⟨e, hb⟩ => ⟨e, h.below hb⟩

set_option maxRecDepth 100000 in
set_option maxHeartbeats 4000000 in
theorem vtext_zero (path own nm to : ByteArray) (old new : Int) (p : Option Addr) (c : Nat) (l : List ByteArray) (w : World) (hv : LinesVal w (.slice p l.length c) l) (hp : path.size ≤ 100)
    (hn : l.length ≤ 20) (hz : ∀ x ∈ l, x.size ≤ 100) :
    Calls Tryz.prog 7 #[viewV path 0 own nm to old new (.slice p l.length c)] w fun e w' => e = .returned (.string (headL path 0 own nm to ++ catL l)) ∧ Below w.heap.size w w' := by
  have hcs := catL_size l hn hz
  have hba := below_alloc' (w := w) (.cells #[.string path, .int .i64 0, .string own, .string nm, .string to, .int .i64 old, .int .i64 new, .slice p l.length c] 28)
  have hV : VHeld w ((w.alloc (.cells #[.string path, .int .i64 0, .string own, .string nm, .string to, .int .i64 old, .int .i64 new, .slice p l.length c] 28)).drew) path (.slice p l.length c) l := by
    refine VHeld.below (wr := w.alloc (.cells #[.string path, .int .i64 0, .string own, .string nm, .string to, .int .i64 old, .int .i64 new, .slice p l.length c] 28)) ⟨by simp, hv.below hba, hba⟩ ?_
    exact (Below.refl _ _).drew
  have HJ : Hid (∀ w', VS w w' path (.slice p l.length c) l → Calls Tryz.prog 11 #[.slice p l.length c, .string ⟨#[]⟩] w' fun e w'' => e = .returned (.string (catL l)) ∧ VS w w'' path (.slice p l.length c) l) := Lib.hid fun w' h => join_held h hn hz
  generalize catL l = cl at *
  clear hv hba hz
  go_enter Tryz.func7, Tryz.ntmps7
  go_wp2
  go_region_held (fun w' => w'.cell? ⟨w.heap.size, 0, none⟩ = some (.string path) ∧ w'.cell? ⟨w.heap.size, 7, none⟩ = some (.slice p l.length c) ∧ VHeld w w' path (.slice p l.length c) l)
    (first | assumption | (change VS w _ path (.slice p l.length c) l; assumption) | (refine ⟨?_, ?_, ?_⟩ <;> first | assumption | (simp [*]; done)))
    (first | (go_at_call 11; refine (HJ.out _ (by unfold VS; assumption)).mono ?_; rintro e w' ⟨rfl, hS⟩))
  all_goals
    go_wp2
    go_ret
    exact ⟨ret_str rfl, VHeld.bel (path := path) (lv := .slice p l.length c) (l := l) (And.right (And.right (by assumption)))⟩

set_option maxRecDepth 100000 in
set_option maxHeartbeats 4000000 in
theorem vtext_some (path own nm to : ByteArray) (k old new : Int) (p : Option Addr) (c : Nat) (l : List ByteArray) (w : World) (hv : LinesVal w (.slice p l.length c) l) (hp : path.size ≤ 100)
    (z0 : own.size ≤ 100) (z1 : nm.size ≤ 100) (z2 : to.size ≤ 100) (hn : l.length ≤ 20) (hz : ∀ x ∈ l, x.size ≤ 100) (hk : (k != 0) = true) :
    Calls Tryz.prog 7 #[viewV path k own nm to old new (.slice p l.length c)] w fun e w' => e = .returned (.string (headL path k own nm to ++ catL l)) ∧ Below w.heap.size w w' := by
  have hcs := catL_size l hn hz
  have hba := below_alloc' (w := w) (.cells #[.string path, .int .i64 k, .string own, .string nm, .string to, .int .i64 old, .int .i64 new, .slice p l.length c] 28)
  have hx := (MapKept.heap_alloc w (.cells #[.string path, .int .i64 k, .string own, .string nm, .string to, .int .i64 old, .int .i64 new, .slice p l.length c] 28)).1
  have HV0 : Hid (VS w (w.alloc (.cells #[.string path, .int .i64 k, .string own, .string nm, .string to, .int .i64 old, .int .i64 new, .slice p l.length c] 28)) path (.slice p l.length c) l) := Lib.hid
    ⟨by simp only [World.cell?, hx]; rfl, by simp only [World.cell?, hx]; rfl, ⟨by simp, hv.below hba, hba⟩⟩
  have HJ : Hid (∀ w', VS w w' path (.slice p l.length c) l → Calls Tryz.prog 11 #[.slice p l.length c, .string ⟨#[]⟩] w' fun e w'' => e = .returned (.string (catL l)) ∧ VS w w'' path (.slice p l.length c) l) := Lib.hid fun w' h => join_held h hn hz
  have HD : Hid (∀ w', Calls Tryz.prog 10 #[.agg #[.int .i64 k, .string own, .string nm, .string to, .int .i64 old, .int .i64 new]] w' fun e w'' => e = .returned (.string (descr k own nm to)) ∧ Below w'.heap.size w' w'') := Lib.hid fun w' => describe_calls k own nm to old new w' z0 z1 z2
  have HH : Hid (headL path k own nm to = path ++ ⟨#[58, 32]⟩ ++ descr k own nm to ++ ⟨#[10]⟩) := Lib.hid (by unfold headL; rw [if_pos hk])
  have hds := descr_size k own nm to z0 z1 z2
  generalize headL path k own nm to = hl at *
  generalize descr k own nm to = ds at *
  generalize catL l = cl at *
  clear hv hba hz hx z0 z1 z2
  go_enter Tryz.func7, Tryz.ntmps7
  go_wp2_with fail
  refine (HD.out _).mono ?_
  rintro e w2 ⟨rfl, hb⟩
  have hVS := HV0.out.below hb
  have hc0 := hVS.1
  have hc7 := hVS.2.1
  have hV : VHeld w w2.drew path (.slice p l.length c) l := VHeld.below hVS.2.2 (Below.refl _ _).drew
  clear hb HV0 HD hVS
  go_wp2_with fail
  go_region_held (fun w' => w'.cell? ⟨w.heap.size, 0, none⟩ = some (.string path) ∧ w'.cell? ⟨w.heap.size, 7, none⟩ = some (.slice p l.length c) ∧ VHeld w w' path (.slice p l.length c) l)
    (first | assumption | (change VS w _ path (.slice p l.length c) l; assumption) | (refine ⟨?_, ?_, ?_⟩ <;> first | assumption | (simp [*]; done)))
    (first | (go_at_call 11; refine (HJ.out _ (by unfold VS; assumption)).mono ?_; rintro e w' ⟨rfl, hS⟩))
  all_goals
    go_wp2
    go_ret
    exact ⟨ret_str (by rw [HH.out]), VHeld.bel (path := path) (lv := .slice p l.length c) (l := l) (And.right (And.right (by assumption)))⟩
end Go.Proofs
