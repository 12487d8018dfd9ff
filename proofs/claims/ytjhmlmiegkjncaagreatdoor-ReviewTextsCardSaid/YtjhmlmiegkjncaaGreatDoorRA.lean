/-
  The description of an intent: the program's and the reference's. The text of a view: the program's and the reference's.
-/
import Derived.Test.YtjhmlmiegkjncaaGreatDoorProg
import Derived.WalkKit
import Derived.Below
import Derived.Outline
import Derived.Lib.Hide
import Derived.WalkLawsBesides
import Derived.BigQuiet
import Derived.Deep.QuietTactic
import Derived.IntWalk
import Derived.Test.YtjhmlmiegkjncaaGreatDoorLib
import Derived.OwnWalk
import Derived.WalkSpells
import Derived.StillTactics
import Derived.Deep.RegionHeld3
set_option linter.all false

namespace Go.Proofs
open Go.RowKit

theorem below_drewN' {b n : Nat} {w wr : World} (h : Below b w wr) : Below b w (wr.drewN n) := ⟨h.os, h.tape, h.output, h.size, fun k hk => h.block k hk⟩
theorem below_alloc' {w : World} (o : Obj) : Below w.heap.size w (w.alloc o) := (Below.refl _ _).alloc (Nat.le_refl _) _
theorem ret_str {a b : ByteArray} (h : a = b) : Ending.returned (.string a) = .returned (.string b) := by rw [h]

/-- Of what an intent is told. -/
def dName (own nm : ByteArray) : ByteArray := if (!own.toList.isEmpty) = true then own ++ ⟨#[46]⟩ ++ nm else nm
def dTo (to : ByteArray) : ByteArray := if to.toList.isEmpty = true then ⟨#[116, 104, 101, 32, 102, 105, 108, 101]⟩ else to
def dText (k : Int) (n t : ByteArray) : ByteArray :=
  if (k == 1) = true then ⟨#[97, 100, 100, 32]⟩ ++ n else
  if (k == 2) = true then ⟨#[114, 101, 109, 111, 118, 101, 32]⟩ ++ n else
  if (k == 3) = true then ⟨#[114, 101, 110, 97, 109, 101, 32]⟩ ++ n ++ ⟨#[32, 116, 111, 32]⟩ ++ t else
  if (k == 4) = true then ⟨#[109, 111, 118, 101, 32]⟩ ++ n ++ ⟨#[32, 116, 111, 32]⟩ ++ t else
  if (k == 5) = true then ⟨#[114, 101, 111, 114, 100, 101, 114, 32]⟩ ++ n else
  if (k == 6) = true then ⟨#[99, 104, 97, 110, 103, 101, 32, 116, 104, 101, 32, 115, 105, 103, 110, 97, 116, 117, 114, 101, 32, 111, 102, 32]⟩ ++ n else
  if (k == 7) = true then ⟨#[99, 104, 97, 110, 103, 101, 32, 116, 104, 101, 32, 98, 111, 100, 121, 32, 111, 102, 32]⟩ ++ n else
  if (k == 8) = true then ⟨#[101, 120, 116, 114, 97, 99, 116, 32]⟩ ++ t ++ ⟨#[32, 102, 114, 111, 109, 32]⟩ ++ n else
  if (k == 9) = true then ⟨#[105, 110, 108, 105, 110, 101, 32]⟩ ++ t ++ ⟨#[32, 105, 110, 116, 111, 32]⟩ ++ n else
  if (k == 10) = true then ⟨#[102, 111, 114, 109, 97, 116, 32]⟩ ++ n else
  ⟨#[99, 104, 97, 110, 103, 101, 32]⟩ ++ n

/-- The description of an intent. -/
def descr (k : Int) (own nm to : ByteArray) : ByteArray := dText k (dName own nm) (dTo to)

set_option maxRecDepth 100000 in
set_option maxHeartbeats 8000000 in
theorem describe_calls (k : Int) (own nm to : ByteArray) (old new : Int) (w : World) (z0 : own.size ≤ 100) (z1 : nm.size ≤ 100) (z2 : to.size ≤ 100) :
    Calls Tryz.prog 10 #[.agg #[.int .i64 k, .string own, .string nm, .string to, .int .i64 old, .int .i64 new]] w fun e w' => e = .returned (.string (descr k own nm to)) ∧ Below w.heap.size w w' := by
  go_enter Tryz.func10, Tryz.ntmps10
  go_wp2
  go_quiet (fail)
  go_wp2
  all_goals
    go_ret
    refine ⟨ret_str ?_, below_drewN' (Below.alloc (Below.refl _ _) (Nat.le_refl _) _)⟩
    simp only [descr, dText, dName, dTo, *, if_true, Bool.false_eq_true, if_false]

set_option maxRecDepth 100000 in
set_option maxHeartbeats 8000000 in
theorem rdescribe_calls (k : Int) (own nm to : ByteArray) (old new : Int) (w : World) (z0 : own.size ≤ 100) (z1 : nm.size ≤ 100) (z2 : to.size ≤ 100) :
    Calls Tryz.prog 12 #[.agg #[.int .i64 k, .string own, .string nm, .string to, .int .i64 old, .int .i64 new]] w fun e w' => e = .returned (.string (descr k own nm to)) ∧ Below w.heap.size w w' := by
  go_enter Tryz.func12, Tryz.ntmps12
  go_wp2
  all_goals
    go_ret
    refine ⟨ret_str ?_, Below.alloc (Below.refl _ _) (Nat.le_refl _) _⟩
    simp only [descr, dText, dName, dTo, *, if_true, Bool.false_eq_true, if_false]
end Go.Proofs

namespace Go.Proofs
open Go.RowKit
open Classical

/-- A slice of strings. -/
def LinesVal (w : World) (v : Value) (l : List ByteArray) : Prop :=
  ((∃ p c, v = .slice p 0 c) ∧ l = []) ∨ ∃ b off cap, v = .slice (some ⟨b, off, none⟩) l.length cap ∧ l.length ≤ cap ∧ b < w.heap.size ∧ ∀ i (s : ByteArray), l[i]? = some s → w.cell? ⟨b, off + i, none⟩ = some (.string s)
theorem LinesVal.below {w wr : World} {v : Value} {l : List ByteArray} (h : LinesVal w v l) (hb : Below w.heap.size w wr) : LinesVal wr v l := by
  rcases h with h | ⟨b, off, cap, hv, hcap, hlt, hc⟩
  · exact .inl h
  · exact .inr ⟨b, off, cap, hv, hcap, Nat.lt_of_lt_of_le hlt hb.size, fun i p hp => (hb.cell (p := ⟨b, off + i, none⟩) hlt).trans (hc i p hp)⟩
theorem LinesVal.slice {w : World} {v : Value} {l : List ByteArray} (h : LinesVal w v l) : ∃ p c, v = .slice p l.length c := by
  rcases h with ⟨⟨p, c, rfl⟩, rfl⟩ | ⟨b, off, cap, rfl, _⟩
  · exact ⟨p, c, rfl⟩
  · exact ⟨_, _, rfl⟩

/-- The lines, one behind the other. -/
def catL (l : List ByteArray) : ByteArray := ⟨(l.map (·.data.toList)).flatten.toArray⟩
theorem joinTail_nil (l : List (List UInt8)) : Lib.join l [] = l.flatten := by
  cases l with
  | nil => rfl
  | cons a l =>
    rw [Lib.join_cons, List.flatten_cons]
    congr 1
    induction l with
    | nil => rfl
    | cons b l ih => simp [Lib.joinTail, ih] <;> simpa [Lib.joinTail] using ih

theorem join_calls (v : Value) (l : List ByteArray) (w : World) (h : LinesVal w v l) (hn : l.length ≤ 20) (hz : ∀ x ∈ l, x.size ≤ 100) :
    Calls Tryz.prog 11 #[v, .string ⟨#[]⟩] w fun e w' => e = .returned (.string (catL l)) ∧ Below w.heap.size w w' := by
  rcases h with ⟨⟨p, c, rfl⟩, rfl⟩ | ⟨b, off, cap, rfl, hcap, hlt, hc⟩
  · refine (Tryz.strings_Join_none p c ⟨#[]⟩ w).mono ?_
    rintro e w' ⟨rfl, rfl⟩
    exact ⟨rfl, Below.refl _ _⟩
  · have hj : Lib.join (l.map (·.data.toList)) (⟨#[]⟩ : ByteArray).data.toList = (l.map (·.data.toList)).flatten := joinTail_nil _
    have hl : (l.map (·.data.toList)).flatten.length ≤ 100 * l.length := by
      clear hc hj hn hcap
      induction l with
      | nil => simp
      | cons a l ih =>
        have h1 := hz a (by simp)
        have h2 := ih (fun x hx => hz x (by simp [hx]))
        have h3 : a.data.toList.length = a.size := rfl
        simp only [List.map_cons, List.flatten_cons, List.length_append, List.length_cons]
        omega
    have h := Tryz.strings_Join b off cap l ⟨#[]⟩ w (fun j x hx => hc j x hx) hlt (by omega) hcap (by rw [hj]; omega)
    rw [hj] at h
    exact h
end Go.Proofs
