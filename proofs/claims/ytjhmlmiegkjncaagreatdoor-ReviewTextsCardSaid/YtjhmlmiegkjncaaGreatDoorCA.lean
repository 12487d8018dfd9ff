/-
  Files in memory; small functions: letters, digits, parts of paths (the program's and the reference's). Paths: the program's and the reference's.
-/
import Derived.Test.YtjhmlmiegkjncaaGreatDoorProg
import Derived.WalkKit
import Derived.Below
import Derived.Outline
import Derived.Lib.Hide
import Derived.Laws.RangeString
import Derived.Laws.RangeAny
set_option linter.all false

namespace Go.Proofs
open Go.RowKit

/-- A file: its path, its text. -/
abbrev FileT := ByteArray × ByteArray

/-- The cells of a slice of files. -/
def FilesAt (w : World) (b off : Nat) (l : List FileT) : Prop :=
  ∀ i (f : FileT), l[i]? = some f → w.cell? ⟨b, off + i * 2, none⟩ = some (.string f.1) ∧ w.cell? ⟨b, off + i * 2 + 1, none⟩ = some (.string f.2)

theorem ret_bool {a b : Bool} (h : a = b) : Ending.returned (.bool a) = .returned (.bool b) := by rw [h]
theorem ret_int {k : IntKind} {a b : Int} (h : a = b) : Ending.returned (.int k a) = .returned (.int k b) := by rw [h]

def letterB (c : Int) : Bool := decide (97 ≤ c ∧ c ≤ 122) || decide (65 ≤ c ∧ c ≤ 90) || decide (c = 95)
def digitB (c : Int) : Bool := decide (48 ≤ c ∧ c ≤ 57)

theorem letter_calls (c : Int) (w : World) : Calls Tryz.prog 46 #[.int .i32 c] w fun e w' => e = .returned (.bool (letterB c)) ∧ w = w' := by
  go_enter Tryz.func46, Tryz.ntmps46
  go_wp2
  all_goals
    go_ret
    refine ⟨ret_bool ?_, rfl⟩
    rw [Bool.eq_iff_iff]
    simp [letterB]
    try omega

theorem digit_calls (c : Int) (w : World) : Calls Tryz.prog 47 #[.int .i32 c] w fun e w' => e = .returned (.bool (digitB c)) ∧ w = w' := by
  go_enter Tryz.func47, Tryz.ntmps47
  go_wp2
  all_goals
    go_ret
    refine ⟨ret_bool ?_, rfl⟩
    rw [Bool.eq_iff_iff]
    simp [digitB]
    try omega

/-- A byte of a part of a path. -/
def okC (c : Int) : Bool := letterB c || digitB c || decide (c = 45) || decide (c = 46)
def okBytes (s : ByteArray) : Bool := s.data.toList.all fun c => okC c.toNat
/-- A part of a path. -/
def partB (s : ByteArray) : Bool := !s.toList.isEmpty && !(s.toList == [46]) && !(s.toList == [46, 46]) && okBytes s

theorem okC_high {c : Int} (h : 128 ≤ c) : okC c = false := by
  simp [okC, letterB, digitB]; omega

theorem okBytes_true {s : ByteArray} (h : ∀ i (hi : i < s.size), okC (s[i]'hi).toNat = true) : okBytes s = true := by
  unfold okBytes
  rw [List.all_eq_true]
  intro c hc
  obtain ⟨i, hi, rfl⟩ := List.getElem_of_mem hc
  exact h i (by simpa using hi)
theorem okBytes_false {s : ByteArray} {i : Nat} (hi : i < s.size) (h : okC (s[i]'hi).toNat = false) : okBytes s = false := by
  unfold okBytes
  rw [List.all_eq_false]
  exact ⟨s[i]'hi, List.getElem_mem (l := s.data.toList) (by simpa using hi), by rw [h]; simp⟩

theorem partB_not {s : ByteArray} (h : s.toList.isEmpty = true ∨ (s.toList == [46]) = true ∨ (s.toList == [46, 46]) = true) : partB s = false := by
  unfold partB
  rcases h with h | h | h <;> simp [h]
theorem partB_of {s : ByteArray} (h1 : s.toList.isEmpty = false) (h2 : (s.toList == [46]) = false) (h3 : (s.toList == [46, 46]) = false) : partB s = okBytes s := by
  unfold partB
  simp [h1, h2, h3]

theorem width_pos (s : ByteArray) (pos : Nat) (h : pos < s.size) : 1 ≤ (Utf8.decode s pos).2 := by
  by_cases ha : (s[pos]'h).toNat < 128
  · rw [decode_ascii s pos h ha]
    exact Nat.le_refl _
  · exact (decode_high s pos h (by omega)).2

theorem iter_below {w : World} {s : ByteArray} {p : Nat} : Below w.heap.size w (w.iter s p) := (Below.refl _ _).alloc (Nat.le_refl _) _

set_option maxHeartbeats 400000 in
theorem part_calls (s : ByteArray) (w : World) (hs : s.size ≤ 9223372036854775807) : Calls Tryz.prog 31 #[.string s] w fun e w' => e = .returned (.bool (partB s)) ∧ Below w.heap.size w w' := by
  rcases Bool.eq_false_or_eq_true s.toList.isEmpty with h1 | h1
  · have hp := partB_not (.inl h1)
    go_enter Tryz.func31, Tryz.ntmps31
    go_wp2
    go_ret
    exact ⟨ret_bool hp.symm, Below.refl _ _⟩
  rcases Bool.eq_false_or_eq_true (s.toList == [46]) with h2 | h2
  · have hp := partB_not (.inr (.inl h2))
    go_enter Tryz.func31, Tryz.ntmps31
    go_wp2
    go_ret
    exact ⟨ret_bool hp.symm, Below.refl _ _⟩
  rcases Bool.eq_false_or_eq_true (s.toList == [46, 46]) with h3 | h3
  · have hp := partB_not (.inr (.inr h3))
    go_enter Tryz.func31, Tryz.ntmps31
    go_wp2
    go_ret
    exact ⟨ret_bool hp.symm, Below.refl _ _⟩
  have hp := Lib.hid (partB_of h1 h2 h3)
  go_enter Tryz.func31, Tryz.ntmps31
  go_wp2
  clear h1 h2 h3
  go_loopw [4] (fun _ w' => ∃ k : Nat, k ≤ s.size ∧ (∀ j (hj : j < s.size), j < k → okC (s[j]'hj).toNat = true) ∧ w' = w.iter s k) (fun _ w' => s.size - w'.iterPos w.heap.size)
  case atStart => exact ⟨0, by omega, fun j _ h => by omega, rfl⟩
  case round =>
    obtain ⟨k, hk, hok, rfl⟩ := hrel
    have HOK := Lib.hid hok
    clear hok
    by_cases hlt : k < s.size
    · have hub : (s[k]'hlt).toNat < 256 := (s[k]'hlt).toNat_lt
      by_cases ha : (s[k]'hlt).toNat < 128
      · have hnx : ∀ ty, (Instr.next (.pointer (some ⟨w.heap.size, 0, none⟩)) true ty).run Tryz.prog (w.iter s k) = _ := fun ty => run_next_ascii w s k ty hlt ha
        go_wp2_with (first | (go_at_call 46; refine (letter_calls _ _).mono ?_; rintro e w' ⟨rfl, rfl⟩) | (go_at_call 47; refine (digit_calls _ _).mono ?_; rintro e w' ⟨rfl, rfl⟩))
        all_goals first
          | (go_ret
             refine ⟨ret_bool ?_, iter_below⟩
             rw [hp.out]
             refine (okBytes_false hlt ?_).symm
             simp_all [okC])
          | (go_roundw
             case rel =>
               refine ⟨k + 1, by omega, fun j hj h => ?_, rfl⟩
               by_cases e : j = k
               · subst e
                 simp_all [okC]
               · exact HOK.out j hj (by omega)
             case measure => simp; omega)
      · obtain ⟨hd, _⟩ := decode_high s k hlt (by omega)
        have hd2 := decode_le s k
        have hz : okC ((Utf8.decode s k).1 : Int) = false := okC_high (by omega)
        have hz2 : okC (((s[k]'hlt).toNat : Nat) : Int) = false := okC_high (by omega)
        have HZ := Lib.hid hz
        have HZ2 := Lib.hid hz2
        clear hz hz2
        have hnx : ∀ ty, (Instr.next (.pointer (some ⟨w.heap.size, 0, none⟩)) true ty).run Tryz.prog (w.iter s k) = _ := fun ty => run_next_any w s k ty hlt
        go_wp2_with (first | (go_at_call 46; refine (letter_calls _ _).mono ?_; rintro e w' ⟨rfl, rfl⟩) | (go_at_call 47; refine (digit_calls _ _).mono ?_; rintro e w' ⟨rfl, rfl⟩))
        all_goals first
          | (go_ret
             refine ⟨ret_bool ?_, iter_below⟩
             rw [hp.out]
             exact (okBytes_false hlt HZ2.out).symm)
          | (exfalso
             have := HZ.out
             simp_all [okC]
             done)
    · have hnx : ∀ ty, (Instr.next (.pointer (some ⟨w.heap.size, 0, none⟩)) true ty).run Tryz.prog (w.iter s k) = _ := fun ty => run_next_end w s k ty hlt
      go_wp2
      go_ret
      exact ⟨ret_bool (by rw [hp.out, okBytes_true fun i hi => HOK.out i hi (by omega)]), iter_below⟩
end Go.Proofs

namespace Go.Proofs
open Go.RowKit

/-- From byte i on (n are left), the part having begun at 'from'. -/
def pathGo (s : ByteArray) : Nat → Nat → Nat → Bool
  | 0, frm, _ => partB (s.extract frm s.size)
  | n + 1, frm, i => bif decide ((s.data.toList.getD i 0).toNat = 47) then partB (s.extract frm i) && pathGo s n (i + 1) (i + 1) else pathGo s n frm (i + 1)
/-- A path. -/
def pathB (s : ByteArray) : Bool := decide (1 ≤ s.size) && decide (s.size ≤ 64) && pathGo s s.size 0 0

theorem at_getD {s : ByteArray} {k : Nat} (h : k < s.size) : s.data.toList.getD k 0 = s[k]'h := by
  rw [List.getD_eq_getElem?_getD, List.getElem?_eq_getElem (by simpa using h)]
  rfl
theorem pathGo_slash {s : ByteArray} {n frm i : Nat} (hi : i < s.size) (h : ((s[i]'hi).toNat : Int) = 47) : pathGo s (n + 1) frm i = (partB (s.extract frm i) && pathGo s n (i + 1) (i + 1)) := by
  rw [pathGo, at_getD hi, decide_eq_true (by omega : (s[i]'hi).toNat = 47)]
  rfl
theorem pathGo_other {s : ByteArray} {n frm i : Nat} (hi : i < s.size) (h : ¬ ((s[i]'hi).toNat : Int) = 47) : pathGo s (n + 1) frm i = pathGo s n frm (i + 1) := by
  rw [pathGo, at_getD hi, decide_eq_false (by omega : ¬ (s[i]'hi).toNat = 47)]
  rfl

set_option maxHeartbeats 400000 in
theorem path_calls (s : ByteArray) (w : World) (hs : s.size ≤ 9223372036854775807) : Calls Tryz.prog 20 #[.string s] w fun e w' => e = .returned (.bool (pathB s)) ∧ Below w.heap.size w w' := by
  by_cases h1 : s.size < 1
  · have hp : pathB s = false := by simp [pathB]; omega
    have HP := Lib.hid hp
    clear hp
    have he : s.toList.isEmpty = true := by
      have : s.data.toList = [] := by
        have : s.data.toList.length = 0 := by simpa using (by omega : s.size = 0)
        exact List.length_eq_zero_iff.1 this
      simp [ByteArray.toList_eq, this]
    go_enter Tryz.func20, Tryz.ntmps20
    go_wp2
    go_ret
    exact ⟨ret_bool HP.out.symm, Below.refl _ _⟩
  have he : s.toList.isEmpty = false := by
    have : s.data.toList ≠ [] := by
      intro h
      have := congrArg List.length h
      have h2 : s.size = 0 := by simpa using this
      omega
    rw [ByteArray.toList_eq]
    cases hx : s.data.toList with
    | nil => exact absurd hx this
    | cons _ _ => rfl
  by_cases h2 : 64 < s.size
  · have hp : pathB s = false := by simp [pathB]; omega
    have HP := Lib.hid hp
    clear hp
    go_enter Tryz.func20, Tryz.ntmps20
    go_wp2
    go_ret
    exact ⟨ret_bool HP.out.symm, Below.refl _ _⟩
  have hp : pathB s = pathGo s s.size 0 0 := by simp [pathB]; omega
  have HP := Lib.hid hp
  clear hp
  go_enter Tryz.func20, Tryz.ntmps20
  go_wp2
  clear he
  go_loopw [3, 4] (fun f i w' => ∃ k m : Nat, k ≤ s.size + 1 ∧ m ≤ k ∧ (k ≤ s.size → pathGo s (s.size - k) m k = pathGo s s.size 0 0) ∧ (k = s.size + 1 → pathGo s s.size 0 0 = true) ∧ Below w.heap.size w w' ∧ i = .int .i64 k ∧ f = .int .i64 m) (fun _ i _ => s.size + 1 - (intOf i).toNat)
  case atStart => exact ⟨0, 0, by omega, by omega, fun _ => rfl, fun h => by omega, Below.refl _ _, rfl, rfl⟩
  case round =>
    rename_i wr hrel
    obtain ⟨k, m, hk, hm, hgo, hend, hbel, rfl, rfl⟩ := hrel
    have HG := Lib.hid hgo
    have HE := Lib.hid hend
    have HB := Lib.hid hbel
    clear hgo hend hbel
    by_cases hlt : k < s.size
    · have hub : (s[k]'hlt).toNat < 256 := (s[k]'hlt).toNat_lt
      have hsz : (s.extract m k).size ≤ 9223372036854775807 := by simp; omega
      by_cases hsl : ((s[k]'hlt).toNat : Int) = 47
      · have hn := pathGo_slash (n := s.size - (k + 1)) (frm := m) hlt hsl
        rw [show s.size - (k + 1) + 1 = s.size - k by omega] at hn
        have HN := Lib.hid hn
        clear hn
        go_wp2_with (first | (go_at_call 31; refine (part_calls _ _ hsz).mono ?_; rintro e w' ⟨rfl, hb⟩; have HB2 := Lib.hid (HB.out.trans (hb.mono HB.out.size)); clear hb))
        · have hf : (!partB (s.extract m k)) = true := by assumption
          go_ret
          refine ⟨ret_bool ?_, HB2.out⟩
          rw [HP.out, ← HG.out (by omega), HN.out]
          simp only [Bool.not_eq_true'] at hf
          rw [hf]
          rfl
        · have hf : (!partB (s.extract m k)) = false := by assumption
          have HF := Lib.hid hf
          clear hf
          go_roundw
          case rel =>
            refine ⟨k + 1, k + 1, by omega, by omega, fun _ => ?_, fun h => by omega, HB2.out, by go_num, by go_num⟩
            have hf := HF.out
            simp only [Bool.not_eq_false'] at hf
            rw [← HG.out (by omega), HN.out, hf]
            rfl
          case measure => simp [intOf]; omega
      · have hn := pathGo_other (n := s.size - (k + 1)) (frm := m) hlt hsl
        rw [show s.size - (k + 1) + 1 = s.size - k by omega] at hn
        have HN := Lib.hid hn
        clear hn
        go_wp2
        go_roundw
        case rel => exact ⟨k + 1, m, by omega, by omega, fun _ => by rw [← HG.out (by omega), HN.out], fun h => by omega, HB.out, by go_num, rfl⟩
        case measure => simp [intOf]; omega
    · by_cases heq : k = s.size
      · subst heq
        have hsz : (s.extract m s.size).size ≤ 9223372036854775807 := by simp; omega
        go_wp2_with (first | (go_at_call 31; refine (part_calls _ _ hsz).mono ?_; rintro e w' ⟨rfl, hb⟩; have HB2 := Lib.hid (HB.out.trans (hb.mono HB.out.size)); clear hb))
        · have hf : (!partB (s.extract m s.size)) = true := by assumption
          go_ret
          refine ⟨ret_bool ?_, HB2.out⟩
          rw [HP.out, ← HG.out (by omega), Nat.sub_self]
          simp only [Bool.not_eq_true'] at hf
          exact hf.symm
        · have hf : (!partB (s.extract m s.size)) = false := by assumption
          have HF := Lib.hid hf
          clear hf
          go_roundw
          case rel =>
            refine ⟨s.size + 1, s.size + 1, by omega, by omega, fun h => by omega, fun _ => ?_, HB2.out, by go_num, by go_num⟩
            have hf := HF.out
            simp only [Bool.not_eq_false'] at hf
            rw [← HG.out (by omega), Nat.sub_self]
            exact hf
          case measure => simp [intOf]
      · obtain rfl : k = s.size + 1 := by omega
        go_wp2
        go_ret
        exact ⟨ret_bool (by rw [HP.out, HE.out (by first | rfl | trivial)]), HB.out⟩
end Go.Proofs
