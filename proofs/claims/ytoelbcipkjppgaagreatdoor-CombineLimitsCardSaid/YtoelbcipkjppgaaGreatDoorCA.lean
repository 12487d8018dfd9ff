/-
  Files in memory; small functions: letters, digits, parts of paths (the program's and the reference's). Paths: the program's and the reference's. The check of a project's files. The reference's check of a project's files; both, whatever the slice. Slices of files, whether nil or not; the check of three versions.
-/
import Derived.Test.YtoelbcipkjppgaaGreatDoorProg
import Derived.WalkKit
import Derived.Below
import Derived.Outline
import Derived.Lib.Hide
import Derived.Laws.RangeString
import Derived.Laws.RangeAny
import Derived.WalkLawsBesides
import Derived.BigQuiet
import Derived.Deep.QuietTactic
import Derived.IntWalk
import Derived.Sort.Walk0
set_option linter.all false

namespace Go.Proofs
open Go.RowKit

/-- A file: its path, its text. -/
abbrev FileT := ByteArray × ByteArray

/-- The cells of a slice of files. -/
def FilesAt (w : World) (b off : Nat) (l : List FileT) : Prop :=
  ∀ i (f : FileT), l[i]? = some f → w.cell? ⟨b, off + i * 2, none⟩ = some (.string f.1) ∧ w.cell? ⟨b, off + i * 2 + 1, none⟩ = some (.string f.2)

theorem ret_bool {a b : Bool} (h : a = b) : Ending.returned (.bool a) = .returned (.bool b) := by rw [h]
theorem ret_int {k : IntKind} {a b : Int} (h : a = b) : Ending.returned (.int k a) = .returned (.int k b) := by rw [h]

def letterB (c : Int) : Bool := decide (97 ≤ c ∧ c ≤ 122) || decide (65 ≤ c ∧ c ≤ 90) || decide (c = 95)
def digitB (c : Int) : Bool := decide (48 ≤ c ∧ c ≤ 57)

theorem letter_calls (c : Int) (w : World) : Calls Tryz.prog 58 #[.int .i32 c] w fun e w' => e = .returned (.bool (letterB c)) ∧ w = w' := by
  go_enter Tryz.func58, Tryz.ntmps58
  go_wp2
  all_goals
    go_ret
    refine ⟨ret_bool ?_, rfl⟩
    rw [Bool.eq_iff_iff]
    simp [letterB]
    try omega

theorem digit_calls (c : Int) (w : World) : Calls Tryz.prog 59 #[.int .i32 c] w fun e w' => e = .returned (.bool (digitB c)) ∧ w = w' := by
  go_enter Tryz.func59, Tryz.ntmps59
  go_wp2
  all_goals
    go_ret
    refine ⟨ret_bool ?_, rfl⟩
    rw [Bool.eq_iff_iff]
    simp [digitB]
    try omega

theorem r03letter_calls (c : Int) (w : World) : Calls Tryz.prog 77 #[.int .u8 c] w fun e w' => e = .returned (.bool (letterB c)) ∧ w = w' := by
  go_enter Tryz.func77, Tryz.ntmps77
  go_wp2
  all_goals
    go_ret
    refine ⟨ret_bool ?_, rfl⟩
    rw [Bool.eq_iff_iff]
    simp [letterB]
    try omega

theorem r03digit_calls (c : Int) (w : World) : Calls Tryz.prog 78 #[.int .u8 c] w fun e w' => e = .returned (.bool (digitB c)) ∧ w = w' := by
  go_enter Tryz.func78, Tryz.ntmps78
  go_wp2
  all_goals
    go_ret
    refine ⟨ret_bool ?_, rfl⟩
    rw [Bool.eq_iff_iff]
    simp [digitB]
    try omega

/-- A byte of a part of a path. -/
def okC (c : Int) : Bool := letterB c || digitB c || decide (c = 45) || decide (c = 46)
def okBytes (s : ByteArray) : Bool := s.data.toList.all fun c => okC c.toNat
/-- A part of a path. -/
def partB (s : ByteArray) : Bool := !s.toList.isEmpty && !(s.toList == [46]) && !(s.toList == [46, 46]) && okBytes s

theorem okC_high {c : Int} (h : 128 ≤ c) : okC c = false := by
  simp [okC, letterB, digitB]; omega

theorem okBytes_true {s : ByteArray} (h : ∀ i (hi : i < s.size), okC (s[i]'hi).toNat = true) : okBytes s = true := by
  unfold okBytes
  rw [List.all_eq_true]
  intro c hc
  obtain ⟨i, hi, rfl⟩ := List.getElem_of_mem hc
  exact h i (by simpa using hi)
theorem okBytes_false {s : ByteArray} {i : Nat} (hi : i < s.size) (h : okC (s[i]'hi).toNat = false) : okBytes s = false := by
  unfold okBytes
  rw [List.all_eq_false]
  exact ⟨s[i]'hi, List.getElem_mem (l := s.data.toList) (by simpa using hi), by rw [h]; simp⟩

theorem partB_not {s : ByteArray} (h : s.toList.isEmpty = true ∨ (s.toList == [46]) = true ∨ (s.toList == [46, 46]) = true) : partB s = false := by
  unfold partB
  rcases h with h | h | h <;> simp [h]
theorem partB_of {s : ByteArray} (h1 : s.toList.isEmpty = false) (h2 : (s.toList == [46]) = false) (h3 : (s.toList == [46, 46]) = false) : partB s = okBytes s := by
  unfold partB
  simp [h1, h2, h3]

set_option maxHeartbeats 400000 in
theorem r03part_calls (s : ByteArray) (w : World) (hs : s.size ≤ 9223372036854775807) : Calls Tryz.prog 49 #[.string s] w fun e w' => e = .returned (.bool (partB s)) ∧ w = w' := by
  rcases Bool.eq_false_or_eq_true s.toList.isEmpty with h1 | h1
  · have hp := partB_not (.inl h1)
    go_enter Tryz.func49, Tryz.ntmps49
    go_wp2
    go_ret
    exact ⟨ret_bool hp.symm, rfl⟩
  rcases Bool.eq_false_or_eq_true (s.toList == [46]) with h2 | h2
  · have hp := partB_not (.inr (.inl h2))
    go_enter Tryz.func49, Tryz.ntmps49
    go_wp2
    go_ret
    exact ⟨ret_bool hp.symm, rfl⟩
  rcases Bool.eq_false_or_eq_true (s.toList == [46, 46]) with h3 | h3
  · have hp := partB_not (.inr (.inr h3))
    go_enter Tryz.func49, Tryz.ntmps49
    go_wp2
    go_ret
    exact ⟨ret_bool hp.symm, rfl⟩
  have hp := Lib.hid (partB_of h1 h2 h3)
  go_enter Tryz.func49, Tryz.ntmps49
  go_wp2
  clear h1 h2 h3
  go_loop [3] (fun i => ∃ k : Nat, k ≤ s.size ∧ (∀ j (hj : j < s.size), j < k → okC (s[j]'hj).toNat = true) ∧ i = .int .i64 k) (fun i => s.size - (intOf i).toNat)
  case atStart => exact ⟨0, by omega, fun j _ h => by omega, rfl⟩
  case round =>
    obtain ⟨k, hk, hok, rfl⟩ := hrel
    have HOK := Lib.hid hok
    clear hok
    by_cases hlt : k < s.size
    · have hub : (s[k]'hlt).toNat < 256 := (s[k]'hlt).toNat_lt
      go_wp2_with (first | (go_at_call 77; refine (r03letter_calls _ _).mono ?_; rintro e w' ⟨rfl, rfl⟩) | (go_at_call 78; refine (r03digit_calls _ _).mono ?_; rintro e w' ⟨rfl, rfl⟩))
      all_goals first
        | (go_ret
           refine ⟨ret_bool ?_, rfl⟩
           rw [hp.out]
           refine (okBytes_false hlt ?_).symm
           simp_all [okC])
        | (go_round
           case rel =>
             refine ⟨k + 1, by omega, fun j hj h => ?_, by go_num⟩
             by_cases e : j = k
             · subst e
               simp_all [okC]
             · exact HOK.out j hj (by omega)
           case measure => simp [intOf]; omega)
    · go_wp2
      go_ret
      exact ⟨ret_bool (by rw [hp.out, okBytes_true fun i hi => HOK.out i hi (by omega)]), rfl⟩

theorem width_pos (s : ByteArray) (pos : Nat) (h : pos < s.size) : 1 ≤ (Utf8.decode s pos).2 := by
  by_cases ha : (s[pos]'h).toNat < 128
  · rw [decode_ascii s pos h ha]
    exact Nat.le_refl _
  · exact (decode_high s pos h (by omega)).2

theorem iter_below {w : World} {s : ByteArray} {p : Nat} : Below w.heap.size w (w.iter s p) := (Below.refl _ _).alloc (Nat.le_refl _) _

set_option maxHeartbeats 400000 in
theorem part_calls (s : ByteArray) (w : World) (hs : s.size ≤ 9223372036854775807) : Calls Tryz.prog 43 #[.string s] w fun e w' => e = .returned (.bool (partB s)) ∧ Below w.heap.size w w' := by
  rcases Bool.eq_false_or_eq_true s.toList.isEmpty with h1 | h1
  · have hp := partB_not (.inl h1)
    go_enter Tryz.func43, Tryz.ntmps43
    go_wp2
    go_ret
    exact ⟨ret_bool hp.symm, Below.refl _ _⟩
  rcases Bool.eq_false_or_eq_true (s.toList == [46]) with h2 | h2
  · have hp := partB_not (.inr (.inl h2))
    go_enter Tryz.func43, Tryz.ntmps43
    go_wp2
    go_ret
    exact ⟨ret_bool hp.symm, Below.refl _ _⟩
  rcases Bool.eq_false_or_eq_true (s.toList == [46, 46]) with h3 | h3
  · have hp := partB_not (.inr (.inr h3))
    go_enter Tryz.func43, Tryz.ntmps43
    go_wp2
    go_ret
    exact ⟨ret_bool hp.symm, Below.refl _ _⟩
  have hp := Lib.hid (partB_of h1 h2 h3)
  go_enter Tryz.func43, Tryz.ntmps43
  go_wp2
  clear h1 h2 h3
  go_loopw [4] (fun _ w' => ∃ k : Nat, k ≤ s.size ∧ (∀ j (hj : j < s.size), j < k → okC (s[j]'hj).toNat = true) ∧ w' = w.iter s k) (fun _ w' => s.size - w'.iterPos w.heap.size)
  case atStart => exact ⟨0, by omega, fun j _ h => by omega, rfl⟩
  case round =>
    obtain ⟨k, hk, hok, rfl⟩ := hrel
    have HOK := Lib.hid hok
    clear hok
    by_cases hlt : k < s.size
    · have hub : (s[k]'hlt).toNat < 256 := (s[k]'hlt).toNat_lt
      by_cases ha : (s[k]'hlt).toNat < 128
      · have hnx : ∀ ty, (Instr.next (.pointer (some ⟨w.heap.size, 0, none⟩)) true ty).run Tryz.prog (w.iter s k) = _ := fun ty => run_next_ascii w s k ty hlt ha
        go_wp2_with (first | (go_at_call 58; refine (letter_calls _ _).mono ?_; rintro e w' ⟨rfl, rfl⟩) | (go_at_call 59; refine (digit_calls _ _).mono ?_; rintro e w' ⟨rfl, rfl⟩))
        all_goals first
          | (go_ret
             refine ⟨ret_bool ?_, iter_below⟩
             rw [hp.out]
             refine (okBytes_false hlt ?_).symm
             simp_all [okC])
          | (go_roundw
             case rel =>
               refine ⟨k + 1, by omega, fun j hj h => ?_, rfl⟩
               by_cases e : j = k
               · subst e
                 simp_all [okC]
               · exact HOK.out j hj (by omega)
             case measure => simp; omega)
      · obtain ⟨hd, _⟩ := decode_high s k hlt (by omega)
        have hd2 := decode_le s k
        have hz : okC ((Utf8.decode s k).1 : Int) = false := okC_high (by omega)
        have hz2 : okC (((s[k]'hlt).toNat : Nat) : Int) = false := okC_high (by omega)
        have HZ := Lib.hid hz
        have HZ2 := Lib.hid hz2
        clear hz hz2
        have hnx : ∀ ty, (Instr.next (.pointer (some ⟨w.heap.size, 0, none⟩)) true ty).run Tryz.prog (w.iter s k) = _ := fun ty => run_next_any w s k ty hlt
        go_wp2_with (first | (go_at_call 58; refine (letter_calls _ _).mono ?_; rintro e w' ⟨rfl, rfl⟩) | (go_at_call 59; refine (digit_calls _ _).mono ?_; rintro e w' ⟨rfl, rfl⟩))
        all_goals first
          | (go_ret
             refine ⟨ret_bool ?_, iter_below⟩
             rw [hp.out]
             exact (okBytes_false hlt HZ2.out).symm)
          | (exfalso
             have := HZ.out
             simp_all [okC]
             done)
    · have hnx : ∀ ty, (Instr.next (.pointer (some ⟨w.heap.size, 0, none⟩)) true ty).run Tryz.prog (w.iter s k) = _ := fun ty => run_next_end w s k ty hlt
      go_wp2
      go_ret
      exact ⟨ret_bool (by rw [hp.out, okBytes_true fun i hi => HOK.out i hi (by omega)]), iter_below⟩
end Go.Proofs

namespace Go.Proofs
open Go.RowKit

/-- From byte i on (n are left), the part having begun at 'from'. -/
def pathGo (s : ByteArray) : Nat → Nat → Nat → Bool
  | 0, frm, _ => partB (s.extract frm s.size)
  | n + 1, frm, i => bif decide ((s.data.toList.getD i 0).toNat = 47) then partB (s.extract frm i) && pathGo s n (i + 1) (i + 1) else pathGo s n frm (i + 1)
/-- A path. -/
def pathB (s : ByteArray) : Bool := decide (1 ≤ s.size) && decide (s.size ≤ 64) && pathGo s s.size 0 0

theorem at_getD {s : ByteArray} {k : Nat} (h : k < s.size) : s.data.toList.getD k 0 = s[k]'h := by
  rw [List.getD_eq_getElem?_getD, List.getElem?_eq_getElem (by simpa using h)]
  rfl
theorem pathGo_slash {s : ByteArray} {n frm i : Nat} (hi : i < s.size) (h : ((s[i]'hi).toNat : Int) = 47) : pathGo s (n + 1) frm i = (partB (s.extract frm i) && pathGo s n (i + 1) (i + 1)) := by
  rw [pathGo, at_getD hi, decide_eq_true (by omega : (s[i]'hi).toNat = 47)]
  rfl
theorem pathGo_other {s : ByteArray} {n frm i : Nat} (hi : i < s.size) (h : ¬ ((s[i]'hi).toNat : Int) = 47) : pathGo s (n + 1) frm i = pathGo s n frm (i + 1) := by
  rw [pathGo, at_getD hi, decide_eq_false (by omega : ¬ (s[i]'hi).toNat = 47)]
  rfl

set_option maxHeartbeats 400000 in
theorem r03path_calls (s : ByteArray) (w : World) (hs : s.size ≤ 9223372036854775807) : Calls Tryz.prog 39 #[.string s] w fun e w' => e = .returned (.bool (pathB s)) ∧ w = w' := by
  by_cases h1 : s.size < 1
  · have hp : pathB s = false := by simp [pathB]; omega
    have HP := Lib.hid hp
    clear hp
    go_enter Tryz.func39, Tryz.ntmps39
    go_wp2
    go_ret
    exact ⟨ret_bool HP.out.symm, rfl⟩
  by_cases h2 : 64 < s.size
  · have hp : pathB s = false := by simp [pathB]; omega
    have HP := Lib.hid hp
    clear hp
    go_enter Tryz.func39, Tryz.ntmps39
    go_wp2
    go_ret
    exact ⟨ret_bool HP.out.symm, rfl⟩
  have hp : pathB s = pathGo s s.size 0 0 := by simp [pathB]; omega
  have HP := Lib.hid hp
  clear hp
  go_enter Tryz.func39, Tryz.ntmps39
  go_wp2
  go_loop [3, 4] (fun f i => ∃ k m : Nat, k ≤ s.size ∧ m ≤ k ∧ pathGo s (s.size - k) m k = pathGo s s.size 0 0 ∧ i = .int .i64 k ∧ f = .int .i64 m) (fun _ i => s.size - (intOf i).toNat)
  case atStart => exact ⟨0, 0, by omega, by omega, rfl, rfl, rfl⟩
  case round =>
    obtain ⟨k, m, hk, hm, hgo, rfl, rfl⟩ := hrel
    have HG := Lib.hid hgo
    clear hgo
    by_cases hlt : k < s.size
    · have hub : (s[k]'hlt).toNat < 256 := (s[k]'hlt).toNat_lt
      have hsz : (s.extract m k).size ≤ 9223372036854775807 := by simp; omega
      by_cases hsl : ((s[k]'hlt).toNat : Int) = 47
      · have hn := pathGo_slash (n := s.size - (k + 1)) (frm := m) hlt hsl
        rw [show s.size - (k + 1) + 1 = s.size - k by omega] at hn
        have HN := Lib.hid hn
        clear hn
        go_wp2_with (first | (go_at_call 49; refine (r03part_calls _ _ hsz).mono ?_; rintro e w' ⟨rfl, rfl⟩))
        · have hf : (!partB (s.extract m k)) = true := by assumption
          go_ret
          refine ⟨ret_bool ?_, rfl⟩
          rw [HP.out, ← HG.out, HN.out]
          simp only [Bool.not_eq_true'] at hf
          rw [hf]
          rfl
        · have hf : (!partB (s.extract m k)) = false := by assumption
          have HF := Lib.hid hf
          clear hf
          go_round
          case rel =>
            refine ⟨k + 1, k + 1, by omega, by omega, ?_, by go_num, by go_num⟩
            have hf := HF.out
            simp only [Bool.not_eq_false'] at hf
            rw [← HG.out, HN.out, hf]
            rfl
          case measure => simp [intOf]; omega
      · have hn := pathGo_other (n := s.size - (k + 1)) (frm := m) hlt hsl
        rw [show s.size - (k + 1) + 1 = s.size - k by omega] at hn
        have HN := Lib.hid hn
        clear hn
        go_wp2
        go_round
        case rel => exact ⟨k + 1, m, by omega, by omega, by rw [← HG.out, HN.out], by go_num, rfl⟩
        case measure => simp [intOf]; omega
    · obtain rfl : k = s.size := by omega
      go_wp2_with (first | (go_at_call 49; refine (r03part_calls _ _ (by simp; omega)).mono ?_; rintro e w' ⟨rfl, rfl⟩))
      go_ret
      refine ⟨ret_bool ?_, rfl⟩
      rw [HP.out, ← HG.out, Nat.sub_self]
      rfl

set_option maxHeartbeats 400000 in
theorem path_calls (s : ByteArray) (w : World) (hs : s.size ≤ 9223372036854775807) : Calls Tryz.prog 35 #[.string s] w fun e w' => e = .returned (.bool (pathB s)) ∧ Below w.heap.size w w' := by
  by_cases h1 : s.size < 1
  · have hp : pathB s = false := by simp [pathB]; omega
    have HP := Lib.hid hp
    clear hp
    have he : s.toList.isEmpty = true := by
      have : s.data.toList = [] := by
        have : s.data.toList.length = 0 := by simpa using (by omega : s.size = 0)
        exact List.length_eq_zero_iff.1 this
      simp [ByteArray.toList_eq, this]
    go_enter Tryz.func35, Tryz.ntmps35
    go_wp2
    go_ret
    exact ⟨ret_bool HP.out.symm, Below.refl _ _⟩
  have he : s.toList.isEmpty = false := by
    have : s.data.toList ≠ [] := by
      intro h
      have := congrArg List.length h
      have h2 : s.size = 0 := by simpa using this
      omega
    rw [ByteArray.toList_eq]
    cases hx : s.data.toList with
    | nil => exact absurd hx this
    | cons _ _ => rfl
  by_cases h2 : 64 < s.size
  · have hp : pathB s = false := by simp [pathB]; omega
    have HP := Lib.hid hp
    clear hp
    go_enter Tryz.func35, Tryz.ntmps35
    go_wp2
    go_ret
    exact ⟨ret_bool HP.out.symm, Below.refl _ _⟩
  have hp : pathB s = pathGo s s.size 0 0 := by simp [pathB]; omega
  have HP := Lib.hid hp
  clear hp
  go_enter Tryz.func35, Tryz.ntmps35
  go_wp2
  clear he
  go_loopw [3, 4] (fun f i w' => ∃ k m : Nat, k ≤ s.size + 1 ∧ m ≤ k ∧ (k ≤ s.size → pathGo s (s.size - k) m k = pathGo s s.size 0 0) ∧ (k = s.size + 1 → pathGo s s.size 0 0 = true) ∧ Below w.heap.size w w' ∧ i = .int .i64 k ∧ f = .int .i64 m) (fun _ i _ => s.size + 1 - (intOf i).toNat)
  case atStart => exact ⟨0, 0, by omega, by omega, fun _ => rfl, fun h => by omega, Below.refl _ _, rfl, rfl⟩
  case round =>
    rename_i wr hrel
    obtain ⟨k, m, hk, hm, hgo, hend, hbel, rfl, rfl⟩ := hrel
    have HG := Lib.hid hgo
    have HE := Lib.hid hend
    have HB := Lib.hid hbel
    clear hgo hend hbel
    by_cases hlt : k < s.size
    · have hub : (s[k]'hlt).toNat < 256 := (s[k]'hlt).toNat_lt
      have hsz : (s.extract m k).size ≤ 9223372036854775807 := by simp; omega
      by_cases hsl : ((s[k]'hlt).toNat : Int) = 47
      · have hn := pathGo_slash (n := s.size - (k + 1)) (frm := m) hlt hsl
        rw [show s.size - (k + 1) + 1 = s.size - k by omega] at hn
        have HN := Lib.hid hn
        clear hn
        go_wp2_with (first | (go_at_call 43; refine (part_calls _ _ hsz).mono ?_; rintro e w' ⟨rfl, hb⟩; have HB2 := Lib.hid (HB.out.trans (hb.mono HB.out.size)); clear hb))
        · have hf : (!partB (s.extract m k)) = true := by assumption
          go_ret
          refine ⟨ret_bool ?_, HB2.out⟩
          rw [HP.out, ← HG.out (by omega), HN.out]
          simp only [Bool.not_eq_true'] at hf
          rw [hf]
          rfl
        · have hf : (!partB (s.extract m k)) = false := by assumption
          have HF := Lib.hid hf
          clear hf
          go_roundw
          case rel =>
            refine ⟨k + 1, k + 1, by omega, by omega, fun _ => ?_, fun h => by omega, HB2.out, by go_num, by go_num⟩
            have hf := HF.out
            simp only [Bool.not_eq_false'] at hf
            rw [← HG.out (by omega), HN.out, hf]
            rfl
          case measure => simp [intOf]; omega
      · have hn := pathGo_other (n := s.size - (k + 1)) (frm := m) hlt hsl
        rw [show s.size - (k + 1) + 1 = s.size - k by omega] at hn
        have HN := Lib.hid hn
        clear hn
        go_wp2
        go_roundw
        case rel => exact ⟨k + 1, m, by omega, by omega, fun _ => by rw [← HG.out (by omega), HN.out], fun h => by omega, HB.out, by go_num, rfl⟩
        case measure => simp [intOf]; omega
    · by_cases heq : k = s.size
      · subst heq
        have hsz : (s.extract m s.size).size ≤ 9223372036854775807 := by simp; omega
        go_wp2_with (first | (go_at_call 43; refine (part_calls _ _ hsz).mono ?_; rintro e w' ⟨rfl, hb⟩; have HB2 := Lib.hid (HB.out.trans (hb.mono HB.out.size)); clear hb))
        · have hf : (!partB (s.extract m s.size)) = true := by assumption
          go_ret
          refine ⟨ret_bool ?_, HB2.out⟩
          rw [HP.out, ← HG.out (by omega), Nat.sub_self]
          simp only [Bool.not_eq_true'] at hf
          exact hf.symm
        · have hf : (!partB (s.extract m s.size)) = false := by assumption
          have HF := Lib.hid hf
          clear hf
          go_roundw
          case rel =>
            refine ⟨s.size + 1, s.size + 1, by omega, by omega, fun h => by omega, fun _ => ?_, HB2.out, by go_num, by go_num⟩
            have hf := HF.out
            simp only [Bool.not_eq_false'] at hf
            rw [← HG.out (by omega), Nat.sub_self]
            exact hf
          case measure => simp [intOf]
      · obtain rfl : k = s.size + 1 := by omega
        go_wp2
        go_ret
        exact ⟨ret_bool (by rw [HP.out, HE.out (by first | rfl | trivial)]), HB.out⟩
end Go.Proofs

namespace Go.Proofs
open Go.RowKit

/-- x ≤ y. -/
def leS (x y : ByteArray) : Bool := Op.bytesLess x.toList y.toList || x.toList == y.toList

def badPath (l : List FileT) : Prop := ∃ f ∈ l, pathB f.1 = false
def badOrder (l : List FileT) : Prop := ∃ i a b, l[i]? = some a ∧ l[i + 1]? = some b ∧ leS b.1 a.1 = true
def badSize (l : List FileT) : Prop := ∃ f ∈ l, 65536 < f.2.size
open Classical in
/-- The error of a project's files. -/
noncomputable def chkE (l : List FileT) : Int := if 32 < l.length then 3 else if badPath l then 4 else if badOrder l then 14 else if badSize l then 3 else 0

theorem chkE_long {l : List FileT} (h : 32 < l.length) : chkE l = 3 := by unfold chkE; rw [if_pos h]
theorem chkE_path {l : List FileT} (h : ¬ 32 < l.length) (h1 : badPath l) : chkE l = 4 := by unfold chkE; rw [if_neg h, if_pos h1]
theorem chkE_order {l : List FileT} (h : ¬ 32 < l.length) (h1 : ¬ badPath l) (h2 : badOrder l) : chkE l = 14 := by unfold chkE; rw [if_neg h, if_neg h1, if_pos h2]
theorem chkE_size {l : List FileT} (h : ¬ 32 < l.length) (h1 : ¬ badPath l) (h2 : ¬ badOrder l) (h3 : badSize l) : chkE l = 3 := by unfold chkE; rw [if_neg h, if_neg h1, if_neg h2, if_pos h3]
theorem chkE_ok {l : List FileT} (h : ¬ 32 < l.length) (h1 : ¬ badPath l) (h2 : ¬ badOrder l) (h3 : ¬ badSize l) : chkE l = 0 := by unfold chkE; rw [if_neg h, if_neg h1, if_neg h2, if_neg h3]

theorem not_badPath {l : List FileT} (h : ∀ j f, j < l.length → l[j]? = some f → pathB f.1 = true) : ¬ badPath l := by
  rintro ⟨f, hf, hp⟩
  obtain ⟨j, hj, rfl⟩ := List.getElem_of_mem hf
  rw [h j _ hj (List.getElem?_eq_getElem hj)] at hp
  cases hp
theorem not_badSize {l : List FileT} (h : ∀ j (f : FileT), j < l.length → l[j]? = some f → f.2.size ≤ 65536) : ¬ badSize l := by
  rintro ⟨f, hf, hp⟩
  obtain ⟨j, hj, rfl⟩ := List.getElem_of_mem hf
  have := h j _ hj (List.getElem?_eq_getElem hj)
  omega
theorem not_badOrder {l : List FileT} (h : ∀ j (a b : FileT), j + 1 < l.length → l[j]? = some a → l[j + 1]? = some b → leS b.1 a.1 = false) : ¬ badOrder l := by
  rintro ⟨i, a, b, ha, hb, hp⟩
  obtain ⟨hlt, _⟩ := List.getElem?_eq_some_iff.1 hb
  rw [h i a b hlt ha hb] at hp
  cases hp

theorem below_drewN {b n : Nat} {w wr : World} (h : Below b w wr) : Below b w (wr.drewN n) := ⟨h.os, h.tape, h.output, h.size, fun k hk => h.block k hk⟩

theorem below_cells {w wr : World} {b off : Nat} {l : List FileT} (hc : FilesAt w b off l) (hb : b < w.heap.size) (h : Below w.heap.size w wr) : FilesAt wr b off l := fun i f hf =>
  ⟨(h.cell (p := ⟨b, off + i * 2, none⟩) hb).trans (hc i f hf).1, (h.cell (p := ⟨b, off + i * 2 + 1, none⟩) hb).trans (hc i f hf).2⟩

set_option maxHeartbeats 1000000 in
theorem pcheck_calls (b off cap : Nat) (l : List FileT) (w : World) (hl : l.length ≤ 9223372036854775807) (hc : FilesAt w b off l) (hb : b < w.heap.size) (hz : ∀ f ∈ l, f.1.size ≤ 9223372036854775807) :
    Calls Tryz.prog 26 #[.slice (some ⟨b, off, none⟩) l.length cap] w fun e w' => e = .returned (.int .i64 (chkE l)) ∧ Below w.heap.size w w' := by
  go_enter Tryz.func26, Tryz.ntmps26
  by_cases h32 : 32 < l.length
  · have HP := Lib.hid (chkE_long h32)
    go_wp2
    go_ret
    exact ⟨ret_int HP.out.symm, Below.refl _ _⟩
  · have H32 := Lib.hid h32
    go_wp2
    go_loopw [13] (fun i w' => ∃ k : Nat, k ≤ l.length ∧ (∀ j (f : FileT), j < k → l[j]? = some f → pathB f.1 = true) ∧ Below w.heap.size w w' ∧ i = .int .i64 k) (fun i _ => l.length - (intOf i).toNat)
    case atStart => exact ⟨0, by omega, fun j f h => by omega, Below.refl _ _, rfl⟩
    case round =>
      rename_i wr hrel
      obtain ⟨k, hk, hok, hbel, rfl⟩ := hrel
      have HB := Lib.hid hbel
      have HOK := Lib.hid hok
      clear hbel hok
      by_cases hlt : k < l.length
      · obtain ⟨f, hf⟩ : ∃ f, l[k]? = some f := ⟨l[k], List.getElem?_eq_getElem hlt⟩
        obtain ⟨d1, d2⟩ := below_cells hc hb HB.out k f hf
        have hfm := List.mem_of_getElem? hf
        have HF := Lib.hid hf
        clear hf
        go_wp2_with (first | (go_at_call 35; refine (path_calls _ _ (hz f hfm)).mono ?_; rintro e w' ⟨rfl, hb2⟩; have HB2 := Lib.hid (HB.out.trans ((((Below.refl _ _).alloc (Nat.le_refl _) _).trans (hb2.mono (by simp))).mono HB.out.size)); clear hb2))
        · have hp : (!pathB f.fst) = true := by assumption
          go_ret
          refine ⟨ret_int (chkE_path H32.out ⟨f, hfm, by simpa using hp⟩).symm, HB2.out⟩
        · have hp : (!pathB f.fst) = false := by assumption
          have HP := Lib.hid hp
          clear hp
          go_roundw
          case rel =>
            refine ⟨k + 1, by omega, fun j f' h hf' => ?_, HB2.out, by go_num⟩
            by_cases e : j = k
            · subst e
              rw [HF.out] at hf'
              cases hf'
              simpa using HP.out
            · exact HOK.out j f' (by omega) hf'
          case measure => simp [intOf]; omega
      · have HN := Lib.hid (not_badPath fun j f hj hf => HOK.out j f (by omega) hf)
        clear HOK
        go_wp2
        obtain ⟨wa, rfl⟩ : ∃ wa : World, wa = wr := ⟨_, rfl⟩
        go_loopw [24] (fun i w' => ∃ k : Nat, k ≤ l.length ∧ (∀ j (a b : FileT), j + 1 < k → l[j]? = some a → l[j + 1]? = some b → leS b.1 a.1 = false) ∧ Below w.heap.size w w' ∧ i = .int .i64 k) (fun i _ => l.length - (intOf i).toNat)
        case atStart => exact ⟨0, by omega, fun j f h => by omega, HB.out, rfl⟩
        case round =>
          rename_i wr hrel
          obtain ⟨k, hk, hok, hbel, rfl⟩ := hrel
          have HB := Lib.hid hbel
          have HOK := Lib.hid hok
          clear hbel hok
          by_cases hlt : k < l.length
          · by_cases h0 : k = 0
            · subst h0
              go_wp2
              have hd : decide ((0 : Int) < ((0 : Nat) : Int)) = false := by simp
              go_quiet (fail)
              go_wp2
              go_roundw
              case rel => exact ⟨1, by omega, fun j _ _ h => by omega, below_drewN HB.out, rfl⟩
              case measure => simp [intOf]; omega
            · obtain ⟨m, rfl⟩ : ∃ m, k = m + 1 := ⟨k - 1, by omega⟩
              obtain ⟨a, ha⟩ : ∃ a, l[m]? = some a := ⟨l[m], List.getElem?_eq_getElem (by omega)⟩
              obtain ⟨c, hcc⟩ : ∃ c, l[m + 1]? = some c := ⟨l[m + 1], List.getElem?_eq_getElem hlt⟩
              obtain ⟨d1, _⟩ := below_cells hc hb HB.out m a ha
              obtain ⟨e1, _⟩ := below_cells hc hb HB.out (m + 1) c hcc
              go_wp2
              have hd : decide ((0 : Int) < ((m + 1 : Nat) : Int)) = true := by simp
              have hw : IntKind.i64.wrap (((m + 1 : Nat) : Int) - 1) = (m : Int) := by rw [show (((m + 1 : Nat) : Int) - 1) = (m : Int) by omega]; exact IntWalk.i64_in _ (by omega)
              go_quiet (fail)
              go_wp2
              · have ht : Op.bytesLess c.fst.toList a.fst.toList = true ∨ (c.fst.toList == a.fst.toList) = true := by assumption
                go_ret
                refine ⟨ret_int (chkE_order H32.out HN.out ⟨m, a, c, ha, hcc, ?_⟩).symm, below_drewN HB.out⟩
                simpa [leS] using ht
              · have ht : Op.bytesLess c.fst.toList a.fst.toList = false ∧ (c.fst.toList == a.fst.toList) = false := by assumption
                have HT := Lib.hid ht
                clear ht
                go_roundw
                case rel =>
                  refine ⟨m + 1 + 1, by omega, fun j x y h hx hy => ?_, below_drewN HB.out, by go_num⟩
                  by_cases e : j = m
                  · subst e
                    rw [ha] at hx
                    rw [hcc] at hy
                    cases hx
                    cases hy
                    simp [leS, HT.out.1, HT.out.2]
                  · exact HOK.out j x y (by omega) hx hy
                case measure => simp [intOf]; omega
          · have HO := Lib.hid (not_badOrder fun j x y hj hx hy => HOK.out j x y (by omega) hx hy)
            clear HOK
            go_wp2
            obtain ⟨wb, rfl⟩ : ∃ wb : World, wb = wr := ⟨_, rfl⟩
            go_loopw [46] (fun i w' => ∃ k : Nat, k ≤ l.length ∧ (∀ j (f : FileT), j < k → l[j]? = some f → f.2.size ≤ 65536) ∧ Below w.heap.size w w' ∧ i = .int .i64 k) (fun i _ => l.length - (intOf i).toNat)
            case atStart => exact ⟨0, by omega, fun j f h => by omega, HB.out, rfl⟩
            case round =>
              rename_i wr hrel
              obtain ⟨k, hk, hok, hbel, rfl⟩ := hrel
              have HB := Lib.hid hbel
              have HOK := Lib.hid hok
              clear hbel hok
              by_cases hlt : k < l.length
              · obtain ⟨f, hf⟩ : ∃ f, l[k]? = some f := ⟨l[k], List.getElem?_eq_getElem hlt⟩
                obtain ⟨d1, d2⟩ := below_cells hc hb HB.out k f hf
                have hfm := List.mem_of_getElem? hf
                have HF := Lib.hid hf
                clear hf
                have hbb : Below w.heap.size w (wr.alloc (.cells #[.string f.1, .string f.2] 37)) := HB.out.trans (((Below.refl _ _).alloc (Nat.le_refl _) _).mono HB.out.size)
                have HBB := Lib.hid hbb
                clear hbb
                by_cases h6 : 65536 < f.2.size
                · go_wp2
                  go_ret
                  exact ⟨ret_int (chkE_size H32.out HN.out HO.out ⟨f, hfm, h6⟩).symm, HBB.out⟩
                · go_wp2
                  go_roundw
                  case rel =>
                    refine ⟨k + 1, by omega, fun j f' h hf' => ?_, HBB.out, by go_num⟩
                    by_cases e : j = k
                    · subst e
                      rw [HF.out] at hf'
                      cases hf'
                      omega
                    · exact HOK.out j f' (by omega) hf'
                  case measure => simp [intOf]; omega
              · have HS := Lib.hid (not_badSize fun j f hj hf => HOK.out j f (by omega) hf)
                clear HOK
                go_wp2
                go_ret
                exact ⟨ret_int (chkE_ok H32.out HN.out HO.out HS.out).symm, HB.out⟩
end Go.Proofs

namespace Go.Proofs
open Go.RowKit

theorem lt_total_list (x y : List UInt8) : x < y ∨ x = y ∨ y < x := by
  rcases Std.lt_trichotomy x y with h | h | h
  · exact .inl h
  · exact .inr (.inl h)
  · exact .inr (.inr h)

/-- 'y ≤ x' is 'not x < y'. -/
theorem leS_eq (x y : ByteArray) : leS y x = !(Op.bytesLess x.toList y.toList) := by
  unfold leS
  rw [bytesLess_eq, bytesLess_eq]
  rcases lt_total_list x.toList y.toList with h | h | h
  · have h1 : ¬ y.toList < x.toList := fun h2 => Std.lt_irrefl (Std.lt_trans h h2)
    have h2 : ¬ y.toList = x.toList := fun e => by rw [e] at h; exact Std.lt_irrefl h
    simp [h, h1, h2]
  · have h1 : ¬ x.toList < y.toList := fun e => by rw [h] at e; exact Std.lt_irrefl e
    simp [h]
  · have h1 : ¬ x.toList < y.toList := fun h2 => Std.lt_irrefl (Std.lt_trans h h2)
    simp [h, h1]

set_option maxHeartbeats 1000000 in
theorem r11check_calls (b off cap : Nat) (l : List FileT) (w : World) (hl : l.length ≤ 9223372036854775807) (hc : FilesAt w b off l) (hb : b < w.heap.size) (hz : ∀ f ∈ l, f.1.size ≤ 9223372036854775807) :
    Calls Tryz.prog 31 #[.slice (some ⟨b, off, none⟩) l.length cap] w fun e w' => e = .returned (.int .i64 (chkE l)) ∧ Below w.heap.size w w' := by
  go_enter Tryz.func31, Tryz.ntmps31
  by_cases h32 : 32 < l.length
  · have HP := Lib.hid (chkE_long h32)
    go_wp2
    go_ret
    exact ⟨ret_int HP.out.symm, Below.refl _ _⟩
  · have H32 := Lib.hid h32
    go_wp2
    go_loop [3] (fun i => ∃ k : Nat, k ≤ l.length ∧ (∀ j (f : FileT), j < k → l[j]? = some f → pathB f.1 = true) ∧ i = .int .i64 k) (fun i => l.length - (intOf i).toNat)
    case atStart => exact ⟨0, by omega, fun j f h => by omega, rfl⟩
    case round =>
      obtain ⟨k, hk, hok, rfl⟩ := hrel
      have HOK := Lib.hid hok
      clear hok
      by_cases hlt : k < l.length
      · obtain ⟨f, hf⟩ : ∃ f, l[k]? = some f := ⟨l[k], List.getElem?_eq_getElem hlt⟩
        obtain ⟨d1, d2⟩ := hc k f hf
        have hfm := List.mem_of_getElem? hf
        have HF := Lib.hid hf
        clear hf
        go_wp2_with (first | (go_at_call 39; refine (r03path_calls _ _ (hz f hfm)).mono ?_; rintro e w' ⟨rfl, rfl⟩))
        · have hp : (!pathB f.fst) = true := by assumption
          go_ret
          refine ⟨ret_int (chkE_path H32.out ⟨f, hfm, by simpa using hp⟩).symm, Below.refl _ _⟩
        · have hp : (!pathB f.fst) = false := by assumption
          have HP := Lib.hid hp
          clear hp
          go_round
          case rel =>
            refine ⟨k + 1, by omega, fun j f' h hf' => ?_, by go_num⟩
            by_cases e : j = k
            · subst e
              rw [HF.out] at hf'
              cases hf'
              simpa using HP.out
            · exact HOK.out j f' (by omega) hf'
          case measure => simp [intOf]; omega
      · have HN := Lib.hid (not_badPath fun j f hj hf => HOK.out j f (by omega) hf)
        clear HOK
        go_wp2
        go_loopw [4] (fun i w' => ∃ k : Nat, k ≤ l.length ∧ (∀ j (a b : FileT), j < k → l[j]? = some a → l[j + 1]? = some b → leS b.1 a.1 = false) ∧ Below w.heap.size w w' ∧ i = .int .i64 ((k + 1 : Nat) : Int)) (fun i _ => l.length + 1 - (intOf i).toNat)
        case atStart => exact ⟨0, by omega, fun j f h => by omega, Below.refl _ _, rfl⟩
        case round =>
          rename_i wr hrel
          obtain ⟨k, hk, hok, hbel, rfl⟩ := hrel
          have HB := Lib.hid hbel
          have HOK := Lib.hid hok
          clear hbel hok
          by_cases hlt : k + 1 < l.length
          · obtain ⟨a, ha⟩ : ∃ a, l[k]? = some a := ⟨l[k], List.getElem?_eq_getElem (by omega)⟩
            obtain ⟨c, hcc⟩ : ∃ c, l[k + 1]? = some c := ⟨l[k + 1], List.getElem?_eq_getElem hlt⟩
            obtain ⟨d1, _⟩ := below_cells hc hb HB.out k a ha
            obtain ⟨e1, _⟩ := below_cells hc hb HB.out (k + 1) c hcc
            go_wp2
            have hw : IntKind.i64.wrap (((k + 1 : Nat) : Int) - 1) = (k : Int) := by rw [show (((k + 1 : Nat) : Int) - 1) = (k : Int) by omega]; exact IntWalk.i64_in _ (by omega)
            go_quiet (fail)
            go_wp2
            · have ht : (!Op.bytesLess a.fst.toList c.fst.toList) = true := by assumption
              go_ret
              refine ⟨ret_int (chkE_order H32.out HN.out ⟨k, a, c, ha, hcc, ?_⟩).symm, below_drewN HB.out⟩
              rw [leS_eq, ht]
            · have ht : (!Op.bytesLess a.fst.toList c.fst.toList) = false := by assumption
              have HT := Lib.hid ht
              clear ht
              go_roundw
              case rel =>
                refine ⟨k + 1, by omega, fun j x y h hx hy => ?_, below_drewN HB.out, by go_num⟩
                by_cases e : j = k
                · subst e
                  rw [ha] at hx
                  rw [hcc] at hy
                  cases hx
                  cases hy
                  rw [leS_eq, HT.out]
                · exact HOK.out j x y (by omega) hx hy
              case measure => simp [intOf]; omega
          · have HO := Lib.hid (not_badOrder fun j x y hj hx hy => HOK.out j x y (by omega) hx hy)
            clear HOK
            go_wp2
            obtain ⟨wb, rfl⟩ : ∃ wb : World, wb = wr := ⟨_, rfl⟩
            go_loop [5] (fun i => ∃ k : Nat, k ≤ l.length ∧ (∀ j (f : FileT), j < k → l[j]? = some f → f.2.size ≤ 65536) ∧ i = .int .i64 k) (fun i => l.length - (intOf i).toNat)
            case atStart => exact ⟨0, by omega, fun j f h => by omega, rfl⟩
            case round =>
              obtain ⟨k, hk, hok, rfl⟩ := hrel
              have HOK := Lib.hid hok
              clear hok
              by_cases hlt : k < l.length
              · obtain ⟨f, hf⟩ : ∃ f, l[k]? = some f := ⟨l[k], List.getElem?_eq_getElem hlt⟩
                obtain ⟨d1, d2⟩ := below_cells hc hb HB.out k f hf
                have hfm := List.mem_of_getElem? hf
                have HF := Lib.hid hf
                clear hf
                by_cases h6 : 65536 < f.2.size
                · go_wp2
                  go_ret
                  exact ⟨ret_int (chkE_size H32.out HN.out HO.out ⟨f, hfm, h6⟩).symm, HB.out⟩
                · go_wp2
                  go_round
                  case rel =>
                    refine ⟨k + 1, by omega, fun j f' h hf' => ?_, by go_num⟩
                    by_cases e : j = k
                    · subst e
                      rw [HF.out] at hf'
                      cases hf'
                      omega
                    · exact HOK.out j f' (by omega) hf'
                  case measure => simp [intOf]; omega
              · have HS := Lib.hid (not_badSize fun j f hj hf => HOK.out j f (by omega) hf)
                clear HOK
                go_wp2
                go_ret
                exact ⟨ret_int (chkE_ok H32.out HN.out HO.out HS.out).symm, HB.out⟩

theorem chkE_nil : chkE [] = 0 := by
  refine chkE_ok (by simp) ?_ ?_ ?_
  · rintro ⟨f, hf, _⟩; cases hf
  · rintro ⟨i, a, b, h, _⟩; simp at h
  · rintro ⟨f, hf, _⟩; cases hf

set_option maxHeartbeats 400000 in
theorem pcheck_nil (w : World) : Calls Tryz.prog 26 #[.slice none 0 0] w fun e w' => e = .returned (.int .i64 0) ∧ w = w' := by
  go_enter Tryz.func26, Tryz.ntmps26
  go_wp2
  refine wp_loop_rounds 1 ?_
  rw [rounds_succ]
  go_wp2
  refine wp_loop_rounds 1 ?_
  rw [rounds_succ]
  go_wp2
  refine wp_loop_rounds 1 ?_
  rw [rounds_succ]
  go_wp2
  go_ret
  exact ⟨rfl, rfl⟩

set_option maxHeartbeats 400000 in
theorem r11check_nil (w : World) : Calls Tryz.prog 31 #[.slice none 0 0] w fun e w' => e = .returned (.int .i64 0) ∧ w = w' := by
  go_enter Tryz.func31, Tryz.ntmps31
  go_wp2
  refine wp_loop_rounds 1 ?_
  rw [rounds_succ]
  go_wp2
  refine wp_loop_rounds 1 ?_
  rw [rounds_succ]
  go_wp2
  refine wp_loop_rounds 1 ?_
  rw [rounds_succ]
  go_wp2
  go_ret
  exact ⟨rfl, rfl⟩
end Go.Proofs

namespace Go.Proofs
open Go.RowKit

/-- A slice of files. -/
def FilesVal (w : World) (v : Value) (l : List FileT) : Prop :=
  (v = .slice none 0 0 ∧ l = []) ∨ ∃ b off cap, v = .slice (some ⟨b, off, none⟩) l.length cap ∧ b < w.heap.size ∧ FilesAt w b off l
def FilesOK (l : List FileT) : Prop := l.length ≤ 9223372036854775807 ∧ ∀ f ∈ l, f.1.size ≤ 9223372036854775807 ∧ f.2.size ≤ 9223372036854775807

theorem FilesVal.below {w wr : World} {v : Value} {l : List FileT} (h : FilesVal w v l) (hb : Below w.heap.size w wr) : FilesVal wr v l := by
  rcases h with h | ⟨b, off, cap, hv, hlt, hc⟩
  · exact .inl h
  · exact .inr ⟨b, off, cap, hv, Nat.lt_of_lt_of_le hlt hb.size, below_cells hc hlt hb⟩

theorem pcheck_val (v : Value) (l : List FileT) (w : World) (h : FilesVal w v l) (hl : FilesOK l) :
    Calls Tryz.prog 26 #[v] w fun e w' => e = .returned (.int .i64 (chkE l)) ∧ Below w.heap.size w w' := by
  rcases h with ⟨rfl, rfl⟩ | ⟨b, off, cap, rfl, hlt, hc⟩
  · refine (pcheck_nil w).mono ?_
    rintro e w' ⟨rfl, rfl⟩
    exact ⟨by rw [chkE_nil], Below.refl _ _⟩
  · exact pcheck_calls b off cap l w hl.1 hc hlt fun f hf => (hl.2 f hf).1

theorem r11check_val (v : Value) (l : List FileT) (w : World) (h : FilesVal w v l) (hl : FilesOK l) :
    Calls Tryz.prog 31 #[v] w fun e w' => e = .returned (.int .i64 (chkE l)) ∧ Below w.heap.size w w' := by
  rcases h with ⟨rfl, rfl⟩ | ⟨b, off, cap, rfl, hlt, hc⟩
  · refine (r11check_nil w).mono ?_
    rintro e w' ⟨rfl, rfl⟩
    exact ⟨by rw [chkE_nil], Below.refl _ _⟩
  · exact r11check_calls b off cap l w hl.1 hc hlt fun f hf => (hl.2 f hf).1

theorem chkE_le (l : List FileT) : 0 ≤ chkE l ∧ chkE l ≤ 14 := by
  unfold chkE
  split
  · omega
  split
  · omega
  split
  · omega
  split <;> omega

/-- The first error of three versions. -/
noncomputable def chk3 (a b c : List FileT) : Int := if chkE a = 0 then if chkE b = 0 then chkE c else chkE b else chkE a

set_option maxHeartbeats 1000000 in
theorem rerrors_calls (v0 v1 v2 : Value) (l0 l1 l2 : List FileT) (w : World) (h0 : FilesVal w v0 l0) (h1 : FilesVal w v1 l1) (h2 : FilesVal w v2 l2) (k0 : FilesOK l0) (k1 : FilesOK l1) (k2 : FilesOK l2) :
    Calls Tryz.prog 18 #[v0, v1, v2] w fun e w' => e = .returned (.int .i64 (chk3 l0 l1 l2)) ∧ Below w.heap.size w w' := by
  by_cases e0 : chkE l0 = 0
  · by_cases e1 : chkE l1 = 0
    · have HC : Hid (chk3 l0 l1 l2 = chkE l2) := Lib.hid (by unfold chk3; rw [if_pos e0, if_pos e1])
      have p0 : Calls Tryz.prog 31 #[v0] w fun e w' => e = .returned (.int .i64 0) ∧ Below w.heap.size w w' := by have := r11check_val v0 l0 w h0 k0; rwa [e0] at this
      have p1 : ∀ w1, Below w.heap.size w w1 → Calls Tryz.prog 31 #[v1] w1 fun e w' => e = .returned (.int .i64 0) ∧ Below w1.heap.size w1 w' := fun w1 hb => by have := r11check_val v1 l1 w1 (h1.below hb) k1; rwa [e1] at this
      clear e0 e1
      go_enter Tryz.func18, Tryz.ntmps18
      go_wp2_with fail
      refine p0.mono ?_
      rintro e w' ⟨rfl, hb⟩
      have HB := Lib.hid hb
      clear hb
      go_wp2_with fail
      refine (p1 _ HB.out).mono ?_
      rintro e w1 ⟨rfl, hb⟩
      have HB1 := Lib.hid (HB.out.trans (hb.mono HB.out.size))
      clear hb
      go_wp2_with fail
      refine (r11check_val v2 l2 _ (h2.below HB1.out) k2).mono ?_
      rintro e w2 ⟨rfl, hb⟩
      have HB2 := Lib.hid (HB1.out.trans (hb.mono HB1.out.size))
      clear hb
      go_wp2
      go_ret
      exact ⟨ret_int HC.out.symm, HB2.out⟩
    · have HC : Hid (chk3 l0 l1 l2 = chkE l1) := Lib.hid (by unfold chk3; rw [if_pos e0, if_neg e1])
      have p0 : Calls Tryz.prog 31 #[v0] w fun e w' => e = .returned (.int .i64 0) ∧ Below w.heap.size w w' := by have := r11check_val v0 l0 w h0 k0; rwa [e0] at this
      clear e0
      have p1 := fun w1 hb => r11check_val v1 l1 w1 (h1.below (wr := w1) hb) k1
      generalize chkE l1 = x at *
      go_enter Tryz.func18, Tryz.ntmps18
      go_wp2_with fail
      refine p0.mono ?_
      rintro e w' ⟨rfl, hb⟩
      have HB := Lib.hid hb
      clear hb
      go_wp2_with fail
      refine (p1 _ HB.out).mono ?_
      rintro e w1 ⟨rfl, hb⟩
      have HB1 := Lib.hid (HB.out.trans (hb.mono HB.out.size))
      clear hb
      go_wp2
      go_ret
      exact ⟨ret_int HC.out.symm, HB1.out⟩
  · have HC : Hid (chk3 l0 l1 l2 = chkE l0) := Lib.hid (by unfold chk3; rw [if_neg e0])
    have p0 := r11check_val v0 l0 w h0 k0
    generalize chkE l0 = x at *
    go_enter Tryz.func18, Tryz.ntmps18
    go_wp2_with fail
    refine p0.mono ?_
    rintro e w' ⟨rfl, hb⟩
    have HB := Lib.hid hb
    clear hb
    go_wp2
    go_ret
    exact ⟨ret_int HC.out.symm, HB.out⟩

theorem FilesVal.slice {w : World} {v : Value} {l : List FileT} (h : FilesVal w v l) : ∃ p c, v = .slice p l.length c := by
  rcases h with ⟨rfl, rfl⟩ | ⟨b, off, cap, rfl, _⟩
  · exact ⟨_, _, rfl⟩
  · exact ⟨_, _, rfl⟩

theorem below_alloc {w : World} (o : Obj) : Below w.heap.size w (w.alloc o) := (Below.refl _ _).alloc (Nat.le_refl _) _

set_option maxHeartbeats 1000000 in
theorem ccheck_calls (v0 v1 v2 : Value) (l0 l1 l2 : List FileT) (w : World) (h0 : FilesVal w v0 l0) (h1 : FilesVal w v1 l1) (h2 : FilesVal w v2 l2) (k0 : FilesOK l0) (k1 : FilesOK l1) (k2 : FilesOK l2) :
    Calls Tryz.prog 14 #[v0, v1, v2] w fun e w' => e = .returned (.int .i64 (chk3 l0 l1 l2)) ∧ Below w.heap.size w w' := by
  obtain ⟨a0, c0, rfl⟩ := h0.slice
  obtain ⟨a1, c1, rfl⟩ := h1.slice
  obtain ⟨a2, c2, rfl⟩ := h2.slice
  have p0 := fun w1 hb => pcheck_val _ l0 w1 (h0.below (wr := w1) hb) k0
  have p1 := fun w1 hb => pcheck_val _ l1 w1 (h1.below (wr := w1) hb) k1
  have p2 := fun w1 hb => pcheck_val _ l2 w1 (h2.below (wr := w1) hb) k2
  have HC : Hid (chk3 l0 l1 l2 = if chkE l0 = 0 then if chkE l1 = 0 then chkE l2 else chkE l1 else chkE l0) := Lib.hid rfl
  generalize chkE l0 = x0 at *
  generalize chkE l1 = x1 at *
  generalize chkE l2 = x2 at *
  clear h0 h1 h2
  go_enter Tryz.func14, Tryz.ntmps14
  go_wp2
  refine wp_loop_rounds 4 ?_
  rw [rounds_succ]
  go_wp2_with fail
  refine (p0 _ (below_alloc _)).mono ?_
  rintro e w1 ⟨rfl, hb⟩
  have HB := Lib.hid ((below_alloc _).trans (hb.mono (below_alloc _).size))
  have hc1 := hb.cell (p := ⟨w.heap.size, 1, none⟩) (by simp)
  have hc2 := hb.cell (p := ⟨w.heap.size, 2, none⟩) (by simp)
  have hz : w.heap.size < w1.heap.size := by have := hb.size; simp at this; omega
  have HZ := Lib.hid hz
  clear hb hz
  go_wp2
  · have ht : (x0 != 0) = true := by assumption
    have ht : ¬ x0 = 0 := by simpa using ht
    go_ret
    exact ⟨ret_int (by rw [HC.out, if_neg ht]), HB.out⟩
  · have ht : (x0 != 0) = false := by assumption
    have ht : x0 = 0 := by simpa using ht
    have HT0 := Lib.hid ht
    clear ht
    have HC2 := Lib.hid hc2
    clear hc2
    rw [rounds_succ]
    go_wp2_with fail
    refine (p1 _ HB.out).mono ?_
    rintro e w2 ⟨rfl, hb⟩
    have HB1 := Lib.hid (HB.out.trans (hb.mono HB.out.size))
    have hc2 := (hb.cell (p := ⟨w.heap.size, 2, none⟩) HZ.out).trans HC2.out
    clear hb hc1
    go_wp2
    · have ht : (x1 != 0) = true := by assumption
      have ht : ¬ x1 = 0 := by simpa using ht
      go_ret
      exact ⟨ret_int (by rw [HC.out, if_pos HT0.out, if_neg ht]), HB1.out⟩
    · have ht : (x1 != 0) = false := by assumption
      have ht : x1 = 0 := by simpa using ht
      have HT1 := Lib.hid ht
      clear ht
      rw [rounds_succ]
      go_wp2_with fail
      refine (p2 _ HB1.out).mono ?_
      rintro e w3 ⟨rfl, hb⟩
      have HB2 := Lib.hid (HB1.out.trans (hb.mono HB1.out.size))
      clear hb hc2
      go_wp2
      · have ht : (x2 != 0) = true := by assumption
        go_ret
        exact ⟨ret_int (by rw [HC.out, if_pos HT0.out, if_pos HT1.out]), HB2.out⟩
      · have ht : (x2 != 0) = false := by assumption
        have ht : x2 = 0 := by simpa using ht
        have HT2 := Lib.hid ht
        clear ht
        rw [rounds_succ]
        go_wp2
        go_ret
        exact ⟨ret_int (by rw [HC.out, if_pos HT0.out, if_pos HT1.out, HT2.out]), HB2.out⟩
end Go.Proofs
