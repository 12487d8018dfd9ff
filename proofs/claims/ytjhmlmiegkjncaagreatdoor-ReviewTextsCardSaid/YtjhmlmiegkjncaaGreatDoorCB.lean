/-
  The check of a project's files. The reference's check of a project's files; both, whatever the slice. Slices of files, whether nil or not; the check of three versions.
-/
import Derived.Test.YtjhmlmiegkjncaaGreatDoorCA
import Derived.WalkLawsBesides
import Derived.BigQuiet
import Derived.Deep.QuietTactic
import Derived.IntWalk
import Derived.Sort.Walk0
set_option linter.all false

namespace Go.Proofs
open Go.RowKit

/-- x ≤ y. -/
def leS (x y : ByteArray) : Bool := Op.bytesLess x.toList y.toList || x.toList == y.toList

def badPath (l : List FileT) : Prop := ∃ f ∈ l, pathB f.1 = false
def badOrder (l : List FileT) : Prop := ∃ i a b, l[i]? = some a ∧ l[i + 1]? = some b ∧ leS b.1 a.1 = true
def badSize (l : List FileT) : Prop := ∃ f ∈ l, 65536 < f.2.size
open Classical in
/-- The error of a project's files. -/
noncomputable def chkE (l : List FileT) : Int := if 32 < l.length then 3 else if badPath l then 4 else if badOrder l then 14 else if badSize l then 3 else 0

theorem chkE_long {l : List FileT} (h : 32 < l.length) : chkE l = 3 := by unfold chkE; rw [if_pos h]
theorem chkE_path {l : List FileT} (h : ¬ 32 < l.length) (h1 : badPath l) : chkE l = 4 := by unfold chkE; rw [if_neg h, if_pos h1]
theorem chkE_order {l : List FileT} (h : ¬ 32 < l.length) (h1 : ¬ badPath l) (h2 : badOrder l) : chkE l = 14 := by unfold chkE; rw [if_neg h, if_neg h1, if_pos h2]
theorem chkE_size {l : List FileT} (h : ¬ 32 < l.length) (h1 : ¬ badPath l) (h2 : ¬ badOrder l) (h3 : badSize l) : chkE l = 3 := by unfold chkE; rw [if_neg h, if_neg h1, if_neg h2, if_pos h3]
theorem chkE_ok {l : List FileT} (h : ¬ 32 < l.length) (h1 : ¬ badPath l) (h2 : ¬ badOrder l) (h3 : ¬ badSize l) : chkE l = 0 := by unfold chkE; rw [if_neg h, if_neg h1, if_neg h2, if_neg h3]

theorem not_badPath {l : List FileT} (h : ∀ j f, j < l.length → l[j]? = some f → pathB f.1 = true) : ¬ badPath l := by
  rintro ⟨f, hf, hp⟩
  obtain ⟨j, hj, rfl⟩ := List.getElem_of_mem hf
  rw [h j _ hj (List.getElem?_eq_getElem hj)] at hp
  cases hp
theorem not_badSize {l : List FileT} (h : ∀ j (f : FileT), j < l.length → l[j]? = some f → f.2.size ≤ 65536) : ¬ badSize l := by
  rintro ⟨f, hf, hp⟩
  obtain ⟨j, hj, rfl⟩ := List.getElem_of_mem hf
  have := h j _ hj (List.getElem?_eq_getElem hj)
  omega
theorem not_badOrder {l : List FileT} (h : ∀ j (a b : FileT), j + 1 < l.length → l[j]? = some a → l[j + 1]? = some b → leS b.1 a.1 = false) : ¬ badOrder l := by
  rintro ⟨i, a, b, ha, hb, hp⟩
  obtain ⟨hlt, _⟩ := List.getElem?_eq_some_iff.1 hb
  rw [h i a b hlt ha hb] at hp
  cases hp

theorem below_drewN {b n : Nat} {w wr : World} (h : Below b w wr) : Below b w (wr.drewN n) := ⟨h.os, h.tape, h.output, h.size, fun k hk => h.block k hk⟩

theorem below_cells {w wr : World} {b off : Nat} {l : List FileT} (hc : FilesAt w b off l) (hb : b < w.heap.size) (h : Below w.heap.size w wr) : FilesAt wr b off l := fun i f hf =>
  ⟨(h.cell (p := ⟨b, off + i * 2, none⟩) hb).trans (hc i f hf).1, (h.cell (p := ⟨b, off + i * 2 + 1, none⟩) hb).trans (hc i f hf).2⟩

set_option maxHeartbeats 1000000 in
theorem pcheck_calls (b off cap : Nat) (l : List FileT) (w : World) (hl : l.length ≤ 9223372036854775807) (hc : FilesAt w b off l) (hb : b < w.heap.size) (hz : ∀ f ∈ l, f.1.size ≤ 9223372036854775807) :
    Calls Tryz.prog 13 #[.slice (some ⟨b, off, none⟩) l.length cap] w fun e w' => e = .returned (.int .i64 (chkE l)) ∧ Below w.heap.size w w' := by
  go_enter Tryz.func13, Tryz.ntmps13
  by_cases h32 : 32 < l.length
  · have HP := Lib.hid (chkE_long h32)
    go_wp2
    go_ret
    exact ⟨ret_int HP.out.symm, Below.refl _ _⟩
  · have H32 := Lib.hid h32
    go_wp2
    go_loopw [13] (fun i w' => ∃ k : Nat, k ≤ l.length ∧ (∀ j (f : FileT), j < k → l[j]? = some f → pathB f.1 = true) ∧ Below w.heap.size w w' ∧ i = .int .i64 k) (fun i _ => l.length - (intOf i).toNat)
    case atStart => exact ⟨0, by omega, fun j f h => by omega, Below.refl _ _, rfl⟩
    case round =>
      rename_i wr hrel
      obtain ⟨k, hk, hok, hbel, rfl⟩ := hrel
      have HB := Lib.hid hbel
      have HOK := Lib.hid hok
      clear hbel hok
      by_cases hlt : k < l.length
      · obtain ⟨f, hf⟩ : ∃ f, l[k]? = some f := ⟨l[k], List.getElem?_eq_getElem hlt⟩
        obtain ⟨d1, d2⟩ := below_cells hc hb HB.out k f hf
        have hfm := List.mem_of_getElem? hf
        have HF := Lib.hid hf
        clear hf
        go_wp2_with (first | (go_at_call 20; refine (path_calls _ _ (hz f hfm)).mono ?_; rintro e w' ⟨rfl, hb2⟩; have HB2 := Lib.hid (HB.out.trans ((((Below.refl _ _).alloc (Nat.le_refl _) _).trans (hb2.mono (by simp))).mono HB.out.size)); clear hb2))
        · have hp : (!pathB f.fst) = true := by assumption
          go_ret
          refine ⟨ret_int (chkE_path H32.out ⟨f, hfm, by simpa using hp⟩).symm, HB2.out⟩
        · have hp : (!pathB f.fst) = false := by assumption
          have HP := Lib.hid hp
          clear hp
          go_roundw
          case rel =>
            refine ⟨k + 1, by omega, fun j f' h hf' => ?_, HB2.out, by go_num⟩
            by_cases e : j = k
            · subst e
              rw [HF.out] at hf'
              cases hf'
              simpa using HP.out
            · exact HOK.out j f' (by omega) hf'
          case measure => simp [intOf]; omega
      · have HN := Lib.hid (not_badPath fun j f hj hf => HOK.out j f (by omega) hf)
        clear HOK
        go_wp2
        obtain ⟨wa, rfl⟩ : ∃ wa : World, wa = wr := ⟨_, rfl⟩
        go_loopw [24] (fun i w' => ∃ k : Nat, k ≤ l.length ∧ (∀ j (a b : FileT), j + 1 < k → l[j]? = some a → l[j + 1]? = some b → leS b.1 a.1 = false) ∧ Below w.heap.size w w' ∧ i = .int .i64 k) (fun i _ => l.length - (intOf i).toNat)
        case atStart => exact ⟨0, by omega, fun j f h => by omega, HB.out, rfl⟩
        case round =>
          rename_i wr hrel
          obtain ⟨k, hk, hok, hbel, rfl⟩ := hrel
          have HB := Lib.hid hbel
          have HOK := Lib.hid hok
          clear hbel hok
          by_cases hlt : k < l.length
          · by_cases h0 : k = 0
            · subst h0
              go_wp2
              have hd : decide ((0 : Int) < ((0 : Nat) : Int)) = false := by simp
              go_quiet (fail)
              go_wp2
              go_roundw
              case rel => exact ⟨1, by omega, fun j _ _ h => by omega, below_drewN HB.out, rfl⟩
              case measure => simp [intOf]; omega
            · obtain ⟨m, rfl⟩ : ∃ m, k = m + 1 := ⟨k - 1, by omega⟩
              obtain ⟨a, ha⟩ : ∃ a, l[m]? = some a := ⟨l[m], List.getElem?_eq_getElem (by omega)⟩
              obtain ⟨c, hcc⟩ : ∃ c, l[m + 1]? = some c := ⟨l[m + 1], List.getElem?_eq_getElem hlt⟩
              obtain ⟨d1, _⟩ := below_cells hc hb HB.out m a ha
              obtain ⟨e1, _⟩ := below_cells hc hb HB.out (m + 1) c hcc
              go_wp2
              have hd : decide ((0 : Int) < ((m + 1 : Nat) : Int)) = true := by simp
              have hw : IntKind.i64.wrap (((m + 1 : Nat) : Int) - 1) = (m : Int) := by rw [show (((m + 1 : Nat) : Int) - 1) = (m : Int) by omega]; exact IntWalk.i64_in _ (by omega)
              go_quiet (fail)
              go_wp2
              · have ht : Op.bytesLess c.fst.toList a.fst.toList = true ∨ (c.fst.toList == a.fst.toList) = true := by assumption
                go_ret
                refine ⟨ret_int (chkE_order H32.out HN.out ⟨m, a, c, ha, hcc, ?_⟩).symm, below_drewN HB.out⟩
                simpa [leS] using ht
              · have ht : Op.bytesLess c.fst.toList a.fst.toList = false ∧ (c.fst.toList == a.fst.toList) = false := by assumption
                have HT := Lib.hid ht
                clear ht
                go_roundw
                case rel =>
                  refine ⟨m + 1 + 1, by omega, fun j x y h hx hy => ?_, below_drewN HB.out, by go_num⟩
                  by_cases e : j = m
                  · subst e
                    rw [ha] at hx
                    rw [hcc] at hy
                    cases hx
                    cases hy
                    simp [leS, HT.out.1, HT.out.2]
                  · exact HOK.out j x y (by omega) hx hy
                case measure => simp [intOf]; omega
          · have HO := Lib.hid (not_badOrder fun j x y hj hx hy => HOK.out j x y (by omega) hx hy)
            clear HOK
            go_wp2
            obtain ⟨wb, rfl⟩ : ∃ wb : World, wb = wr := ⟨_, rfl⟩
            go_loopw [46] (fun i w' => ∃ k : Nat, k ≤ l.length ∧ (∀ j (f : FileT), j < k → l[j]? = some f → f.2.size ≤ 65536) ∧ Below w.heap.size w w' ∧ i = .int .i64 k) (fun i _ => l.length - (intOf i).toNat)
            case atStart => exact ⟨0, by omega, fun j f h => by omega, HB.out, rfl⟩
            case round =>
              rename_i wr hrel
              obtain ⟨k, hk, hok, hbel, rfl⟩ := hrel
              have HB := Lib.hid hbel
              have HOK := Lib.hid hok
              clear hbel hok
              by_cases hlt : k < l.length
              · obtain ⟨f, hf⟩ : ∃ f, l[k]? = some f := ⟨l[k], List.getElem?_eq_getElem hlt⟩
                obtain ⟨d1, d2⟩ := below_cells hc hb HB.out k f hf
                have hfm := List.mem_of_getElem? hf
                have HF := Lib.hid hf
                clear hf
                have hbb : Below w.heap.size w (wr.alloc (.cells #[.string f.1, .string f.2] 34)) := HB.out.trans (((Below.refl _ _).alloc (Nat.le_refl _) _).mono HB.out.size)
                have HBB := Lib.hid hbb
                clear hbb
                by_cases h6 : 65536 < f.2.size
                · go_wp2
                  go_ret
                  exact ⟨ret_int (chkE_size H32.out HN.out HO.out ⟨f, hfm, h6⟩).symm, HBB.out⟩
                · go_wp2
                  go_roundw
                  case rel =>
                    refine ⟨k + 1, by omega, fun j f' h hf' => ?_, HBB.out, by go_num⟩
                    by_cases e : j = k
                    · subst e
                      rw [HF.out] at hf'
                      cases hf'
                      omega
                    · exact HOK.out j f' (by omega) hf'
                  case measure => simp [intOf]; omega
              · have HS := Lib.hid (not_badSize fun j f hj hf => HOK.out j f (by omega) hf)
                clear HOK
                go_wp2
                go_ret
                exact ⟨ret_int (chkE_ok H32.out HN.out HO.out HS.out).symm, HB.out⟩
end Go.Proofs

namespace Go.Proofs
open Go.RowKit

theorem lt_total_list (x y : List UInt8) : x < y ∨ x = y ∨ y < x := by
  rcases Std.lt_trichotomy x y with h | h | h
  · exact .inl h
  · exact .inr (.inl h)
  · exact .inr (.inr h)

/-- 'y ≤ x' is 'not x < y'. -/
theorem leS_eq (x y : ByteArray) : leS y x = !(Op.bytesLess x.toList y.toList) := by
  unfold leS
  rw [bytesLess_eq, bytesLess_eq]
  rcases lt_total_list x.toList y.toList with h | h | h
  · have h1 : ¬ y.toList < x.toList := fun h2 => Std.lt_irrefl (Std.lt_trans h h2)
    have h2 : ¬ y.toList = x.toList := fun e => by rw [e] at h; exact Std.lt_irrefl h
    simp [h, h1, h2]
  · have h1 : ¬ x.toList < y.toList := fun e => by rw [h] at e; exact Std.lt_irrefl e
    simp [h]
  · have h1 : ¬ x.toList < y.toList := fun h2 => Std.lt_irrefl (Std.lt_trans h h2)
    simp [h, h1]

theorem chkE_nil : chkE [] = 0 := by
  refine chkE_ok (by simp) ?_ ?_ ?_
  · rintro ⟨f, hf, _⟩; cases hf
  · rintro ⟨i, a, b, h, _⟩; simp at h
  · rintro ⟨f, hf, _⟩; cases hf

set_option maxHeartbeats 400000 in
theorem pcheck_nil (w : World) : Calls Tryz.prog 13 #[.slice none 0 0] w fun e w' => e = .returned (.int .i64 0) ∧ w = w' := by
  go_enter Tryz.func13, Tryz.ntmps13
  go_wp2
  refine wp_loop_rounds 1 ?_
  rw [rounds_succ]
  go_wp2
  refine wp_loop_rounds 1 ?_
  rw [rounds_succ]
  go_wp2
  refine wp_loop_rounds 1 ?_
  rw [rounds_succ]
  go_wp2
  go_ret
  exact ⟨rfl, rfl⟩

end Go.Proofs

namespace Go.Proofs
open Go.RowKit

/-- A slice of files. -/
def FilesVal (w : World) (v : Value) (l : List FileT) : Prop :=
  (v = .slice none 0 0 ∧ l = []) ∨ ∃ b off cap, v = .slice (some ⟨b, off, none⟩) l.length cap ∧ b < w.heap.size ∧ FilesAt w b off l
def FilesOK (l : List FileT) : Prop := l.length ≤ 9223372036854775807 ∧ ∀ f ∈ l, f.1.size ≤ 9223372036854775807 ∧ f.2.size ≤ 9223372036854775807

theorem FilesVal.below {w wr : World} {v : Value} {l : List FileT} (h : FilesVal w v l) (hb : Below w.heap.size w wr) : FilesVal wr v l := by
  rcases h with h | ⟨b, off, cap, hv, hlt, hc⟩
  · exact .inl h
  · exact .inr ⟨b, off, cap, hv, Nat.lt_of_lt_of_le hlt hb.size, below_cells hc hlt hb⟩

theorem pcheck_val (v : Value) (l : List FileT) (w : World) (h : FilesVal w v l) (hl : FilesOK l) :
    Calls Tryz.prog 13 #[v] w fun e w' => e = .returned (.int .i64 (chkE l)) ∧ Below w.heap.size w w' := by
  rcases h with ⟨rfl, rfl⟩ | ⟨b, off, cap, rfl, hlt, hc⟩
  · refine (pcheck_nil w).mono ?_
    rintro e w' ⟨rfl, rfl⟩
    exact ⟨by rw [chkE_nil], Below.refl _ _⟩
  · exact pcheck_calls b off cap l w hl.1 hc hlt fun f hf => (hl.2 f hf).1

theorem chkE_le (l : List FileT) : 0 ≤ chkE l ∧ chkE l ≤ 14 := by
  unfold chkE
  split
  · omega
  split
  · omega
  split
  · omega
  split <;> omega

/-- The first error of three versions. -/
noncomputable def chk3 (a b c : List FileT) : Int := if chkE a = 0 then if chkE b = 0 then chkE c else chkE b else chkE a

theorem FilesVal.slice {w : World} {v : Value} {l : List FileT} (h : FilesVal w v l) : ∃ p c, v = .slice p l.length c := by
  rcases h with ⟨rfl, rfl⟩ | ⟨b, off, cap, rfl, _⟩
  · exact ⟨_, _, rfl⟩
  · exact ⟨_, _, rfl⟩

theorem below_alloc {w : World} (o : Obj) : Below w.heap.size w (w.alloc o) := (Below.refl _ _).alloc (Nat.le_refl _) _

end Go.Proofs
