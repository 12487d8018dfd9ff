/-
  Many empty files. The reference's entry of a path where every text is empty.
-/
import Derived.Test.YtoelbcipkjppgaaGreatDoorCE
import Derived.OwnWalk
import Derived.Laws.BytesArg
import Derived.Laws.OwnMore
import Derived.Test.YtoelbcipkjppgaaGreatDoorIC
set_option linter.all false

namespace Go.Proofs
open Go.RowKit Go.Maps Go.MapKept
open Classical

theorem three_bytes (w : World) (x y z : Int) (t : TypeId) : (convert 44 9 (.slice (some ⟨w.heap.size, 0, none⟩) 3 3)).run Tryz.prog (w.alloc (.cells #[.int .u8 x, .int .u8 y, .int .u8 z] t)) = .ok (.string (strOfNums [x, y, z])) (w.alloc (.cells #[.int .u8 x, .int .u8 y, .int .u8 z] t)) := by
  refine run_convert_bytes_arg _ 44 5 Tryz.underlying44 Tryz.underlying5 w.heap.size 0 3 3 [x, y, z] rfl (fun i hi => ?_) 9 Tryz.underlying9
  have hx := (MapKept.heap_alloc w (.cells #[.int .u8 x, .int .u8 y, .int .u8 z] t)).1
  match i, hi with
  | 0, _ => simp only [World.cell?, hx]; rfl
  | 1, _ => simp only [World.cell?, hx]; rfl
  | 2, _ => simp only [World.cell?, hx]; rfl

theorem file_calls (p t : ByteArray) (w : World) : Calls Tryz.prog 12 #[.string p, .string t] w fun e w' => e = .returned (.agg #[.string p, .string t]) ∧ Below w.heap.size w w' := by
  go_enter Tryz.func12, Tryz.ntmps12
  go_wp2
  exact bodyPost_ret (v := .agg #[.string p, .string t]) (by simp [results, Tryz.results12, go_sem]) rfl ⟨rfl, below_alloc _⟩

set_option maxRecDepth 100000 in
set_option maxHeartbeats 4000000 in
theorem many_calls (n d : Nat) (hn : n ≤ 70) (hd : d ≤ 40) (w : World) :
    Calls Tryz.prog 5 #[.int .i64 n, .int .i64 d] w fun e w' => ∃ v l, e = .returned v ∧ FilesVal w' v l ∧ FilesOK l ∧ (∀ f ∈ l, f.2 = .empty) ∧ Below w.heap.size w w' := by
  obtain ⟨fi, fi0, fz0, fz1, fz2⟩ := info_parts infoFile
  go_enter Tryz.func5, Tryz.ntmps5
  go_wp2
  go_loopw [5, 6] (fun v i w' => ∃ (k : Nat) (l : List FileT), k ≤ n ∧ w'.ownsRow w.heap.size 37 2 v k (l.flatMap fileCells) ∧ l.length = k ∧ (∀ f ∈ l, f.1.size = 4 ∧ f.2 = .empty) ∧ Below w.heap.size w w' ∧ i = .int .i64 k) (fun _ i _ => n - (intOf i).toNat)
  case atStart => exact ⟨0, [], by omega, World.ownsRow_lit _ _ 0 (Nat.le_refl _) (by simp [maxLen]) rfl, rfl, (by intro f h; simp at h), below_alloc _, rfl⟩
  case round =>
    rename_i wr hrel
    obtain ⟨k, l, hk, hrow, hl, hls, hbel, rfl⟩ := hrel
    have HR := Lib.hid hrow
    have HB := Lib.hid hbel
    have HLS := Lib.hid hls
    have HL := Lib.hid hl
    clear hrow hbel hls hl
    by_cases hlt : k < n
    · have hconv := fun x y z => three_bytes wr x y z 5
      go_wp2_with fail
      generalize hnm : ((⟨#[102]⟩ : ByteArray) ++ strOfNums [48 + ((d : Int) + k) / 100, 48 + ((d : Int) + k) / 10 % 10, 48 + ((d : Int) + k) % 10]) = nm
      have HNM : Hid (nm.size = 4) := Lib.hid (by rw [← hnm, ByteArray.size_append, strOfNums_size]; rfl)
      clear hnm hconv
      refine (file_calls nm ⟨#[]⟩ _).mono ?_
      rintro e w2 ⟨rfl, hb⟩
      have HB2 := Lib.hid ((below_alloc _).trans (hb.mono (below_alloc _).size))
      have HR2 := Lib.hid (World.ownsRow.kept HR.out (below_grown HB2.out) (by rcases u5.ownBlock with _ | g; exact .inl rfl; exact .inr (by simp)))
      have hb5 : Hid (w.heap.size ≤ w2.heap.size) := Lib.hid (Nat.le_trans HB.out.size HB2.out.size)
      have hn2 := Lib.hid (new_cells2 w2 (.string nm) (.string ⟨#[]⟩) 37)
      clear hb
      go_wp2_with (at_builtin; refine wpList_append_own _ rfl (.tmp 17) (.tmp 35) 23 rfl w.heap.size 37 fi _ 2 32 Tryz.underlying23 fi0 fz0 fz1 fz2 rfl (by decide) _ k (l.flatMap fileCells) rfl (World.ownsRow.alloc HR2.out _) ⟨w2.heap.size, 0, none⟩ 1 1 (fileCells (nm, ⟨#[]⟩)) rfl rfl hn2.out (one_file (nm, ⟨#[]⟩)) (le_max (by omega)) (by omega) (by rw [size_alloc]; have := hb5.out; omega) ?_; intro v' w7 hown7 hgrow7 hnil7)
      go_roundw
      case rel =>
        refine ⟨k + 1, l ++ [(nm, ⟨#[]⟩)], by omega, ?_, by rw [List.length_append, HL.out]; rfl, fun f hf => ?_, ?_, by go_num⟩
        · rw [List.flatMap_append]
          simpa using hown7
        · rcases List.mem_append.1 hf with hf | hf
          · exact HLS.out f hf
          · obtain rfl : f = (nm, ⟨#[]⟩) := by simpa using hf
            exact ⟨HNM.out, rfl⟩
        · exact grown_below (HB.out.trans ((HB2.out.mono HB.out.size).trans ((below_alloc _).mono hb5.out))) hgrow7 (own_block_ge HR2.out) (by rw [size_alloc]; have := hb5.out; omega)
      case measure => simp [intOf]; omega
    · obtain rfl : k = n := by omega
      go_wp2
      go_ret
      refine ⟨_, l, rfl, ?_, ⟨by rw [HL.out]; omega, fun f hf => ?_⟩, fun f hf => (HLS.out f hf).2, HB.out⟩
      · have h := HR.out
        rw [← HL.out] at h
        exact files_of_row h
      · obtain ⟨h1, h2⟩ := HLS.out f hf
        rw [h1, h2]
        exact ⟨by omega, by simp⟩
end Go.Proofs

namespace Go.Proofs
open Go.RowKit Go.Maps Go.MapKept
open Classical

abbrev nostr : Value := .string ⟨#[]⟩
abbrev norep : Value := .agg #[.string ⟨#[]⟩, .int .i64 1, .slice none 0 0, .slice none 0 0]
abbrev noentry (k : Bool) : Value := .agg #[.bool k, .string ⟨#[]⟩, .string ⟨#[]⟩, .int .i64 1, .slice none 0 0, .slice none 0 0]

set_option maxRecDepth 100000 in
set_option maxHeartbeats 1000000 in
theorem r37merge_calls (w : World) : Calls Tryz.prog 41 #[nostr, nostr, nostr, .slice none 0 0] w fun e w' => e = .returned (.tuple #[nostr, norep, .int .i64 0]) ∧ w' = w.alloc (.cells #[nostr, .int .i64 1, .slice none 0 0, .slice none 0 0] 43) := by
  go_enter Tryz.func41, Tryz.ntmps41
  go_wp2
  exact bodyPost_ret (v := .tuple #[nostr, norep, .int .i64 0]) (by simp [results, Tryz.results41, go_sem]) rfl ⟨rfl, rfl⟩

abbrev entryCells (k : Bool) : Array Value := #[.bool k, .string ⟨#[]⟩, .string ⟨#[]⟩, .int .i64 1, .slice none 0 0, .slice none 0 0]
abbrev repCells0 : Array Value := #[nostr, .int .i64 1, .slice none 0 0, .slice none 0 0]

set_option maxRecDepth 100000 in
set_option maxHeartbeats 1000000 in
theorem rboth_calls (b : Bool) (w : World) : Calls Tryz.prog 33 #[nostr, nostr, nostr, .bool b, .slice none 0 0] w fun e w' => e = .returned (.tuple #[noentry true, .int .i64 0]) ∧ w' = ((w.alloc (.cells (entryCells true) 58)).alloc (.cells repCells0 43)).alloc (.cells repCells0 43) := by
  cases b
  all_goals
    go_enter Tryz.func33, Tryz.ntmps33
    go_wp2_with fail
    refine (r37merge_calls _).mono ?_
    rintro e w2 ⟨rfl, rfl⟩
    go_wp2
    exact bodyPost_ret (v := .tuple #[noentry true, .int .i64 0]) (by simp [results, Tryz.results33, go_sem]) rfl ⟨rfl, rfl⟩

set_option maxRecDepth 100000 in
set_option maxHeartbeats 1000000 in
theorem rone_calls (s : Int) (hs : s = 1 ∨ s = 2) (w : World) : Calls Tryz.prog 34 #[nostr, nostr, nostr, .int .i64 s, .slice none 0 0] w fun e w' => e = .returned (noentry false) ∧ w' = w.alloc (.cells (entryCells false) 58) := by
  rcases hs with rfl | rfl
  all_goals
    go_enter Tryz.func34, Tryz.ntmps34
    go_wp2
    exact bodyPost_ret (v := noentry false) (by simp [results, Tryz.results34, go_sem]) rfl ⟨rfl, rfl⟩

/-- Whether a path is kept where every text is empty. -/
def keepB (i0 i1 i2 : Bool) : Bool := if i1 = i0 then i2 else i1

set_option maxRecDepth 100000 in
set_option maxHeartbeats 4000000 in
theorem rentry_flags (v0 v1 v2 : Value) (p : ByteArray) (i0 i1 i2 : Bool) (w : World)
    (t0 : ∀ w', Below w.heap.size w w' → Calls Tryz.prog 22 #[v0, .string p] w' fun e w'' => e = .returned (.tuple #[nostr, .bool i0]) ∧ w' = w'')
    (t1 : ∀ w', Below w.heap.size w w' → Calls Tryz.prog 22 #[v1, .string p] w' fun e w'' => e = .returned (.tuple #[nostr, .bool i1]) ∧ w' = w'')
    (t2 : ∀ w', Below w.heap.size w w' → Calls Tryz.prog 22 #[v2, .string p] w' fun e w'' => e = .returned (.tuple #[nostr, .bool i2]) ∧ w' = w'') :
    Calls Tryz.prog 20 #[v0, v1, v2, .string p, .slice none 0 0] w fun e w' => e = .returned (.tuple #[noentry (keepB i0 i1 i2), .int .i64 0]) ∧ Below w.heap.size w w' := by
  have H0 := Lib.hid t0
  have H1 := Lib.hid t1
  have H2 := Lib.hid t2
  clear t0 t1 t2
  have hE : (⟨#[]⟩ : ByteArray) ++ ⟨#[]⟩ = ⟨#[]⟩ := rfl
  cases i0 <;> cases i1 <;> cases i2
  all_goals
    go_enter Tryz.func20, Tryz.ntmps20
    go_wp2_with fail
    refine (H0.out _ (below_alloc _)).mono ?_
    rintro e w' ⟨rfl, rfl⟩
    go_wp2_with fail
    refine (H1.out _ (below_alloc _)).mono ?_
    rintro e w' ⟨rfl, rfl⟩
    go_wp2_with fail
    refine (H2.out _ (below_alloc _)).mono ?_
    rintro e w' ⟨rfl, rfl⟩
    go_wp2_with (first | (go_at_call 33; refine (rboth_calls _ _).mono ?_; rintro e w3 ⟨rfl, rfl⟩) | (go_at_call 34; refine (rone_calls _ (by decide) _).mono ?_; rintro e w3 ⟨rfl, rfl⟩))
    refine bodyPost_ret (v := .tuple #[noentry _, .int .i64 0]) (by simp [results, Tryz.results20, go_sem, hE, keepB]) rfl ⟨rfl, ?_⟩
    repeat (first | exact below_alloc _ | exact Below.refl _ _ | refine Below.alloc ?_ (by simp only [size_alloc]; omega) _)
end Go.Proofs
