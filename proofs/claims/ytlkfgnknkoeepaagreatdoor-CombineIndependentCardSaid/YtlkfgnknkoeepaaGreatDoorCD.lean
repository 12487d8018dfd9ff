/-
  The sorted paths of three versions. A merger; what its maps have for a path.
-/
import Derived.Test.YtlkfgnknkoeepaaGreatDoorCC
import Derived.OwnWalk
import Derived.Sort.MapsRangeIn
set_option linter.all false

namespace Go.Proofs
open Go.RowKit Go.Maps Go.MapKept
open Classical

theorem infoStr : (Tryz.prog.info? 9).map (fun i => (i.zero, i.size, i.bytes)) = some (some (.string .empty), 1, 16) := by kernel_rfl

/-- The paths of more files, each once. -/
noncomputable def collect (out : List ByteArray) (l : List FileT) : List ByteArray := l.foldl (fun o f => if f.1 ∈ o then o else o ++ [f.1]) out

theorem collect_take {out : List ByteArray} {l : List FileT} {k : Nat} {f : FileT} (h : l[k]? = some f) : collect out (l.take (k + 1)) = if f.1 ∈ collect out (l.take k) then collect out (l.take k) else collect out (l.take k) ++ [f.1] := by
  unfold collect
  rw [List.take_add_one, h]
  simp

theorem collect_length (out : List ByteArray) (l : List FileT) : (collect out l).length ≤ out.length + l.length := by
  induction l generalizing out with
  | nil => simp [collect]
  | cons f l ih =>
    have : collect out (f :: l) = collect (if f.1 ∈ out then out else out ++ [f.1]) l := rfl
    rw [this]
    have h := ih (if f.1 ∈ out then out else out ++ [f.1])
    have h2 : (if f.1 ∈ out then out else out ++ [f.1]).length ≤ out.length + 1 := by split <;> simp
    simp
    omega

theorem gather_length (ls : List (List FileT)) (h : ∀ l ∈ ls, l.length ≤ 1000) : ∀ out, (ls.foldl collect out).length ≤ out.length + 1000 * ls.length := by
  induction ls with
  | nil => intro out; simp
  | cons l ls ih =>
    intro out
    have h1 := ih (fun x hx => h x (List.mem_cons_of_mem _ hx)) (collect out l)
    have h2 := collect_length out l
    have h3 := h l (List.mem_cons_self ..)
    simp only [List.foldl_cons, List.length_cons]
    omega

noncomputable def memB (out : List ByteArray) : ByteArray → Bool := fun s => decide (s ∈ out)
theorem memB_append (out : List ByteArray) (s : ByteArray) : updB (memB out) s = memB (out ++ [s]) := by
  funext x
  unfold updB memB
  by_cases h : x = s <;> simp [h]

/-- How the gathering of paths stands. -/
structure PInv (w0 wr : World) (mb : Nat) (c : Array Value) (v : Value) (out : List ByteArray) : Prop where
  hmb : w0.heap.size ≤ mb
  bel : Below w0.heap.size w0 wr
  map : BMap wr mb out.length (memB out)
  row : StrRow wr (mb + 2) v out
  arr : ∃ t, wr.heap[mb + 1]? = some (.cells c t (0, 0))

theorem PInv.alloc {w0 wr : World} {mb : Nat} {c : Array Value} {v : Value} {out : List ByteArray} (h : PInv w0 wr mb c v out) (o : Obj) : PInv w0 (wr.alloc o) mb c v out := by
  obtain ⟨t, ht⟩ := h.arr
  refine ⟨h.hmb, h.bel.trans ((below_alloc o).mono h.bel.size), h.map.below (below_alloc o) h.map.lt, World.ownsRow.alloc h.row o, t, ?_⟩
  rw [(below_alloc o).block _ (Array.getElem?_eq_some_iff.1 ht).1, ht]

theorem PInv.cell {w0 wr : World} {mb : Nat} {c : Array Value} {v : Value} {out : List ByteArray} (h : PInv w0 wr mb c v out) {j : Nat} {x : Value} (hx : c[j]? = some x) : wr.cell? ⟨mb + 1, j, none⟩ = some x := by
  obtain ⟨t, ht⟩ := h.arr
  simp only [World.cell?, ht]
  exact hx

theorem PInv.mapped {w0 wr w1 : World} {mb : Nat} {c : Array Value} {v : Value} {out : List ByteArray} {s : ByteArray} (h : PInv w0 wr mb c v out) (hm : BMap w1 mb (out.length + 1) (updB (memB out) s)) (ht : wr.mapTurned w1 mb) :
    Below w0.heap.size w0 w1 ∧ BMap w1 mb (out.length + 1) (memB (out ++ [s])) ∧ StrRow w1 (mb + 2) v out ∧ (∃ t, w1.heap[mb + 1]? = some (.cells c t (0, 0))) := by
  obtain ⟨t, ha⟩ := h.arr
  refine ⟨h.bel.trans (mapTurned_below ht h.hmb), by rw [← memB_append]; exact hm, World.ownsRow.kept h.row ht.grown ?_, t, ?_⟩
  · rcases hv : v.ownBlock with _ | g
    · exact .inl rfl
    · refine .inr ?_
      have := (World.ownsRow.lt h.row g hv).1
      intro e
      cases e
      omega
  · rw [mapTurned_block ht (by omega), ha]

theorem PInv.appended {w0 w1 w2 : World} {mb : Nat} {c : Array Value} {v v' : Value} {out : List ByteArray} {s : ByteArray} (hmb : w0.heap.size ≤ mb)
    (h : Below w0.heap.size w0 w1 ∧ BMap w1 mb (out.length + 1) (memB (out ++ [s])) ∧ StrRow w1 (mb + 2) v out ∧ (∃ t, w1.heap[mb + 1]? = some (.cells c t (0, 0)))) (o : Obj)
    (hr : w2.ownsRow (mb + 2) 9 1 v' (out.length + 1) (out.map Value.string ++ [.string s])) (hg : (w1.alloc o).grownBy w2 v.ownBlock) : PInv w0 w2 mb c v' (out ++ [s]) := by
  obtain ⟨h1, h2, h3, t, h4⟩ := h
  have hne : ∀ k, k < mb + 2 → some k ≠ v.ownBlock := by
    intro k hk e
    have := (World.ownsRow.lt h3 k e.symm).1
    omega
  have ha : Below (mb + 2) w1 w2 := by
    have hlt4 := (Array.getElem?_eq_some_iff.1 h4).1
    refine ⟨hg.os, hg.tape, hg.output, Nat.le_trans (below_alloc o).size hg.size, fun k hk => ?_⟩
    rw [hg.block k (by simp; omega) (hne k hk)]
    exact (below_alloc o).block k (by omega)
  refine ⟨hmb, h1.trans (ha.mono (by omega)), ?_, ?_, t, ?_⟩
  · have := h2.below ha (by omega)
    simpa using this
  · unfold StrRow
    simpa using hr
  · rw [ha.block _ (by omega), h4]

theorem new_cell (w : World) (x : Value) (t : TypeId) : ∀ j u, [x][j]? = some u → (w.alloc (.cells #[x] t)).cell? ((⟨w.heap.size, 0, none⟩ : Addr).add j) = some u := by
  intro j u h
  match j, h with
  | 0, h =>
    cases h
    have := (MapKept.heap_alloc w (.cells #[x] t)).1
    show (w.alloc (.cells #[x] t)).cell? ⟨w.heap.size, 0, none⟩ = some x
    simp only [World.cell?, this]
    rfl
theorem one_string (s : ByteArray) : ∀ u ∈ [Value.string s], u.oneCell' = true := by
  intro u hu
  simp only [List.mem_singleton] at hu
  subst hu
  rfl

/-- What comes of gathering and sorting. -/
def Gathered (w : World) (ls : List (List FileT)) (e : Ending) (w' : World) : Prop := ∃ v, e = .returned v ∧ StrsVal w' v (sortS (ls.foldl collect [])) ∧ Below w.heap.size w w'

set_option maxRecDepth 100000 in
set_option maxHeartbeats 4000000 in
theorem paths_calls (v0 v1 v2 : Value) (l0 l1 l2 : List FileT) (w : World) (h0 : FilesVal w v0 l0) (h1 : FilesVal w v1 l1) (h2 : FilesVal w v2 l2) (k0 : FilesOK l0) (k1 : FilesOK l1) (k2 : FilesOK l2)
    (n0 : l0.length ≤ 1000) (n1 : l1.length ≤ 1000) (n2 : l2.length ≤ 1000) :
    Calls Tryz.prog 17 #[v0, v1, v2] w (Gathered w [l0, l1, l2]) := by
  obtain ⟨a0, c0, rfl⟩ := h0.slice
  obtain ⟨a1, c1, rfl⟩ := h1.slice
  obtain ⟨a2, c2, rfl⟩ := h2.slice
  have hmm := @run_makeMap Tryz.prog
  obtain ⟨is, hi, hz0, hz1, hz2⟩ := info_parts infoStr
  go_enter Tryz.func17, Tryz.ntmps17
  go_wp2
  have hst : PInv w ((w.alloc (.map #[] 0)).alloc (.cells #[.slice a0 l0.length c0, .slice a1 l1.length c1, .slice a2 l2.length c2] 22)) w.heap.size #[.slice a0 l0.length c0, .slice a1 l1.length c1, .slice a2 l2.length c2] (.slice none 0 0) [] := by
    refine ⟨Nat.le_refl _, (below_alloc _).trans ((below_alloc _).mono (by simp)), ?_, World.ownsRow_nil _ _ _ _, 22, ?_⟩
    · have := (bmap_made w).below (below_alloc (.cells #[.slice a0 l0.length c0, .slice a1 l1.length c1, .slice a2 l2.length c2] 22)) (bmap_made w).lt
      have e : memB [] = fun _ => false := by funext x; simp [memB]
      rw [e]
      exact this
    · have := (MapKept.heap_alloc (w.alloc (.map #[] 0)) (.cells #[.slice a0 l0.length c0, .slice a1 l1.length c1, .slice a2 l2.length c2] 22)).1
      simpa using this
  have HST := Lib.hid hst
  clear hst
  obtain ⟨C, hC⟩ : ∃ C : Array Value, C = #[.slice a0 l0.length c0, .slice a1 l1.length c1, .slice a2 l2.length c2] := ⟨_, rfl⟩
  go_loopw [8, 19] (fun v i w' => ∃ j : Nat, j ≤ 3 ∧ PInv w w' w.heap.size #[.slice a0 l0.length c0, .slice a1 l1.length c1, .slice a2 l2.length c2] v (([l0, l1, l2].take j).foldl collect []) ∧ i = .int .i64 j) (fun _ i _ => 3 - (intOf i).toNat)
  case atStart => exact ⟨0, by omega, HST.out, rfl⟩
  case round =>
    rename_i wr hrel
    obtain ⟨j, hj, hinv, rfl⟩ := hrel
    have HI := Lib.hid hinv
    clear hinv HST
    by_cases hlt : j < 3
    · obtain ⟨a, L, c, hcell, hL, hF, hO, hn⟩ : ∃ a L c, wr.cell? ⟨w.heap.size + 1, j, none⟩ = some (.slice a (List.length L) c) ∧ [l0, l1, l2][j]? = some L ∧ FilesVal w (.slice a (List.length L) c) L ∧ FilesOK L ∧ L.length ≤ 1000 := by
        match j, hlt with
        | 0, _ => exact ⟨a0, l0, c0, HI.out.cell rfl, rfl, h0, k0, n0⟩
        | 1, _ => exact ⟨a1, l1, c1, HI.out.cell rfl, rfl, h1, k1, n1⟩
        | 2, _ => exact ⟨a2, l2, c2, HI.out.cell rfl, rfl, h2, k2, n2⟩
      have HL := Lib.hid hL
      clear hL
      have hd : decide ((j : Int) < 3) = true := by simp; omega
      go_wp2
      clear hd
      obtain ⟨wo, rfl⟩ : ∃ wo : World, wo = wr := ⟨_, rfl⟩
      go_loopw [8, 25] (fun v i w' => ∃ k : Nat, k ≤ L.length ∧ PInv w w' w.heap.size #[.slice a0 l0.length c0, .slice a1 l1.length c1, .slice a2 l2.length c2] v (collect (([l0, l1, l2].take j).foldl collect []) (L.take k)) ∧ i = .int .i64 k) (fun _ i _ => L.length - (intOf i).toNat)
      case atStart => exact ⟨0, by omega, HI.out, rfl⟩
      case round =>
        rename_i wr hrel
        obtain ⟨k, hk, hinv, rfl⟩ := hrel
        have HJ := Lib.hid hinv
        clear hinv hcell
        by_cases hkl : k < L.length
        · obtain ⟨b, off, rfl, hb, hc⟩ : ∃ b off, a = some ⟨b, off, none⟩ ∧ b < w.heap.size ∧ FilesAt w b off L := by
            rcases hF with ⟨_, hnil⟩ | ⟨b, off, cap, e, hb, hc⟩
            · subst hnil; simp at hkl
            · cases e; exact ⟨b, off, rfl, hb, hc⟩
          obtain ⟨f, hf⟩ : ∃ f, L[k]? = some f := ⟨L[k], List.getElem?_eq_getElem hkl⟩
          obtain ⟨d1, d2⟩ := below_cells hc hb HJ.out.bel k f hf
          have hfm := List.mem_of_getElem? hf
          have s1' := Lib.hid (le_max (hO.2 f hfm).1)
          have hct := Lib.hid (collect_take (out := ([l0, l1, l2].take j).foldl collect []) hf)
          have hol0 : Hid ((collect (([l0, l1, l2].take j).foldl collect []) (L.take k)).length ≤ 10000) := Lib.hid (by
            have h1 := collect_length (([l0, l1, l2].take j).foldl collect []) (L.take k)
            have h2 := gather_length ([l0, l1, l2].take j) (by
              intro l hl
              have := List.mem_of_mem_take hl
              simp only [List.mem_cons, List.not_mem_nil, or_false] at this
              rcases this with rfl | rfl | rfl <;> assumption) []
            have h3 : (L.take k).length ≤ L.length := List.length_take_le' ..
            have h4 : ([l0, l1, l2].take j).length ≤ 3 := by simp; omega
            simp only [List.length_nil] at h2
            omega)
          generalize collect (([l0, l1, l2].take j).foldl collect []) (L.take k) = out at *
          clear hf
          have hlk := (HJ.out.alloc (.cells #[.string f.1, .string f.2] 43)).map.look (t := 61) Tryz.underlying61 f.1 s1'.out
          by_cases hin : memB out f.1 = true
          · rw [hin] at hlk
            go_wp2
            go_roundw
            case rel =>
              refine ⟨k + 1, by omega, ?_, by go_num⟩
              rw [hct.out, if_pos (by simpa [memB] using hin)]
              exact HJ.out.alloc _
            case measure => simp [intOf]; omega
          · have hin : memB out f.1 = false := by simpa using hin
            rw [hin] at hlk
            have hol := hol0.out
            have k1' : Hid (out.length < maxLen) := Lib.hid (lt_max (by omega))
            have HA := Lib.hid (HJ.out.alloc (.cells #[.string f.1, .string f.2] 43))
            have hbx : (wr.alloc (.cells #[.string f.1, .string f.2] 43)).heap[wr.heap.size]? = some (.cells #[.string f.1, .string f.2] 43) := (MapKept.heap_alloc wr _).1
            have HBX := Lib.hid hbx
            clear hbx
            go_wp2_with (first
              | (at_mapUpdate; refine wpList_bmap_store rfl _ _ _ 61 rfl Tryz.underlying61 w.heap.size out.length (memB out) rfl HA.out.map k1'.out f.1 rfl rfl s1'.out ?_; intro w1 hm1 ht1; have HP := Lib.hid (HA.out.mapped hm1 ht1); have hc1 : w1.cell? ⟨wr.heap.size, 0, none⟩ = some (.string f.1) := (by simp only [World.cell?]; rw [mapTurned_block ht1 (by have := HJ.out.map.lt; omega), HBX.out]; rfl); have hsz1 := Lib.hid (mapTurned_size ht1); have hmb2 : Hid (w.heap.size + 2 ≤ w1.heap.size) := Lib.hid (HP.out.2.2.2.elim fun _ h => (Array.getElem?_eq_some_iff.1 h).1); clear hm1 ht1)
              | (at_builtin; refine wpList_append_own _ rfl _ _ 53 rfl (w.heap.size + 2) 9 is (.string .empty) 1 16 Tryz.underlying53 hi hz0 hz1 hz2 rfl (by decide) _ out.length (out.map Value.string) rfl (World.ownsRow.alloc HP.out.2.2.1 _) ⟨w1.heap.size, 0, none⟩ 1 1 [.string f.1] rfl rfl (new_cell _ _ _) (one_string _) (le_max (by omega)) (by omega) (Nat.le_trans hmb2.out (below_alloc _).size) ?_; intro v' w2 hown2 hgrow2 hnil2))
            go_roundw
            case rel =>
              refine ⟨k + 1, by omega, ?_, by go_num⟩
              rw [hct.out, if_neg (by simpa [memB] using hin)]
              exact PInv.appended (Nat.le_refl _) HP.out _ hown2 hgrow2
            case measure => simp [intOf]; omega
        · go_wp2
          have hkk : k = L.length := by omega
          subst hkk
          go_roundw
          case rel =>
            refine ⟨j + 1, by omega, ?_, by go_num⟩
            have := HJ.out
            rw [List.take_length] at this
            rw [List.take_add_one, HL.out, List.foldl_append]
            exact this
          case measure => simp [intOf]; omega
    · obtain rfl : j = 3 := by omega
      have HO3 : Hid ((([l0, l1, l2].take 3).foldl collect []).length ≤ 100000) := Lib.hid (by
        have h2 := gather_length ([l0, l1, l2].take 3) (by
          intro l hl
          have := List.mem_of_mem_take hl
          simp only [List.mem_cons, List.not_mem_nil, or_false] at this
          rcases this with rfl | rfl | rfl <;> assumption) []
        simp at h2
        simp
        omega)
      go_wp2_with (go_at_call 24; refine (sort_own _ _ _ _ HI.out.row HO3.out).mono ?_; rintro e w1 ⟨rfl, hs, hb⟩)
      go_ret
      exact ⟨_, rfl, hs, HI.out.bel.trans (hb.mono (by omega))⟩
end Go.Proofs

namespace Go.Proofs
open Go.RowKit Go.Maps Go.MapKept

set_option maxRecDepth 100000 in
theorem has_calls (b n : Nat) (f : ByteArray → Option ByteArray) (s : ByteArray) (w : World) (h : SMap w b n f) (hs : s.size ≤ 9223372036854775807) :
    Calls Tryz.prog 25 #[.map (some b), .string s] w fun e w' => e = .returned (.bool (f s).isSome) ∧ w = w' := by
  have hlk := h.look_ok (t := 49) Tryz.underlying49 s (le_max hs)
  go_enter Tryz.func25, Tryz.ntmps25
  go_wp2
  go_ret
  exact ⟨rfl, rfl⟩

/-- What a map from strings to strings has for a key, entry by entry. -/
theorem SMap.now {w : World} {b n : Nat} {f : ByteArray → Option ByteArray} (h : SMap w b n f) (s : ByteArray) (hs : s.size ≤ 9223372036854775807) :
    ∃ es clock, w.heap[b]? = some (.map es clock) ∧ (match f s with
      | none => Instr.findNow .string (.string s) es.toList 0 = some none
      | some x => ∃ i, Instr.findNow .string (.string s) es.toList 0 = some (some (i, .string x))) := by
  have hlk := h.look_ok (t := 48) Tryz.underlying48 s (le_max hs)
  obtain ⟨D, ⟨es, clock, hb, F, _, _⟩, _⟩ := h
  refine ⟨es, clock, hb, ?_⟩
  have hks : ∀ x ∈ es.toList, IsKey .string x.key := by
    intro x hx
    obtain ⟨l, hl⟩ := F.keys x hx
    obtain ⟨t, ht⟩ := Maps.keyOf_string_inv Tryz.underlying9 hl
    rw [ht]
    trivial
  have hun : (underlying 48).run Tryz.prog w = .ok (.map tStr tStr) w := run_underlying Tryz.underlying48 w
  have hunk : (underlying tStr).run Tryz.prog w = .ok .string w := run_underlying Tryz.underlying9 w
  have hck : ∀ c, (Instr.checkKey c 10000 tStr (.string s)).run Tryz.prog w = .ok () w := fun c => by
    unfold Instr.checkKey
    simp only [Sem.run_bind, hunk, Result.andThen]
    rfl
  have hget : (getObj b).run Tryz.prog w = .ok (.map es clock) w := by simp [getObj, Sem.run, hb]
  rcases findNow_spec (d := .string) (k := .string s) trivial es.toList 0 hks with ⟨h1, _⟩ | ⟨j, e, h1, _, _⟩
  · have hfk : (Instr.findKey tStr (.string s) es.toList).run Tryz.prog w = .ok none w := by simp [Instr.findKey, hunk, h1, Result.andThen]
    simp [Instr.lookup, hun, hget, hck, hfk, Result.andThen] at hlk
    cases hf : f s with
    | none => exact h1
    | some x => rw [hf] at hlk; simp at hlk
  · have hfk : (Instr.findKey tStr (.string s) es.toList).run Tryz.prog w = .ok (some (0 + j, e.val)) w := by simp [Instr.findKey, hunk, h1, Result.andThen]
    simp [Instr.lookup, hun, hget, hck, hfk, Result.andThen] at hlk
    cases hf : f s with
    | none => rw [hf] at hlk; simp at hlk
    | some x =>
      rw [hf] at hlk
      simp at hlk
      exact ⟨0 + j, by rw [h1, hlk]⟩

/-- A merger: three versions, no picks. -/
structure Merger (w : World) (mp B L R : Nat) (fb fl fr : ByteArray → Option ByteArray) : Prop where
  c : ∃ t fz, w.heap[mp]? = some (.cells #[.map (some B), .map (some L), .map (some R), .slice none 0 0] t fz)
  b : ∃ n, SMap w B n fb
  l : ∃ n, SMap w L n fl
  r : ∃ n, SMap w R n fr

theorem Merger.lt {w : World} {mp B L R : Nat} {fb fl fr : ByteArray → Option ByteArray} (h : Merger w mp B L R fb fl fr) : mp < w.heap.size ∧ B < w.heap.size ∧ L < w.heap.size ∧ R < w.heap.size := by
  refine ⟨?_, h.b.elim fun _ x => x.lt, h.l.elim fun _ x => x.lt, h.r.elim fun _ x => x.lt⟩
  obtain ⟨t, fz, hc⟩ := h.c
  exact (Array.getElem?_eq_some_iff.1 hc).1

theorem Merger.keep {w w' : World} {mp B L R N : Nat} {fb fl fr : ByteArray → Option ByteArray} (h : Merger w mp B L R fb fl fr) (hb : Below N w w') (h1 : mp < N) (h2 : B < N) (h3 : L < N) (h4 : R < N) : Merger w' mp B L R fb fl fr := by
  obtain ⟨t, fz, hc⟩ := h.c
  exact ⟨⟨t, fz, (hb.block mp h1).trans hc⟩, h.b.imp fun _ x => x.below hb h2, h.l.imp fun _ x => x.below hb h3, h.r.imp fun _ x => x.below hb h4⟩

theorem Merger.below {w w' : World} {mp B L R : Nat} {fb fl fr : ByteArray → Option ByteArray} (h : Merger w mp B L R fb fl fr) (hb : Below w.heap.size w w') : Merger w' mp B L R fb fl fr :=
  h.keep hb h.lt.1 h.lt.2.1 h.lt.2.2.1 h.lt.2.2.2
end Go.Proofs
