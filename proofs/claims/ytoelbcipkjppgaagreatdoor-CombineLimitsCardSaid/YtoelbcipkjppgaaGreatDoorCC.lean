/-
  Maps from strings, seen as functions. A version's texts by their paths. A row of strings, sorted by the library. The sorted paths of three versions. A merger; what its maps have for a path.
-/
import Derived.Test.YtoelbcipkjppgaaGreatDoorCA
import Derived.Maps.StringElems
import Derived.Maps.OwnSet
import Derived.Maps.Views
import Derived.Carry
import Derived.Test.YtoelbcipkjppgaaGreatDoorSort
import Derived.WalkKit
import Derived.Below
import Derived.Lib.Hide
import Derived.OwnWalk
import Derived.Sort.OwnSorted
import Derived.Sort.MapsRangeIn
set_option linter.all false

namespace Go.Proofs
open Go.RowKit Go.Maps Go.MapKept

abbrev tStr : TypeId := 9
abbrev tBool : TypeId := 4
theorem keyS : Keyed Tryz.prog tStr := string_keyed Tryz.underlying9
theorem zeroS (w : World) : (zeroValue tStr).run Tryz.prog w = .ok (.string .empty) w := by kernel_rfl
theorem zeroB (w : World) : (zeroValue tBool).run Tryz.prog w = .ok (.bool false) w := by kernel_rfl

/-- The key of a string. -/
def kl (s : ByteArray) : Lit := .string s.data.toList
theorem kl_ne {s t : ByteArray} (h : s ≠ t) : kl s ≠ kl t := by
  intro e
  apply h
  simp only [kl, Lit.string.injEq] at e
  exact ByteArray.ext (Array.ext' e)

/-- Block b is a map from strings to strings of at most n entries. -/
def SMap (w : World) (b n : Nat) (m : ByteArray → Option ByteArray) : Prop :=
  ∃ D : DataW Unit, w.ownsMap Tryz.prog tStr (plainElem Tryz.prog tStr) b n D ∧ IsMap D ∧
    ∀ s, (has D (kl s) = (m s).isSome) ∧ (D.atKey (kl s) (.lit (.string [])) = .lit (.string ((m s).getD .empty).data.toList))

/-- Block b is a map from strings to truth values of at most n entries, all true. -/
def BMap (w : World) (b n : Nat) (m : ByteArray → Bool) : Prop :=
  ∃ D : DataW Unit, w.ownsMap Tryz.prog tStr (plainElem Tryz.prog tBool) b n D ∧ IsMap D ∧ ∀ s, D.atKey (kl s) (.lit (.bool false)) = .lit (.bool (m s))

def updS (m : ByteArray → Option ByteArray) (k v : ByteArray) : ByteArray → Option ByteArray := fun s => if s = k then some v else m s
def updB (m : ByteArray → Bool) (k : ByteArray) : ByteArray → Bool := fun s => if s = k then true else m s

theorem smap_made (w : World) : SMap (w.alloc (.map #[] 0)) w.heap.size 0 fun _ => none :=
  ⟨_, World.ownsMap_made w Tryz.prog _ _, isMap_empty, fun _ => ⟨rfl, rfl⟩⟩
theorem bmap_made (w : World) : BMap (w.alloc (.map #[] 0)) w.heap.size 0 fun _ => false :=
  ⟨_, World.ownsMap_made w Tryz.prog _ _, isMap_empty, fun _ => rfl⟩

theorem SMap.lt {w : World} {b n : Nat} {m : ByteArray → Option ByteArray} (h : SMap w b n m) : b < w.heap.size := h.elim fun _ h => h.1.lt
theorem BMap.lt {w : World} {b n : Nat} {m : ByteArray → Bool} (h : BMap w b n m) : b < w.heap.size := h.elim fun _ h => h.1.lt

theorem ownsMap_block {H : Type} {w w' : World} {P : Program} {k : TypeId} {R : Value → Option (DataW H × List MemPlace)} {b n : Nat} {D : DataW H} (h : w.ownsMap P k R b n D) (e : w'.heap[b]? = w.heap[b]?) : w'.ownsMap P k R b n D := by
  obtain ⟨es, c, hb, r⟩ := h
  exact ⟨es, c, e.trans hb, r⟩
theorem SMap.block {w w' : World} {b n : Nat} {m : ByteArray → Option ByteArray} (h : SMap w b n m) (e : w'.heap[b]? = w.heap[b]?) : SMap w' b n m := by
  obtain ⟨D, h1, h2⟩ := h
  exact ⟨D, ownsMap_block h1 e, h2⟩
theorem BMap.block {w w' : World} {b n : Nat} {m : ByteArray → Bool} (h : BMap w b n m) (e : w'.heap[b]? = w.heap[b]?) : BMap w' b n m := by
  obtain ⟨D, h1, h2⟩ := h
  exact ⟨D, ownsMap_block h1 e, h2⟩
theorem SMap.below {w w' : World} {b n B : Nat} {m : ByteArray → Option ByteArray} (h : SMap w b n m) (hb : Below B w w') (hB : b < B) : SMap w' b n m := h.block (hb.block b hB)
theorem BMap.below {w w' : World} {b n B : Nat} {m : ByteArray → Bool} (h : BMap w b n m) (hb : Below B w w') (hB : b < B) : BMap w' b n m := h.block (hb.block b hB)

theorem key_lit (s : ByteArray) : WideAt.IsKeyLit (kl s) := by simp [kl, WideAt.IsKeyLit]

theorem plainElem_bool_inv {P : Program} {e : TypeId} (he : P.underlying e = some .bool) {v : Value} {x : Bool} {ps : List MemPlace} (h : plainElem (H := Unit) P e v = some (.lit (.bool x), ps)) : v = .bool x := by
  unfold plainElem at h
  rw [he] at h
  cases v <;> simp at h
  rw [h.1]

section
variable {w : World} {b n : Nat} {t : TypeId}

theorem SMap.look {m : ByteArray → Option ByteArray} (h : SMap w b n m) (ht : Tryz.prog.underlying t = some (.map tStr tStr)) (s : ByteArray) (hs : s.size ≤ maxLen) :
    (Instr.lookup t (.map (some b)) (.string s) false).run Tryz.prog w = .ok (.string ((m s).getD .empty)) w := by
  obtain ⟨D, h1, h2, h3⟩ := h
  obtain ⟨v, ps, hrun, hv⟩ := h1.lookup keyS ht (zeroS w) (plainElem_string Tryz.underlying9 (by simp [maxLen])) (WideMaps.keyOf_string_mk Tryz.underlying9 hs)
  rw [hrun]
  obtain ⟨c, rfl, e, _⟩ := plainElem_string_inv Tryz.underlying9 hv
  simp only [Prod.mk.injEq] at e
  have h4 := (h3 s).2
  have h5 : (DataW.lit (.string ((m s).getD .empty).data.toList) : DataW Unit) = .lit (.string c.data.toList) := h4.symm.trans e.1
  simp only [DataW.lit.injEq, Lit.string.injEq] at h5
  rw [ByteArray.ext (Array.ext' h5)]

theorem SMap.look_ok {m : ByteArray → Option ByteArray} (h : SMap w b n m) (ht : Tryz.prog.underlying t = some (.map tStr tStr)) (s : ByteArray) (hs : s.size ≤ maxLen) :
    (Instr.lookup t (.map (some b)) (.string s) true).run Tryz.prog w = .ok (.tuple #[.string ((m s).getD .empty), .bool (m s).isSome]) w := by
  obtain ⟨D, h1, h2, h3⟩ := h
  obtain ⟨v, ps, hrun, hv⟩ := h1.look_ok keyS ht (zeroS w) (plainElem_string Tryz.underlying9 (by simp [maxLen])) (WideMaps.keyOf_string_mk Tryz.underlying9 hs)
  rw [hrun]
  obtain ⟨c, rfl, e, _⟩ := plainElem_string_inv Tryz.underlying9 hv
  simp only [Prod.mk.injEq] at e
  have h4 := (h3 s).2
  have h5 : (DataW.lit (.string ((m s).getD .empty).data.toList) : DataW Unit) = .lit (.string c.data.toList) := h4.symm.trans e.1
  simp only [DataW.lit.injEq, Lit.string.injEq] at h5
  rw [ByteArray.ext (Array.ext' h5)]
  exact congrArg (fun z => Result.ok (Value.tuple #[Value.string c, Value.bool z]) w) (h3 s).1

theorem BMap.look {m : ByteArray → Bool} (h : BMap w b n m) (ht : Tryz.prog.underlying t = some (.map tStr tBool)) (s : ByteArray) (hs : s.size ≤ maxLen) :
    (Instr.lookup t (.map (some b)) (.string s) false).run Tryz.prog w = .ok (.bool (m s)) w := by
  obtain ⟨D, h1, h2, h3⟩ := h
  obtain ⟨v, ps, hrun, hv⟩ := h1.lookup keyS ht (zeroB w) (plainElem_bool Tryz.underlying4 false) (WideMaps.keyOf_string_mk Tryz.underlying9 hs)
  rw [hrun]
  have h4 := h3 s
  have hv2 : plainElem (H := Unit) Tryz.prog tBool v = some (.lit (.bool (m s)), ps) := by rw [hv]; exact congrArg (fun x => some (x, ps)) h4
  rw [plainElem_bool_inv Tryz.underlying4 hv2]

theorem SMap.store {m : ByteArray → Option ByteArray} (h : SMap w b n m) (ht : Tryz.prog.underlying t = some (.map tStr tStr)) (hn : n < maxLen) (s v : ByteArray) (hs : s.size ≤ maxLen) (hv : v.size ≤ maxLen) :
    ∃ w', (Instr.mapUpdate t (.map (some b)) (.string s) (.string v)).run Tryz.prog w = .ok () w' ∧ SMap w' b (n + 1) (updS m s v) ∧ w.mapTurned w' b := by
  obtain ⟨D, h1, h2, h3⟩ := h
  obtain ⟨w', hrun, r1, r2⟩ := h1.store keyS ht hn (WideMaps.keyOf_string_mk Tryz.underlying9 hs) (plainElem_string Tryz.underlying9 hv)
  refine ⟨w', hrun, ⟨_, r1, h2.put _ _, fun x => ?_⟩, r2⟩
  by_cases e : x = s
  · subst e
    refine ⟨(has_put_same h2 (key_lit x) _).trans ?_, (atKey_put_same h2 (key_lit x) _ _).trans ?_⟩
    · simp [updS]
    · simp [updS]
  · refine ⟨(has_put_other (kl_ne e) _).trans ((h3 x).1.trans ?_), (atKey_put_other (kl_ne e) _ _).trans ((h3 x).2.trans ?_)⟩
    · simp [updS, e]
    · simp [updS, e]

theorem BMap.store {m : ByteArray → Bool} (h : BMap w b n m) (ht : Tryz.prog.underlying t = some (.map tStr tBool)) (hn : n < maxLen) (s : ByteArray) (hs : s.size ≤ maxLen) :
    ∃ w', (Instr.mapUpdate t (.map (some b)) (.string s) (.bool true)).run Tryz.prog w = .ok () w' ∧ BMap w' b (n + 1) (updB m s) ∧ w.mapTurned w' b := by
  obtain ⟨D, h1, h2, h3⟩ := h
  obtain ⟨w', hrun, r1, r2⟩ := h1.store keyS ht hn (WideMaps.keyOf_string_mk Tryz.underlying9 hs) (plainElem_bool Tryz.underlying4 true)
  refine ⟨w', hrun, ⟨_, r1, h2.put _ _, fun x => ?_⟩, r2⟩
  by_cases e : x = s
  · subst e
    refine (atKey_put_same h2 (key_lit x) _ _).trans ?_
    simp [updB]
  · refine (atKey_put_other (kl_ne e) _ _).trans ((h3 x).trans ?_)
    simp [updB, e]
end

/-- What a store into a map leaves as it was. -/
theorem mapTurned_block {w w' : World} {b k : Nat} (h : w.mapTurned w' b) (hk : k ≠ b) : w'.heap[k]? = w.heap[k]? := by
  obtain ⟨es, clock, es', clock', hb, rfl⟩ := h
  simp [ChangeMaps.setBlock, Ne.symm hk]
theorem mapTurned_size {w w' : World} {b : Nat} (h : w.mapTurned w' b) : w'.heap.size = w.heap.size := by
  obtain ⟨es, clock, es', clock', hb, rfl⟩ := h
  simp [ChangeMaps.setBlock]
theorem mapTurned_below {w w' : World} {b B : Nat} (h : w.mapTurned w' b) (hB : B ≤ b) : Below B w w' := by
  have h1 := mapTurned_size h
  have h2 := fun k => mapTurned_block (k := k) h
  obtain ⟨es, clock, es', clock', hb, rfl⟩ := h
  exact ⟨rfl, rfl, rfl, by rw [h1]; exact Nat.le_refl _, fun k hk => h2 k (by omega)⟩

/-- A store into a map from strings to strings, at the operation. -/
theorem wpList_smap_store {w : World} {ops : Array Oper} {rest : List Oper} {o : Oper} {a : Act} {Q : Exit → Act → World → Prop}
    (hg : o.guard = none) (m x v : Operand) (t : TypeId) (hop : o.op = Op.mapUpdate t m x v) (ht : Tryz.prog.underlying t = some (.map tStr tStr)) (b n : Nat) (f : ByteArray → Option ByteArray)
    (hm : a.eval m = .map (some b)) (hown : SMap w b n f) (hn : n < maxLen) (s c : ByteArray) (hx : a.eval x = .string s) (hv : a.eval v = .string c) (hs : s.size ≤ maxLen) (hc : c.size ≤ maxLen)
    (hK : ∀ w', SMap w' b (n + 1) (updS f s c) → w.mapTurned w' b → wpList Tryz.prog ops Q rest (a.put o.dst undef) w') :
    wpList Tryz.prog ops Q (o :: rest) a w := by
  refine wpList_plain hg fun K' hK' => ?_
  obtain ⟨w', hrun, r1, r2⟩ := hown.store ht hn s c hs hc
  unfold Oper.wp
  simp [execOp, hop, hm, hx, hv, hrun, Result.andThen]
  exact hK' _ _ (hK w' r1 r2)

theorem wpList_bmap_store {w : World} {ops : Array Oper} {rest : List Oper} {o : Oper} {a : Act} {Q : Exit → Act → World → Prop}
    (hg : o.guard = none) (m x v : Operand) (t : TypeId) (hop : o.op = Op.mapUpdate t m x v) (ht : Tryz.prog.underlying t = some (.map tStr tBool)) (b n : Nat) (f : ByteArray → Bool)
    (hm : a.eval m = .map (some b)) (hown : BMap w b n f) (hn : n < maxLen) (s : ByteArray) (hx : a.eval x = .string s) (hv : a.eval v = .bool true) (hs : s.size ≤ maxLen)
    (hK : ∀ w', BMap w' b (n + 1) (updB f s) → w.mapTurned w' b → wpList Tryz.prog ops Q rest (a.put o.dst undef) w') :
    wpList Tryz.prog ops Q (o :: rest) a w := by
  refine wpList_plain hg fun K' hK' => ?_
  obtain ⟨w', hrun, r1, r2⟩ := hown.store ht hn s hs
  unfold Oper.wp
  simp [execOp, hop, hm, hx, hv, hrun, Result.andThen]
  exact hK' _ _ (hK w' r1 r2)
end Go.Proofs

namespace Go.Proofs
open Go.RowKit Go.Maps Go.MapKept

/-- The texts of the first files by their paths. -/
def textOf (l : List FileT) : ByteArray → Option ByteArray := l.foldl (fun m f => updS m f.1 f.2) fun _ => none

theorem textOf_take {l : List FileT} {k : Nat} {f : FileT} (h : l[k]? = some f) : textOf (l.take (k + 1)) = updS (textOf (l.take k)) f.1 f.2 := by
  unfold textOf
  rw [List.take_add_one, h]
  simp

theorem le_max {n : Nat} (h : n ≤ 9223372036854775807) : n ≤ maxLen := h
theorem lt_max {n : Nat} (h : n < 9223372036854775807) : n < maxLen := h

/-- What comes of opening a version. -/
def Opened (w : World) (l : List FileT) (e : Ending) (w' : World) : Prop := ∃ m, e = .returned (.map (some m)) ∧ w.heap.size ≤ m ∧ SMap w' m l.length (textOf l) ∧ Below w.heap.size w w'

set_option maxRecDepth 100000 in
set_option maxHeartbeats 1000000 in
theorem open_calls (b off cap : Nat) (l : List FileT) (w : World) (hl : FilesOK l) (hc : FilesAt w b off l) (hb : b < w.heap.size) :
    Calls Tryz.prog 15 #[.slice (some ⟨b, off, none⟩) l.length cap] w (Opened w l) := by
  have hmm := @run_makeMap Tryz.prog
  have hll := hl.1
  go_enter Tryz.func15, Tryz.ntmps15
  go_wp2
  go_loopw [9] (fun i w' => ∃ k : Nat, k ≤ l.length ∧ SMap w' w.heap.size k (textOf (l.take k)) ∧ Below w.heap.size w w' ∧ i = .int .i64 k) (fun i _ => l.length - (intOf i).toNat)
  case atStart => exact ⟨0, by omega, smap_made w, below_alloc _, rfl⟩
  case round =>
    rename_i wr hrel
    obtain ⟨k, hk, hm, hbel, rfl⟩ := hrel
    have HB := Lib.hid hbel
    have HM := Lib.hid hm
    clear hbel hm
    by_cases hlt : k < l.length
    · obtain ⟨f, hf⟩ : ∃ f, l[k]? = some f := ⟨l[k], List.getElem?_eq_getElem hlt⟩
      obtain ⟨d1, d2⟩ := below_cells hc hb HB.out k f hf
      have hfm := List.mem_of_getElem? hf
      have s1' := Lib.hid (le_max (hl.2 f hfm).1)
      have s2' := Lib.hid (le_max (hl.2 f hfm).2)
      have k1' : Hid (k < maxLen) := Lib.hid (lt_max (by omega))
      have HF := Lib.hid hf
      clear hf
      have HM2 := Lib.hid (HM.out.block (w' := wr.alloc (.cells #[.string f.1, .string f.2] 37)) ((below_alloc _).block _ HM.out.lt))
      go_wp2_with (at_mapUpdate; refine wpList_smap_store rfl _ _ _ 49 rfl Tryz.underlying49 w.heap.size k (textOf (l.take k)) rfl HM2.out k1'.out f.1 f.2 rfl rfl s1'.out s2'.out ?_; intro w1 hm1 ht1)
      go_roundw
      case rel => exact ⟨k + 1, by omega, by rw [textOf_take HF.out]; exact hm1, HB.out.trans (((below_alloc _).mono HB.out.size).trans (mapTurned_below ht1 (Nat.le_refl _))), by go_num⟩
      case measure => simp [intOf]; omega
    · go_wp2
      go_ret
      have hkl : k = l.length := by omega
      subst hkl
      exact ⟨_, rfl, Nat.le_refl _, by have := HM.out; rwa [List.take_length] at this, HB.out⟩
end Go.Proofs

namespace Go.Proofs
open Go.RowKit Go.Sort
open Classical

/-- A row of strings of the call's own. -/
def StrRow (w : World) (base : Nat) (v : Value) (out : List ByteArray) : Prop := w.ownsRow base 9 1 v out.length (out.map Value.string)

/-- A list of strings, sorted. -/
noncomputable def sortS (l : List ByteArray) : List ByteArray := ((l.map fun s => s.data.toList).mergeSort fun x y => decide (x ≤ y)).map fun s => ⟨s.toArray⟩

/-- A slice of strings. -/
def StrsVal (w : World) (v : Value) (l : List ByteArray) : Prop :=
  (v = .slice none 0 0 ∧ l = []) ∨ ∃ b cap, v = .slice (some ⟨b, 0, none⟩) l.length cap ∧ b < w.heap.size ∧ ∀ i (s : ByteArray), l[i]? = some s → w.cell? ⟨b, i, none⟩ = some (.string s)

theorem enc_map (l : List ByteArray) : (l.map fun s => s.data.toList).map encStr = l.map Value.string := by
  rw [List.map_map]
  refine List.map_congr_left fun s _ => ?_
  show Value.string ⟨s.data.toList.toArray⟩ = _
  rfl
theorem enc_sortS (l : List ByteArray) : ((l.map fun s => s.data.toList).mergeSort fun x y => decide (x ≤ y)).map encStr = (sortS l).map Value.string := by
  unfold sortS
  rw [List.map_map]
  rfl

theorem strs_of_row {w : World} {base e : Nat} {v : Value} {l : List ByteArray} (h : w.ownsRow base e 1 v l.length (l.map Value.string)) : StrsVal w v l := by
  have h0 := h
  obtain ⟨_, h⟩ := h
  rcases h with ⟨rfl, h⟩ | ⟨g, cap, cur, rfl, _, hg, _⟩
  · exact .inl ⟨rfl, List.length_eq_zero_iff.1 h⟩
  · refine .inr ⟨g, cap, rfl, (Array.getElem?_eq_some_iff.1 hg).1, fun i s hs => ?_⟩
    have hi : i < l.length := (List.getElem?_eq_some_iff.1 hs).1
    rw [World.ownsRow.cellAt h0 i (by omega), List.getElem?_map, hs]
    rfl

theorem sort_own (base : Nat) (v : Value) (out : List ByteArray) (w : World) (h : StrRow w base v out) (hlen : out.length ≤ 100000) :
    Calls Tryz.prog 27 #[v] w fun e w' => e = .returned (.tuple #[]) ∧ StrsVal w' v (sortS out) ∧ Below base w w' := by
  rcases h.2 with ⟨rfl, hn⟩ | ⟨g, cap, cur, rfl, hbase, hb, h1, h2, h3, h4⟩
  · have hnil : out = [] := List.length_eq_zero_iff.1 hn
    subst hnil
    have ps := Tryz.slices_Sort_string_none none 0 w
    go_enter Tryz.func27, Tryz.ntmps27
    go_wp2_with fail
    refine ps.mono ?_
    rintro e w' ⟨rfl, rfl⟩
    go_wp2
    go_end0
    exact ⟨rfl, .inl ⟨rfl, by simp [sortS]⟩, Below.refl _ _⟩
  · have hl : (out.map fun s => s.data.toList).length = out.length := List.length_map ..
    have hb' := holds_of_block (ss := out.map fun s => s.data.toList) hb (by rw [hl, enc_map]; simpa using h4)
    have ps := Tryz.slices_Sort_string g 0 cap (out.map fun s => s.data.toList) w hb' ((Array.getElem?_eq_some_iff.1 hb).1) (by rw [hl]; omega)
    rw [hl] at ps
    have fin : ∀ n os, StrsVal (grow (putRow encStr (Sort.ahead w n) g 0 ((out.map fun s => s.data.toList).mergeSort fun x y => decide (x ≤ y)).toArray) os) (.slice (some ⟨g, 0, none⟩) out.length cap) (sortS out) ∧
        Below base w (grow (putRow encStr (Sort.ahead w n) g 0 ((out.map fun s => s.data.toList).mergeSort fun x y => decide (x ≤ y)).toArray) os) := by
      intro n os
      have hr := ownsRow_sorted (w := w) (n := n) (os := os) (ss := out.map fun s => s.data.toList) (ts := (out.map fun s => s.data.toList).mergeSort fun x y => decide (x ≤ y)) (by rw [List.length_mergeSort]) hbase hb (by rw [hl]; exact h1) h2 h3
      rw [enc_sortS, hl] at hr
      have hsl : (sortS out).length = out.length := by
        unfold sortS
        rw [List.length_map, List.length_mergeSort, hl]
      refine ⟨?_, ?_⟩
      · have := strs_of_row (l := sortS out) (by rw [hsl]; exact hr)
        exact this
      · have hg := grownBy_sorted (w := w) (g := g) (n := n) (os := os) (((out.map fun s => s.data.toList).mergeSort fun x y => decide (x ≤ y)).toArray)
        have hglt := (Array.getElem?_eq_some_iff.1 hb).1
        exact ⟨hg.os, hg.tape, hg.output, hg.size, fun k hk => hg.block k (by omega) (fun e => by cases e; omega)⟩
    go_enter Tryz.func27, Tryz.ntmps27
    go_wp2_with fail
    refine ps.mono ?_
    rintro e w' ⟨rfl, n, os, rfl⟩
    go_wp2
    go_end0
    exact ⟨rfl, (fin n os).1, (fin n os).2⟩
end Go.Proofs

namespace Go.Proofs
open Go.RowKit Go.Maps Go.MapKept
open Classical

theorem infoStr : (Tryz.prog.info? 9).map (fun i => (i.zero, i.size, i.bytes)) = some (some (.string .empty), 1, 16) := by kernel_rfl

/-- The paths of more files, each once. -/
noncomputable def collect (out : List ByteArray) (l : List FileT) : List ByteArray := l.foldl (fun o f => if f.1 ∈ o then o else o ++ [f.1]) out

theorem collect_take {out : List ByteArray} {l : List FileT} {k : Nat} {f : FileT} (h : l[k]? = some f) : collect out (l.take (k + 1)) = if f.1 ∈ collect out (l.take k) then collect out (l.take k) else collect out (l.take k) ++ [f.1] := by
  unfold collect
  rw [List.take_add_one, h]
  simp

theorem collect_length (out : List ByteArray) (l : List FileT) : (collect out l).length ≤ out.length + l.length := by
  induction l generalizing out with
  | nil => simp [collect]
  | cons f l ih =>
    have : collect out (f :: l) = collect (if f.1 ∈ out then out else out ++ [f.1]) l := rfl
    rw [this]
    have h := ih (if f.1 ∈ out then out else out ++ [f.1])
    have h2 : (if f.1 ∈ out then out else out ++ [f.1]).length ≤ out.length + 1 := by split <;> simp
    simp
    omega

theorem gather_length (ls : List (List FileT)) (h : ∀ l ∈ ls, l.length ≤ 1000) : ∀ out, (ls.foldl collect out).length ≤ out.length + 1000 * ls.length := by
  induction ls with
  | nil => intro out; simp
  | cons l ls ih =>
    intro out
    have h1 := ih (fun x hx => h x (List.mem_cons_of_mem _ hx)) (collect out l)
    have h2 := collect_length out l
    have h3 := h l (List.mem_cons_self ..)
    simp only [List.foldl_cons, List.length_cons]
    omega

noncomputable def memB (out : List ByteArray) : ByteArray → Bool := fun s => decide (s ∈ out)
theorem memB_append (out : List ByteArray) (s : ByteArray) : updB (memB out) s = memB (out ++ [s]) := by
  funext x
  unfold updB memB
  by_cases h : x = s <;> simp [h]

/-- How the gathering of paths stands. -/
structure PInv (w0 wr : World) (mb : Nat) (c : Array Value) (v : Value) (out : List ByteArray) : Prop where
  hmb : w0.heap.size ≤ mb
  bel : Below w0.heap.size w0 wr
  map : BMap wr mb out.length (memB out)
  row : StrRow wr (mb + 2) v out
  arr : ∃ t, wr.heap[mb + 1]? = some (.cells c t (0, 0))

theorem PInv.alloc {w0 wr : World} {mb : Nat} {c : Array Value} {v : Value} {out : List ByteArray} (h : PInv w0 wr mb c v out) (o : Obj) : PInv w0 (wr.alloc o) mb c v out := by
  obtain ⟨t, ht⟩ := h.arr
  refine ⟨h.hmb, h.bel.trans ((below_alloc o).mono h.bel.size), h.map.below (below_alloc o) h.map.lt, World.ownsRow.alloc h.row o, t, ?_⟩
  rw [(below_alloc o).block _ (Array.getElem?_eq_some_iff.1 ht).1, ht]

theorem PInv.cell {w0 wr : World} {mb : Nat} {c : Array Value} {v : Value} {out : List ByteArray} (h : PInv w0 wr mb c v out) {j : Nat} {x : Value} (hx : c[j]? = some x) : wr.cell? ⟨mb + 1, j, none⟩ = some x := by
  obtain ⟨t, ht⟩ := h.arr
  simp only [World.cell?, ht]
  exact hx

theorem PInv.mapped {w0 wr w1 : World} {mb : Nat} {c : Array Value} {v : Value} {out : List ByteArray} {s : ByteArray} (h : PInv w0 wr mb c v out) (hm : BMap w1 mb (out.length + 1) (updB (memB out) s)) (ht : wr.mapTurned w1 mb) :
    Below w0.heap.size w0 w1 ∧ BMap w1 mb (out.length + 1) (memB (out ++ [s])) ∧ StrRow w1 (mb + 2) v out ∧ (∃ t, w1.heap[mb + 1]? = some (.cells c t (0, 0))) := by
  obtain ⟨t, ha⟩ := h.arr
  refine ⟨h.bel.trans (mapTurned_below ht h.hmb), by rw [← memB_append]; exact hm, World.ownsRow.kept h.row ht.grown ?_, t, ?_⟩
  · rcases hv : v.ownBlock with _ | g
    · exact .inl rfl
    · refine .inr ?_
      have := (World.ownsRow.lt h.row g hv).1
      intro e
      cases e
      omega
  · rw [mapTurned_block ht (by omega), ha]

theorem PInv.appended {w0 w1 w2 : World} {mb : Nat} {c : Array Value} {v v' : Value} {out : List ByteArray} {s : ByteArray} (hmb : w0.heap.size ≤ mb)
    (h : Below w0.heap.size w0 w1 ∧ BMap w1 mb (out.length + 1) (memB (out ++ [s])) ∧ StrRow w1 (mb + 2) v out ∧ (∃ t, w1.heap[mb + 1]? = some (.cells c t (0, 0)))) (o : Obj)
    (hr : w2.ownsRow (mb + 2) 9 1 v' (out.length + 1) (out.map Value.string ++ [.string s])) (hg : (w1.alloc o).grownBy w2 v.ownBlock) : PInv w0 w2 mb c v' (out ++ [s]) := by
  obtain ⟨h1, h2, h3, t, h4⟩ := h
  have hne : ∀ k, k < mb + 2 → some k ≠ v.ownBlock := by
    intro k hk e
    have := (World.ownsRow.lt h3 k e.symm).1
    omega
  have ha : Below (mb + 2) w1 w2 := by
    have hlt4 := (Array.getElem?_eq_some_iff.1 h4).1
    refine ⟨hg.os, hg.tape, hg.output, Nat.le_trans (below_alloc o).size hg.size, fun k hk => ?_⟩
    rw [hg.block k (by simp; omega) (hne k hk)]
    exact (below_alloc o).block k (by omega)
  refine ⟨hmb, h1.trans (ha.mono (by omega)), ?_, ?_, t, ?_⟩
  · have := h2.below ha (by omega)
    simpa using this
  · unfold StrRow
    simpa using hr
  · rw [ha.block _ (by omega), h4]

theorem new_cell (w : World) (x : Value) (t : TypeId) : ∀ j u, [x][j]? = some u → (w.alloc (.cells #[x] t)).cell? ((⟨w.heap.size, 0, none⟩ : Addr).add j) = some u := by
  intro j u h
  match j, h with
  | 0, h =>
    cases h
    have := (MapKept.heap_alloc w (.cells #[x] t)).1
    show (w.alloc (.cells #[x] t)).cell? ⟨w.heap.size, 0, none⟩ = some x
    simp only [World.cell?, this]
    rfl
theorem one_string (s : ByteArray) : ∀ u ∈ [Value.string s], u.oneCell' = true := by
  intro u hu
  simp only [List.mem_singleton] at hu
  subst hu
  rfl

/-- What comes of gathering and sorting. -/
def Gathered (w : World) (ls : List (List FileT)) (e : Ending) (w' : World) : Prop := ∃ v, e = .returned v ∧ StrsVal w' v (sortS (ls.foldl collect [])) ∧ Below w.heap.size w w'

set_option maxRecDepth 100000 in
set_option maxHeartbeats 4000000 in
theorem paths_calls (v0 v1 v2 : Value) (l0 l1 l2 : List FileT) (w : World) (h0 : FilesVal w v0 l0) (h1 : FilesVal w v1 l1) (h2 : FilesVal w v2 l2) (k0 : FilesOK l0) (k1 : FilesOK l1) (k2 : FilesOK l2)
    (n0 : l0.length ≤ 1000) (n1 : l1.length ≤ 1000) (n2 : l2.length ≤ 1000) :
    Calls Tryz.prog 16 #[v0, v1, v2] w (Gathered w [l0, l1, l2]) := by
  obtain ⟨a0, c0, rfl⟩ := h0.slice
  obtain ⟨a1, c1, rfl⟩ := h1.slice
  obtain ⟨a2, c2, rfl⟩ := h2.slice
  have hmm := @run_makeMap Tryz.prog
  obtain ⟨is, hi, hz0, hz1, hz2⟩ := info_parts infoStr
  go_enter Tryz.func16, Tryz.ntmps16
  go_wp2
  have hst : PInv w ((w.alloc (.map #[] 0)).alloc (.cells #[.slice a0 l0.length c0, .slice a1 l1.length c1, .slice a2 l2.length c2] 23)) w.heap.size #[.slice a0 l0.length c0, .slice a1 l1.length c1, .slice a2 l2.length c2] (.slice none 0 0) [] := by
    refine ⟨Nat.le_refl _, (below_alloc _).trans ((below_alloc _).mono (by simp)), ?_, World.ownsRow_nil _ _ _ _, 23, ?_⟩
    · have := (bmap_made w).below (below_alloc (.cells #[.slice a0 l0.length c0, .slice a1 l1.length c1, .slice a2 l2.length c2] 23)) (bmap_made w).lt
      have e : memB [] = fun _ => false := by funext x; simp [memB]
      rw [e]
      exact this
    · have := (MapKept.heap_alloc (w.alloc (.map #[] 0)) (.cells #[.slice a0 l0.length c0, .slice a1 l1.length c1, .slice a2 l2.length c2] 23)).1
      simpa using this
  have HST := Lib.hid hst
  clear hst
  obtain ⟨C, hC⟩ : ∃ C : Array Value, C = #[.slice a0 l0.length c0, .slice a1 l1.length c1, .slice a2 l2.length c2] := ⟨_, rfl⟩
  go_loopw [8, 19] (fun v i w' => ∃ j : Nat, j ≤ 3 ∧ PInv w w' w.heap.size #[.slice a0 l0.length c0, .slice a1 l1.length c1, .slice a2 l2.length c2] v (([l0, l1, l2].take j).foldl collect []) ∧ i = .int .i64 j) (fun _ i _ => 3 - (intOf i).toNat)
  case atStart => exact ⟨0, by omega, HST.out, rfl⟩
  case round =>
    rename_i wr hrel
    obtain ⟨j, hj, hinv, rfl⟩ := hrel
    have HI := Lib.hid hinv
    clear hinv HST
    by_cases hlt : j < 3
    · obtain ⟨a, L, c, hcell, hL, hF, hO, hn⟩ : ∃ a L c, wr.cell? ⟨w.heap.size + 1, j, none⟩ = some (.slice a (List.length L) c) ∧ [l0, l1, l2][j]? = some L ∧ FilesVal w (.slice a (List.length L) c) L ∧ FilesOK L ∧ L.length ≤ 1000 := by
        match j, hlt with
        | 0, _ => exact ⟨a0, l0, c0, HI.out.cell rfl, rfl, h0, k0, n0⟩
        | 1, _ => exact ⟨a1, l1, c1, HI.out.cell rfl, rfl, h1, k1, n1⟩
        | 2, _ => exact ⟨a2, l2, c2, HI.out.cell rfl, rfl, h2, k2, n2⟩
      have HL := Lib.hid hL
      clear hL
      have hd : decide ((j : Int) < 3) = true := by simp; omega
      go_wp2
      clear hd
      obtain ⟨wo, rfl⟩ : ∃ wo : World, wo = wr := ⟨_, rfl⟩
      go_loopw [8, 25] (fun v i w' => ∃ k : Nat, k ≤ L.length ∧ PInv w w' w.heap.size #[.slice a0 l0.length c0, .slice a1 l1.length c1, .slice a2 l2.length c2] v (collect (([l0, l1, l2].take j).foldl collect []) (L.take k)) ∧ i = .int .i64 k) (fun _ i _ => L.length - (intOf i).toNat)
      case atStart => exact ⟨0, by omega, HI.out, rfl⟩
      case round =>
        rename_i wr hrel
        obtain ⟨k, hk, hinv, rfl⟩ := hrel
        have HJ := Lib.hid hinv
        clear hinv hcell
        by_cases hkl : k < L.length
        · obtain ⟨b, off, rfl, hb, hc⟩ : ∃ b off, a = some ⟨b, off, none⟩ ∧ b < w.heap.size ∧ FilesAt w b off L := by
            rcases hF with ⟨_, hnil⟩ | ⟨b, off, cap, e, hb, hc⟩
            · subst hnil; simp at hkl
            · cases e; exact ⟨b, off, rfl, hb, hc⟩
          obtain ⟨f, hf⟩ : ∃ f, L[k]? = some f := ⟨L[k], List.getElem?_eq_getElem hkl⟩
          obtain ⟨d1, d2⟩ := below_cells hc hb HJ.out.bel k f hf
          have hfm := List.mem_of_getElem? hf
          have s1' := Lib.hid (le_max (hO.2 f hfm).1)
          have hct := Lib.hid (collect_take (out := ([l0, l1, l2].take j).foldl collect []) hf)
          have hol0 : Hid ((collect (([l0, l1, l2].take j).foldl collect []) (L.take k)).length ≤ 10000) := Lib.hid (by
            have h1 := collect_length (([l0, l1, l2].take j).foldl collect []) (L.take k)
            have h2 := gather_length ([l0, l1, l2].take j) (by
              intro l hl
              have := List.mem_of_mem_take hl
              simp only [List.mem_cons, List.not_mem_nil, or_false] at this
              rcases this with rfl | rfl | rfl <;> assumption) []
            have h3 : (L.take k).length ≤ L.length := List.length_take_le' ..
            have h4 : ([l0, l1, l2].take j).length ≤ 3 := by simp; omega
            simp only [List.length_nil] at h2
            omega)
          generalize collect (([l0, l1, l2].take j).foldl collect []) (L.take k) = out at *
          clear hf
          have hlk := (HJ.out.alloc (.cells #[.string f.1, .string f.2] 37)).map.look (t := 71) Tryz.underlying71 f.1 s1'.out
          by_cases hin : memB out f.1 = true
          · rw [hin] at hlk
            go_wp2
            go_roundw
            case rel =>
              refine ⟨k + 1, by omega, ?_, by go_num⟩
              rw [hct.out, if_pos (by simpa [memB] using hin)]
              exact HJ.out.alloc _
            case measure => simp [intOf]; omega
          · have hin : memB out f.1 = false := by simpa using hin
            rw [hin] at hlk
            have hol := hol0.out
            have k1' : Hid (out.length < maxLen) := Lib.hid (lt_max (by omega))
            have HA := Lib.hid (HJ.out.alloc (.cells #[.string f.1, .string f.2] 37))
            have hbx : (wr.alloc (.cells #[.string f.1, .string f.2] 37)).heap[wr.heap.size]? = some (.cells #[.string f.1, .string f.2] 37) := (MapKept.heap_alloc wr _).1
            have HBX := Lib.hid hbx
            clear hbx
            go_wp2_with (first
              | (at_mapUpdate; refine wpList_bmap_store rfl _ _ _ 71 rfl Tryz.underlying71 w.heap.size out.length (memB out) rfl HA.out.map k1'.out f.1 rfl rfl s1'.out ?_; intro w1 hm1 ht1; have HP := Lib.hid (HA.out.mapped hm1 ht1); have hc1 : w1.cell? ⟨wr.heap.size, 0, none⟩ = some (.string f.1) := (by simp only [World.cell?]; rw [mapTurned_block ht1 (by have := HJ.out.map.lt; omega), HBX.out]; rfl); have hsz1 := Lib.hid (mapTurned_size ht1); have hmb2 : Hid (w.heap.size + 2 ≤ w1.heap.size) := Lib.hid (HP.out.2.2.2.elim fun _ h => (Array.getElem?_eq_some_iff.1 h).1); clear hm1 ht1)
              | (at_builtin; refine wpList_append_own _ rfl _ _ 53 rfl (w.heap.size + 2) 9 is (.string .empty) 1 16 Tryz.underlying53 hi hz0 hz1 hz2 rfl (by decide) _ out.length (out.map Value.string) rfl (World.ownsRow.alloc HP.out.2.2.1 _) ⟨w1.heap.size, 0, none⟩ 1 1 [.string f.1] rfl rfl (new_cell _ _ _) (one_string _) (le_max (by omega)) (by omega) (Nat.le_trans hmb2.out (below_alloc _).size) ?_; intro v' w2 hown2 hgrow2 hnil2))
            go_roundw
            case rel =>
              refine ⟨k + 1, by omega, ?_, by go_num⟩
              rw [hct.out, if_neg (by simpa [memB] using hin)]
              exact PInv.appended (Nat.le_refl _) HP.out _ hown2 hgrow2
            case measure => simp [intOf]; omega
        · go_wp2
          have hkk : k = L.length := by omega
          subst hkk
          go_roundw
          case rel =>
            refine ⟨j + 1, by omega, ?_, by go_num⟩
            have := HJ.out
            rw [List.take_length] at this
            rw [List.take_add_one, HL.out, List.foldl_append]
            exact this
          case measure => simp [intOf]; omega
    · obtain rfl : j = 3 := by omega
      have HO3 : Hid ((([l0, l1, l2].take 3).foldl collect []).length ≤ 100000) := Lib.hid (by
        have h2 := gather_length ([l0, l1, l2].take 3) (by
          intro l hl
          have := List.mem_of_mem_take hl
          simp only [List.mem_cons, List.not_mem_nil, or_false] at this
          rcases this with rfl | rfl | rfl <;> assumption) []
        simp at h2
        simp
        omega)
      go_wp2_with (go_at_call 27; refine (sort_own _ _ _ _ HI.out.row HO3.out).mono ?_; rintro e w1 ⟨rfl, hs, hb⟩)
      go_ret
      exact ⟨_, rfl, hs, HI.out.bel.trans (hb.mono (by omega))⟩
end Go.Proofs

namespace Go.Proofs
open Go.RowKit Go.Maps Go.MapKept

set_option maxRecDepth 100000 in
theorem has_calls (b n : Nat) (f : ByteArray → Option ByteArray) (s : ByteArray) (w : World) (h : SMap w b n f) (hs : s.size ≤ 9223372036854775807) :
    Calls Tryz.prog 28 #[.map (some b), .string s] w fun e w' => e = .returned (.bool (f s).isSome) ∧ w = w' := by
  have hlk := h.look_ok (t := 49) Tryz.underlying49 s (le_max hs)
  go_enter Tryz.func28, Tryz.ntmps28
  go_wp2
  go_ret
  exact ⟨rfl, rfl⟩

/-- What a map from strings to strings has for a key, entry by entry. -/
theorem SMap.now {w : World} {b n : Nat} {f : ByteArray → Option ByteArray} (h : SMap w b n f) (s : ByteArray) (hs : s.size ≤ 9223372036854775807) :
    ∃ es clock, w.heap[b]? = some (.map es clock) ∧ (match f s with
      | none => Instr.findNow .string (.string s) es.toList 0 = some none
      | some x => ∃ i, Instr.findNow .string (.string s) es.toList 0 = some (some (i, .string x))) := by
  have hlk := h.look_ok (t := 48) Tryz.underlying48 s (le_max hs)
  obtain ⟨D, ⟨es, clock, hb, F, _, _⟩, _⟩ := h
  refine ⟨es, clock, hb, ?_⟩
  have hks : ∀ x ∈ es.toList, IsKey .string x.key := by
    intro x hx
    obtain ⟨l, hl⟩ := F.keys x hx
    obtain ⟨t, ht⟩ := Maps.keyOf_string_inv Tryz.underlying9 hl
    rw [ht]
    trivial
  have hun : (underlying 48).run Tryz.prog w = .ok (.map tStr tStr) w := run_underlying Tryz.underlying48 w
  have hunk : (underlying tStr).run Tryz.prog w = .ok .string w := run_underlying Tryz.underlying9 w
  have hck : ∀ c, (Instr.checkKey c 10000 tStr (.string s)).run Tryz.prog w = .ok () w := fun c => by
    unfold Instr.checkKey
    simp only [Sem.run_bind, hunk, Result.andThen]
    rfl
  have hget : (getObj b).run Tryz.prog w = .ok (.map es clock) w := by simp [getObj, Sem.run, hb]
  rcases findNow_spec (d := .string) (k := .string s) trivial es.toList 0 hks with ⟨h1, _⟩ | ⟨j, e, h1, _, _⟩
  · have hfk : (Instr.findKey tStr (.string s) es.toList).run Tryz.prog w = .ok none w := by simp [Instr.findKey, hunk, h1, Result.andThen]
    simp [Instr.lookup, hun, hget, hck, hfk, Result.andThen] at hlk
    cases hf : f s with
    | none => exact h1
    | some x => rw [hf] at hlk; simp at hlk
  · have hfk : (Instr.findKey tStr (.string s) es.toList).run Tryz.prog w = .ok (some (0 + j, e.val)) w := by simp [Instr.findKey, hunk, h1, Result.andThen]
    simp [Instr.lookup, hun, hget, hck, hfk, Result.andThen] at hlk
    cases hf : f s with
    | none => rw [hf] at hlk; simp at hlk
    | some x =>
      rw [hf] at hlk
      simp at hlk
      exact ⟨0 + j, by rw [h1, hlk]⟩

/-- A merger: three versions, no picks. -/
structure Merger (w : World) (mp B L R : Nat) (fb fl fr : ByteArray → Option ByteArray) : Prop where
  c : ∃ t fz, w.heap[mp]? = some (.cells #[.map (some B), .map (some L), .map (some R), .slice none 0 0] t fz)
  b : ∃ n, SMap w B n fb
  l : ∃ n, SMap w L n fl
  r : ∃ n, SMap w R n fr

theorem Merger.lt {w : World} {mp B L R : Nat} {fb fl fr : ByteArray → Option ByteArray} (h : Merger w mp B L R fb fl fr) : mp < w.heap.size ∧ B < w.heap.size ∧ L < w.heap.size ∧ R < w.heap.size := by
  refine ⟨?_, h.b.elim fun _ x => x.lt, h.l.elim fun _ x => x.lt, h.r.elim fun _ x => x.lt⟩
  obtain ⟨t, fz, hc⟩ := h.c
  exact (Array.getElem?_eq_some_iff.1 hc).1

theorem Merger.keep {w w' : World} {mp B L R N : Nat} {fb fl fr : ByteArray → Option ByteArray} (h : Merger w mp B L R fb fl fr) (hb : Below N w w') (h1 : mp < N) (h2 : B < N) (h3 : L < N) (h4 : R < N) : Merger w' mp B L R fb fl fr := by
  obtain ⟨t, fz, hc⟩ := h.c
  exact ⟨⟨t, fz, (hb.block mp h1).trans hc⟩, h.b.imp fun _ x => x.below hb h2, h.l.imp fun _ x => x.below hb h3, h.r.imp fun _ x => x.below hb h4⟩

theorem Merger.below {w w' : World} {mp B L R : Nat} {fb fl fr : ByteArray → Option ByteArray} (h : Merger w mp B L R fb fl fr) (hb : Below w.heap.size w w') : Merger w' mp B L R fb fl fr :=
  h.keep hb h.lt.1 h.lt.2.1 h.lt.2.2.1 h.lt.2.2.2
end Go.Proofs
