/-
  Maps from strings, seen as functions. A row of strings, sorted by the library. The sorted paths of three versions.
-/
import Derived.Test.YtjhmlmiegkjncaaGreatDoorCB
import Derived.Maps.StringElems
import Derived.Maps.OwnSet
import Derived.Maps.Views
import Derived.Carry
import Derived.Test.YtjhmlmiegkjncaaGreatDoorLib
import Derived.WalkKit
import Derived.Below
import Derived.Lib.Hide
import Derived.OwnWalk
import Derived.Sort.OwnSorted
set_option linter.all false

namespace Go.Proofs
open Go.RowKit Go.Maps Go.MapKept

abbrev tStr : TypeId := 9
abbrev tBool : TypeId := 4
theorem keyS : Keyed Tryz.prog tStr := string_keyed Tryz.underlying9
theorem zeroS (w : World) : (zeroValue tStr).run Tryz.prog w = .ok (.string .empty) w := by kernel_rfl
theorem zeroB (w : World) : (zeroValue tBool).run Tryz.prog w = .ok (.bool false) w := by kernel_rfl

/-- The key of a string. -/
def kl (s : ByteArray) : Lit := .string s.data.toList
theorem kl_ne {s t : ByteArray} (h : s ≠ t) : kl s ≠ kl t := by
  intro e
  apply h
  simp only [kl, Lit.string.injEq] at e
  exact ByteArray.ext (Array.ext' e)

/-- Block b is a map from strings to strings of at most n entries. -/
def SMap (w : World) (b n : Nat) (m : ByteArray → Option ByteArray) : Prop :=
  ∃ D : DataW Unit, w.ownsMap Tryz.prog tStr (plainElem Tryz.prog tStr) b n D ∧ IsMap D ∧
    ∀ s, (has D (kl s) = (m s).isSome) ∧ (D.atKey (kl s) (.lit (.string [])) = .lit (.string ((m s).getD .empty).data.toList))

/-- Block b is a map from strings to truth values of at most n entries, all true. -/
def BMap (w : World) (b n : Nat) (m : ByteArray → Bool) : Prop :=
  ∃ D : DataW Unit, w.ownsMap Tryz.prog tStr (plainElem Tryz.prog tBool) b n D ∧ IsMap D ∧ ∀ s, D.atKey (kl s) (.lit (.bool false)) = .lit (.bool (m s))

def updS (m : ByteArray → Option ByteArray) (k v : ByteArray) : ByteArray → Option ByteArray := fun s => if s = k then some v else m s
def updB (m : ByteArray → Bool) (k : ByteArray) : ByteArray → Bool := fun s => if s = k then true else m s

theorem smap_made (w : World) : SMap (w.alloc (.map #[] 0)) w.heap.size 0 fun _ => none :=
  ⟨_, World.ownsMap_made w Tryz.prog _ _, isMap_empty, fun _ => ⟨rfl, rfl⟩⟩
theorem bmap_made (w : World) : BMap (w.alloc (.map #[] 0)) w.heap.size 0 fun _ => false :=
  ⟨_, World.ownsMap_made w Tryz.prog _ _, isMap_empty, fun _ => rfl⟩

theorem SMap.lt {w : World} {b n : Nat} {m : ByteArray → Option ByteArray} (h : SMap w b n m) : b < w.heap.size := h.elim fun _ h => h.1.lt
theorem BMap.lt {w : World} {b n : Nat} {m : ByteArray → Bool} (h : BMap w b n m) : b < w.heap.size := h.elim fun _ h => h.1.lt

theorem ownsMap_block {H : Type} {w w' : World} {P : Program} {k : TypeId} {R : Value → Option (DataW H × List MemPlace)} {b n : Nat} {D : DataW H} (h : w.ownsMap P k R b n D) (e : w'.heap[b]? = w.heap[b]?) : w'.ownsMap P k R b n D := by
  obtain ⟨es, c, hb, r⟩ := h
  exact ⟨es, c, e.trans hb, r⟩
theorem SMap.block {w w' : World} {b n : Nat} {m : ByteArray → Option ByteArray} (h : SMap w b n m) (e : w'.heap[b]? = w.heap[b]?) : SMap w' b n m := by
  obtain ⟨D, h1, h2⟩ := h
  exact ⟨D, ownsMap_block h1 e, h2⟩
theorem BMap.block {w w' : World} {b n : Nat} {m : ByteArray → Bool} (h : BMap w b n m) (e : w'.heap[b]? = w.heap[b]?) : BMap w' b n m := by
  obtain ⟨D, h1, h2⟩ := h
  exact ⟨D, ownsMap_block h1 e, h2⟩
theorem SMap.below {w w' : World} {b n B : Nat} {m : ByteArray → Option ByteArray} (h : SMap w b n m) (hb : Below B w w') (hB : b < B) : SMap w' b n m := h.block (hb.block b hB)
theorem BMap.below {w w' : World} {b n B : Nat} {m : ByteArray → Bool} (h : BMap w b n m) (hb : Below B w w') (hB : b < B) : BMap w' b n m := h.block (hb.block b hB)

theorem key_lit (s : ByteArray) : WideAt.IsKeyLit (kl s) := by simp [kl, WideAt.IsKeyLit]

theorem plainElem_bool_inv {P : Program} {e : TypeId} (he : P.underlying e = some .bool) {v : Value} {x : Bool} {ps : List MemPlace} (h : plainElem (H := Unit) P e v = some (.lit (.bool x), ps)) : v = .bool x := by
  unfold plainElem at h
  rw [he] at h
  cases v <;> simp at h
  rw [h.1]

section
variable {w : World} {b n : Nat} {t : TypeId}

theorem SMap.look {m : ByteArray → Option ByteArray} (h : SMap w b n m) (ht : Tryz.prog.underlying t = some (.map tStr tStr)) (s : ByteArray) (hs : s.size ≤ maxLen) :
    (Instr.lookup t (.map (some b)) (.string s) false).run Tryz.prog w = .ok (.string ((m s).getD .empty)) w := by
  obtain ⟨D, h1, h2, h3⟩ := h
  obtain ⟨v, ps, hrun, hv⟩ := h1.lookup keyS ht (zeroS w) (plainElem_string Tryz.underlying9 (by simp [maxLen])) (WideMaps.keyOf_string_mk Tryz.underlying9 hs)
  rw [hrun]
  obtain ⟨c, rfl, e, _⟩ := plainElem_string_inv Tryz.underlying9 hv
  simp only [Prod.mk.injEq] at e
  have h4 := (h3 s).2
  have h5 : (DataW.lit (.string ((m s).getD .empty).data.toList) : DataW Unit) = .lit (.string c.data.toList) := h4.symm.trans e.1
  simp only [DataW.lit.injEq, Lit.string.injEq] at h5
  rw [ByteArray.ext (Array.ext' h5)]

theorem SMap.look_ok {m : ByteArray → Option ByteArray} (h : SMap w b n m) (ht : Tryz.prog.underlying t = some (.map tStr tStr)) (s : ByteArray) (hs : s.size ≤ maxLen) :
    (Instr.lookup t (.map (some b)) (.string s) true).run Tryz.prog w = .ok (.tuple #[.string ((m s).getD .empty), .bool (m s).isSome]) w := by
  obtain ⟨D, h1, h2, h3⟩ := h
  obtain ⟨v, ps, hrun, hv⟩ := h1.look_ok keyS ht (zeroS w) (plainElem_string Tryz.underlying9 (by simp [maxLen])) (WideMaps.keyOf_string_mk Tryz.underlying9 hs)
  rw [hrun]
  obtain ⟨c, rfl, e, _⟩ := plainElem_string_inv Tryz.underlying9 hv
  simp only [Prod.mk.injEq] at e
  have h4 := (h3 s).2
  have h5 : (DataW.lit (.string ((m s).getD .empty).data.toList) : DataW Unit) = .lit (.string c.data.toList) := h4.symm.trans e.1
  simp only [DataW.lit.injEq, Lit.string.injEq] at h5
  rw [ByteArray.ext (Array.ext' h5)]
  exact congrArg (fun z => Result.ok (Value.tuple #[Value.string c, Value.bool z]) w) (h3 s).1

theorem BMap.look {m : ByteArray → Bool} (h : BMap w b n m) (ht : Tryz.prog.underlying t = some (.map tStr tBool)) (s : ByteArray) (hs : s.size ≤ maxLen) :
    (Instr.lookup t (.map (some b)) (.string s) false).run Tryz.prog w = .ok (.bool (m s)) w := by
  obtain ⟨D, h1, h2, h3⟩ := h
  obtain ⟨v, ps, hrun, hv⟩ := h1.lookup keyS ht (zeroB w) (plainElem_bool Tryz.underlying4 false) (WideMaps.keyOf_string_mk Tryz.underlying9 hs)
  rw [hrun]
  have h4 := h3 s
  have hv2 : plainElem (H := Unit) Tryz.prog tBool v = some (.lit (.bool (m s)), ps) := by rw [hv]; exact congrArg (fun x => some (x, ps)) h4
  rw [plainElem_bool_inv Tryz.underlying4 hv2]

theorem SMap.store {m : ByteArray → Option ByteArray} (h : SMap w b n m) (ht : Tryz.prog.underlying t = some (.map tStr tStr)) (hn : n < maxLen) (s v : ByteArray) (hs : s.size ≤ maxLen) (hv : v.size ≤ maxLen) :
    ∃ w', (Instr.mapUpdate t (.map (some b)) (.string s) (.string v)).run Tryz.prog w = .ok () w' ∧ SMap w' b (n + 1) (updS m s v) ∧ w.mapTurned w' b := by
  obtain ⟨D, h1, h2, h3⟩ := h
  obtain ⟨w', hrun, r1, r2⟩ := h1.store keyS ht hn (WideMaps.keyOf_string_mk Tryz.underlying9 hs) (plainElem_string Tryz.underlying9 hv)
  refine ⟨w', hrun, ⟨_, r1, h2.put _ _, fun x => ?_⟩, r2⟩
  by_cases e : x = s
  · subst e
    refine ⟨(has_put_same h2 (key_lit x) _).trans ?_, (atKey_put_same h2 (key_lit x) _ _).trans ?_⟩
    · simp [updS]
    · simp [updS]
  · refine ⟨(has_put_other (kl_ne e) _).trans ((h3 x).1.trans ?_), (atKey_put_other (kl_ne e) _ _).trans ((h3 x).2.trans ?_)⟩
    · simp [updS, e]
    · simp [updS, e]

theorem BMap.store {m : ByteArray → Bool} (h : BMap w b n m) (ht : Tryz.prog.underlying t = some (.map tStr tBool)) (hn : n < maxLen) (s : ByteArray) (hs : s.size ≤ maxLen) :
    ∃ w', (Instr.mapUpdate t (.map (some b)) (.string s) (.bool true)).run Tryz.prog w = .ok () w' ∧ BMap w' b (n + 1) (updB m s) ∧ w.mapTurned w' b := by
  obtain ⟨D, h1, h2, h3⟩ := h
  obtain ⟨w', hrun, r1, r2⟩ := h1.store keyS ht hn (WideMaps.keyOf_string_mk Tryz.underlying9 hs) (plainElem_bool Tryz.underlying4 true)
  refine ⟨w', hrun, ⟨_, r1, h2.put _ _, fun x => ?_⟩, r2⟩
  by_cases e : x = s
  · subst e
    refine (atKey_put_same h2 (key_lit x) _ _).trans ?_
    simp [updB]
  · refine (atKey_put_other (kl_ne e) _ _).trans ((h3 x).trans ?_)
    simp [updB, e]
end

/-- What a store into a map leaves as it was. -/
theorem mapTurned_block {w w' : World} {b k : Nat} (h : w.mapTurned w' b) (hk : k ≠ b) : w'.heap[k]? = w.heap[k]? := by
  obtain ⟨es, clock, es', clock', hb, rfl⟩ := h
  simp [ChangeMaps.setBlock, Ne.symm hk]
theorem mapTurned_size {w w' : World} {b : Nat} (h : w.mapTurned w' b) : w'.heap.size = w.heap.size := by
  obtain ⟨es, clock, es', clock', hb, rfl⟩ := h
  simp [ChangeMaps.setBlock]
theorem mapTurned_below {w w' : World} {b B : Nat} (h : w.mapTurned w' b) (hB : B ≤ b) : Below B w w' := by
  have h1 := mapTurned_size h
  have h2 := fun k => mapTurned_block (k := k) h
  obtain ⟨es, clock, es', clock', hb, rfl⟩ := h
  exact ⟨rfl, rfl, rfl, by rw [h1]; exact Nat.le_refl _, fun k hk => h2 k (by omega)⟩

/-- A store into a map from strings to strings, at the operation. -/
theorem wpList_smap_store {w : World} {ops : Array Oper} {rest : List Oper} {o : Oper} {a : Act} {Q : Exit → Act → World → Prop}
    (hg : o.guard = none) (m x v : Operand) (t : TypeId) (hop : o.op = Op.mapUpdate t m x v) (ht : Tryz.prog.underlying t = some (.map tStr tStr)) (b n : Nat) (f : ByteArray → Option ByteArray)
    (hm : a.eval m = .map (some b)) (hown : SMap w b n f) (hn : n < maxLen) (s c : ByteArray) (hx : a.eval x = .string s) (hv : a.eval v = .string c) (hs : s.size ≤ maxLen) (hc : c.size ≤ maxLen)
    (hK : ∀ w', SMap w' b (n + 1) (updS f s c) → w.mapTurned w' b → wpList Tryz.prog ops Q rest (a.put o.dst undef) w') :
    wpList Tryz.prog ops Q (o :: rest) a w := by
  refine wpList_plain hg fun K' hK' => ?_
  obtain ⟨w', hrun, r1, r2⟩ := hown.store ht hn s c hs hc
  unfold Oper.wp
  simp [execOp, hop, hm, hx, hv, hrun, Result.andThen]
  exact hK' _ _ (hK w' r1 r2)

theorem wpList_bmap_store {w : World} {ops : Array Oper} {rest : List Oper} {o : Oper} {a : Act} {Q : Exit → Act → World → Prop}
    (hg : o.guard = none) (m x v : Operand) (t : TypeId) (hop : o.op = Op.mapUpdate t m x v) (ht : Tryz.prog.underlying t = some (.map tStr tBool)) (b n : Nat) (f : ByteArray → Bool)
    (hm : a.eval m = .map (some b)) (hown : BMap w b n f) (hn : n < maxLen) (s : ByteArray) (hx : a.eval x = .string s) (hv : a.eval v = .bool true) (hs : s.size ≤ maxLen)
    (hK : ∀ w', BMap w' b (n + 1) (updB f s) → w.mapTurned w' b → wpList Tryz.prog ops Q rest (a.put o.dst undef) w') :
    wpList Tryz.prog ops Q (o :: rest) a w := by
  refine wpList_plain hg fun K' hK' => ?_
  obtain ⟨w', hrun, r1, r2⟩ := hown.store ht hn s hs
  unfold Oper.wp
  simp [execOp, hop, hm, hx, hv, hrun, Result.andThen]
  exact hK' _ _ (hK w' r1 r2)
end Go.Proofs

namespace Go.Proofs
open Go.RowKit Go.Sort
open Classical

/-- A row of strings of the call's own. -/
def StrRow (w : World) (base : Nat) (v : Value) (out : List ByteArray) : Prop := w.ownsRow base 9 1 v out.length (out.map Value.string)

/-- A list of strings, sorted. -/
noncomputable def sortS (l : List ByteArray) : List ByteArray := ((l.map fun s => s.data.toList).mergeSort fun x y => decide (x ≤ y)).map fun s => ⟨s.toArray⟩

/-- A slice of strings. -/
def StrsVal (w : World) (v : Value) (l : List ByteArray) : Prop :=
  (v = .slice none 0 0 ∧ l = []) ∨ ∃ b cap, v = .slice (some ⟨b, 0, none⟩) l.length cap ∧ b < w.heap.size ∧ ∀ i (s : ByteArray), l[i]? = some s → w.cell? ⟨b, i, none⟩ = some (.string s)

theorem enc_map (l : List ByteArray) : (l.map fun s => s.data.toList).map encStr = l.map Value.string := by
  rw [List.map_map]
  refine List.map_congr_left fun s _ => ?_
  show Value.string ⟨s.data.toList.toArray⟩ = _
  rfl
theorem enc_sortS (l : List ByteArray) : ((l.map fun s => s.data.toList).mergeSort fun x y => decide (x ≤ y)).map encStr = (sortS l).map Value.string := by
  unfold sortS
  rw [List.map_map]
  rfl

theorem strs_of_row {w : World} {base e : Nat} {v : Value} {l : List ByteArray} (h : w.ownsRow base e 1 v l.length (l.map Value.string)) : StrsVal w v l := by
  have h0 := h
  obtain ⟨_, h⟩ := h
  rcases h with ⟨rfl, h⟩ | ⟨g, cap, cur, rfl, _, hg, _⟩
  · exact .inl ⟨rfl, List.length_eq_zero_iff.1 h⟩
  · refine .inr ⟨g, cap, rfl, (Array.getElem?_eq_some_iff.1 hg).1, fun i s hs => ?_⟩
    have hi : i < l.length := (List.getElem?_eq_some_iff.1 hs).1
    rw [World.ownsRow.cellAt h0 i (by omega), List.getElem?_map, hs]
    rfl

theorem sort_own (base : Nat) (v : Value) (out : List ByteArray) (w : World) (h : StrRow w base v out) (hlen : out.length ≤ 100000) :
    Calls Tryz.prog 21 #[v] w fun e w' => e = .returned (.tuple #[]) ∧ StrsVal w' v (sortS out) ∧ Below base w w' := by
  rcases h.2 with ⟨rfl, hn⟩ | ⟨g, cap, cur, rfl, hbase, hb, h1, h2, h3, h4⟩
  · have hnil : out = [] := List.length_eq_zero_iff.1 hn
    subst hnil
    have ps := Tryz.slices_Sort_string_none none 0 w
    go_enter Tryz.func21, Tryz.ntmps21
    go_wp2_with fail
    refine ps.mono ?_
    rintro e w' ⟨rfl, rfl⟩
    go_wp2
    go_end0
    exact ⟨rfl, .inl ⟨rfl, by simp [sortS]⟩, Below.refl _ _⟩
  · have hl : (out.map fun s => s.data.toList).length = out.length := List.length_map ..
    have hb' := holds_of_block (ss := out.map fun s => s.data.toList) hb (by rw [hl, enc_map]; simpa using h4)
    have ps := Tryz.slices_Sort_string g 0 cap (out.map fun s => s.data.toList) w hb' ((Array.getElem?_eq_some_iff.1 hb).1) (by rw [hl]; omega)
    rw [hl] at ps
    have fin : ∀ n os, StrsVal (grow (putRow encStr (Sort.ahead w n) g 0 ((out.map fun s => s.data.toList).mergeSort fun x y => decide (x ≤ y)).toArray) os) (.slice (some ⟨g, 0, none⟩) out.length cap) (sortS out) ∧
        Below base w (grow (putRow encStr (Sort.ahead w n) g 0 ((out.map fun s => s.data.toList).mergeSort fun x y => decide (x ≤ y)).toArray) os) := by
      intro n os
      have hr := ownsRow_sorted (w := w) (n := n) (os := os) (ss := out.map fun s => s.data.toList) (ts := (out.map fun s => s.data.toList).mergeSort fun x y => decide (x ≤ y)) (by rw [List.length_mergeSort]) hbase hb (by rw [hl]; exact h1) h2 h3
      rw [enc_sortS, hl] at hr
      have hsl : (sortS out).length = out.length := by
        unfold sortS
        rw [List.length_map, List.length_mergeSort, hl]
      refine ⟨?_, ?_⟩
      · have := strs_of_row (l := sortS out) (by rw [hsl]; exact hr)
        exact this
      · have hg := grownBy_sorted (w := w) (g := g) (n := n) (os := os) (((out.map fun s => s.data.toList).mergeSort fun x y => decide (x ≤ y)).toArray)
        have hglt := (Array.getElem?_eq_some_iff.1 hb).1
        exact ⟨hg.os, hg.tape, hg.output, hg.size, fun k hk => hg.block k (by omega) (fun e => by cases e; omega)⟩
    go_enter Tryz.func21, Tryz.ntmps21
    go_wp2_with fail
    refine ps.mono ?_
    rintro e w' ⟨rfl, n, os, rfl⟩
    go_wp2
    go_end0
    exact ⟨rfl, (fin n os).1, (fin n os).2⟩
end Go.Proofs

namespace Go.Proofs
open Go.RowKit Go.Maps Go.MapKept
open Classical

theorem infoStr : (Tryz.prog.info? 9).map (fun i => (i.zero, i.size, i.bytes)) = some (some (.string .empty), 1, 16) := by kernel_rfl

theorem new_cell (w : World) (x : Value) (t : TypeId) : ∀ j u, [x][j]? = some u → (w.alloc (.cells #[x] t)).cell? ((⟨w.heap.size, 0, none⟩ : Addr).add j) = some u := by
  intro j u h
  match j, h with
  | 0, h =>
    cases h
    have := (MapKept.heap_alloc w (.cells #[x] t)).1
    show (w.alloc (.cells #[x] t)).cell? ⟨w.heap.size, 0, none⟩ = some x
    simp only [World.cell?, this]
    rfl
theorem one_string (s : ByteArray) : ∀ u ∈ [Value.string s], u.oneCell' = true := by
  intro u hu
  simp only [List.mem_singleton] at hu
  subst hu
  rfl

end Go.Proofs
