/-
  The iterator over the changed files.
-/
import Derived.Test.YtjhmlmiegkjncaaGreatDoorVA
import Derived.RangeFuncNested
import Derived.RangeFuncBound
import Derived.RangeFuncCalls
import Derived.RangeFuncLeaves
import Derived.Shelf.Abstract
import Derived.Shelf.RegionOpen
import Derived.OwnWalkIn
import Derived.TacticsInMore
import Derived.LoopNIn
import Derived.LoopIn
set_option linter.all false

namespace Go.Proofs
open Go.RowKit Go.Shelf Go.Maps
open Classical
attribute [local go_sem] Oper.semAt_some

theorem toList_ne {x y : ByteArray} (h : x ≠ y) : (x.toList == y.toList) = false := by
  rw [ByteArray.toList_eq, ByteArray.toList_eq]
  simpa using fun e => h (ByteArray.ext (Array.ext' e))

abbrev Diff := ByteArray × ByteArray × ByteArray
def strD (m : ByteArray → Option ByteArray) (p : ByteArray) : ByteArray := (m p).getD .empty
/-- The files whose texts differ. -/
noncomputable def diffs (fb fa : ByteArray → Option ByteArray) (ps : List ByteArray) : List Diff := (ps.filter fun p => decide (strD fb p ≠ strD fa p)).map fun p => (p, strD fb p, strD fa p)
theorem diffs_take {fb fa : ByteArray → Option ByteArray} {ps : List ByteArray} {k : Nat} {p : ByteArray} (h : ps[k]? = some p) : diffs fb fa (ps.take (k + 1)) = if strD fb p = strD fa p then diffs fb fa (ps.take k) else diffs fb fa (ps.take k) ++ [(p, strD fb p, strD fa p)] := by
  unfold diffs
  rw [List.take_add_one, h, List.filter_append, List.map_append]
  by_cases e : strD fb p = strD fa p <;> simp [e]
theorem diffs_prefix (fb fa : ByteArray → Option ByteArray) (ps : List ByteArray) (k : Nat) : diffs fb fa (ps.take k) <+: diffs fb fa ps := by
  unfold diffs
  exact ((List.take_prefix k ps).filter _).map _
theorem diffs_le (fb fa : ByteArray → Option ByteArray) (ps : List ByteArray) (k : Nat) : (diffs fb fa (ps.take k)).length ≤ (diffs fb fa ps).length := (diffs_prefix fb fa ps k).length_le
def diffV (x : Diff) : Value := .agg #[.string x.1, .string x.2.1, .string x.2.2]

/-- The blocks from lo to hi lie as they lay. -/
structure KeepR (lo hi : Nat) (W W' : World) : Prop where
  size : W.heap.size ≤ W'.heap.size
  same : ∀ k, lo ≤ k → k < hi → W'.heap[k]? = W.heap[k]?
theorem KeepR.refl (lo hi : Nat) (W : World) : KeepR lo hi W W := ⟨Nat.le_refl _, fun _ _ _ => rfl⟩
theorem KeepR.trans {lo hi : Nat} {A B C : World} (h : KeepR lo hi A B) (k : KeepR lo hi B C) : KeepR lo hi A C := ⟨Nat.le_trans h.size k.size, fun i h1 h2 => (k.same i h1 h2).trans (h.same i h1 h2)⟩
theorem KeepR.of_below {lo hi N : Nat} {A B : World} (h : Below N A B) (hN : hi ≤ N) : KeepR lo hi A B := ⟨h.size, fun k _ hk => h.block k (by omega)⟩
theorem KeepR.cell {lo hi : Nat} {A B : World} (h : KeepR lo hi A B) {b o : Nat} (h1 : lo ≤ b) (h2 : b < hi) : B.cell? ⟨b, o, none⟩ = A.cell? ⟨b, o, none⟩ := by simp only [World.cell?, h.same b h1 h2]

/-- What the iterator has captured. -/
structure ItAt (lo n₀ : Nat) (W : World) (Bp Bb Ba : Nat) (fb fa : ByteArray → Option ByteArray) (ps : List ByteArray) : Prop where
  p : ∃ v, Boxed W Bp 26 v ∧ StrsVal W v ps ∧ (∀ b cap, v = .slice (some ⟨b, 0, none⟩) ps.length cap → lo ≤ b ∧ b < n₀)
  b : ∃ mb nb, Boxed W Bb 59 (.map (some mb)) ∧ SMap W mb nb fb ∧ lo ≤ mb ∧ mb < n₀
  a : ∃ ma na, Boxed W Ba 59 (.map (some ma)) ∧ SMap W ma na fa ∧ lo ≤ ma ∧ ma < n₀
  lp : lo ≤ Bp ∧ Bp < n₀
  lb : lo ≤ Bb ∧ Bb < n₀
  la : lo ≤ Ba ∧ Ba < n₀
  sz : ∀ p ∈ ps, p.size ≤ maxLen

theorem ItAt.below {lo n₀ : Nat} {A B : World} (h : KeepR lo n₀ A B) {Bp Bb Ba : Nat} {fb fa : ByteArray → Option ByteArray} {ps : List ByteArray} (k : ItAt lo n₀ A Bp Bb Ba fb fa ps) : ItAt lo n₀ B Bp Bb Ba fb fa ps := by
  obtain ⟨⟨v, h1, h2, h3⟩, ⟨mb, nb, h4, h5, h6⟩, ⟨ma, na, h7, h8, h9⟩, l1, l2, l3, sz⟩ := k
  refine ⟨⟨v, (h.same _ l1.1 l1.2).trans h1, ?_, h3⟩, ⟨mb, nb, (h.same _ l2.1 l2.2).trans h4, h5.block (h.same _ h6.1 h6.2), h6⟩, ⟨ma, na, (h.same _ l3.1 l3.2).trans h7, h8.block (h.same _ h9.1 h9.2), h9⟩, l1, l2, l3, sz⟩
  rcases h2 with h2 | ⟨b, cap, rfl, hb, hc⟩
  · exact .inl h2
  · exact .inr ⟨b, cap, rfl, Nat.lt_of_lt_of_le hb h.size, fun i s hs => (h.cell (h3 b cap rfl).1 (h3 b cap rfl).2).trans (hc i s hs)⟩

set_option maxRecDepth 100000 in
set_option maxHeartbeats 4000000 in
theorem changed1_in (F : Fence) (n : Nat) (hf : F.fn 22) (hro : F.round = none) (hn : 1 ≤ n) (l Bp Bb Ba lo n₀ : Nat) (fb fa : ByteArray → Option ByteArray) (ps : List ByteArray) (hlen : ps.length ≤ 100000) (J Jx : List Diff → World → Prop)
    (hY : ∀ pre x W, J pre W → pre.length < (diffs fb fa ps).length → x ∈ diffs fb fa ps → YieldAt F (n - 1) Tryz.prog l #[diffV x] W fun e W' =>
      (e = .returned (.bool true) ∧ J (pre ++ [x]) W' ∧ KeepR lo n₀ W W') ∨ (e = .returned (.bool false) ∧ Jx (pre ++ [x]) W'))
    (W : World) (hI : ItAt lo n₀ W Bp Bb Ba fb fa ps) (h0 : J [] W) :
    CallsIn F n Tryz.prog 22 #[.func (.yield l) #[] #[], .pointer (some ⟨Bp, 0, none⟩), .pointer (some ⟨Bb, 0, none⟩), .pointer (some ⟨Ba, 0, none⟩)] W fun e W' => (∃ v, e = .returned v) ∧
      ((∃ ys, ys = diffs fb fa ps ∧ J ys W') ∨ (∃ pre, pre <+: diffs fb fa ps ∧ Jx pre W')) := by
  obtain ⟨v, hp1, hp2, hp3⟩ := hI.p
  have cp := hp1.cell
  obtain ⟨sp, sc, hsv⟩ : ∃ sp sc, v = .slice sp ps.length sc := by
    rcases hp2 with ⟨rfl, rfl⟩ | ⟨b, cap, rfl, _⟩
    · exact ⟨_, _, rfl⟩
    · exact ⟨_, _, rfl⟩
  subst hsv
  refine callsIn_of_wp Tryz.func22 rfl hf ?_ hro
  simp only [Tryz.ntmps22, List.size_toArray, List.length_cons, List.length_nil, Nat.reduceAdd, Nat.reduceSub, Array.replicate_succ, Array.replicate_zero, List.push_toArray, List.append_toArray, List.nil_append, List.cons_append]
  gi_wp2
  gi_loopw [9] (fun i wr => ∃ k : Nat, k ≤ ps.length ∧ i = .int .i64 k ∧ J (diffs fb fa (ps.take k)) wr ∧ KeepR lo n₀ W wr) (fun i _ => ps.length - (intOf i).toNat)
  case atStart => exact ⟨0, Nat.zero_le _, rfl, h0, KeepR.refl _ _ _⟩
  case round =>
    obtain ⟨k, hk, rfl, hJs, hnx⟩ := hrel
    have hI2 := hI.below hnx
    obtain ⟨v', hp1', hp2', _⟩ := hI2.p
    obtain ⟨mb, nb, hb1, hb2, _⟩ := hI2.b
    obtain ⟨ma, na, ha1, ha2, _⟩ := hI2.a
    have hvv : v' = .slice sp ps.length sc := by
      have h1 := hp1'.cell
      rw [(hnx.cell hI.lp.1 hI.lp.2).trans cp] at h1
      exact (Option.some.inj h1).symm
    subst hvv
    have cb := hb1.cell
    have ca := ha1.cell
    by_cases hlt : k < ps.length
    · obtain ⟨p, hp⟩ : ∃ p, ps[k]? = some p := ⟨ps[k], List.getElem?_eq_getElem hlt⟩
      obtain ⟨bs, rfl, hcx⟩ : ∃ bs, sp = some ⟨bs, 0, none⟩ ∧ wr.cell? ⟨bs, k, none⟩ = some (.string p) := by
        rcases hp2' with ⟨_, hnil⟩ | ⟨b, cap, e, hb, hc⟩
        · subst hnil; simp at hlt
        · cases e; exact ⟨b, rfl, hc k p hp⟩
      have hps := hI.sz p (List.mem_of_getElem? hp)
      have hlb := hb2.look (t := 59) Tryz.underlying59 p hps
      have hla := ha2.look (t := 59) Tryz.underlying59 p hps
      have hdt := Lib.hid (diffs_take (fb := fb) (fa := fa) hp)
      change (Instr.lookup 59 (.map (some mb)) (.string p) false).run Tryz.prog wr = .ok (.string (strD fb p)) wr at hlb
      change (Instr.lookup 59 (.map (some ma)) (.string p) false).run Tryz.prog wr = .ok (.string (strD fa p)) wr at hla
      have HP := Lib.hid hp
      clear hp
      by_cases he : strD fb p = strD fa p
      · have HE := Lib.hid he
        rw [he] at hlb
        generalize strD fa p = x at *
        gi_wp2
        refine ⟨fun _ h => (by cases h), ?_⟩
        gi_wp2
        go_roundw
        case rel => exact ⟨k + 1, by omega, by simp, by rw [hdt.out, if_pos HE.out]; exact hJs, hnx⟩
        case measure => simp [intOf]; omega
      · have hpl : (diffs fb fa (ps.take k)).length < (diffs fb fa ps).length := by
          have h1 := diffs_le fb fa ps (k + 1)
          rw [hdt.out, if_neg he, List.length_append] at h1
          simp at h1
          omega
        have hmem : (p, strD fb p, strD fa p) ∈ diffs fb fa ps := by
          have := (diffs_prefix fb fa ps (k + 1)).subset
          rw [hdt.out, if_neg he] at this
          exact this (by simp)
        obtain ⟨fn, tmps, assign, body, hy, hR⟩ := hY _ (p, strD fb p, strD fa p) wr hJs hpl hmem
        clear hmem
        dsimp only [diffV] at hy
        have HE := Lib.hid he
        have hbe : ((strD fb p).toList == (strD fa p).toList) = false := toList_ne he
        generalize strD fb p = x at *
        generalize strD fa p = y at *
        gi_wp2
        refine hR.mono ?_
        rintro e W3 (⟨rfl, hJ3, hk3⟩ | ⟨rfl, hJx3⟩)
        · gi_wp2
          go_roundw
          case rel => exact ⟨k + 1, by omega, by simp, by rw [hdt.out, if_neg HE.out]; exact hJ3, hnx.trans hk3⟩
          case measure => simp [intOf]; omega
        · gi_wp2
          refine bodyPost_ret (results_none rfl _ _ _) rfl ?_
          refine ⟨⟨_, rfl⟩, .inr ⟨_, ?_, hJx3⟩⟩
          have := diffs_prefix fb fa ps (k + 1)
          rw [hdt.out, if_neg HE.out] at this
          exact this
    · obtain rfl : k = ps.length := by omega
      rw [List.take_length] at hJs
      gi_wp2
      go_end0
      exact ⟨⟨_, rfl⟩, .inl ⟨_, rfl, hJs⟩⟩

theorem changed1_stops (F : Fence) (n : Nat) (hf : F.fn 22) (hro : F.round = none) (hn : 1 ≤ n) (Bp Bb Ba lo n₀ : Nat) (fb fa : ByteArray → Option ByteArray) (ps : List ByteArray) (hlen : ps.length ≤ 100000) (ds : List Diff) (hds : diffs fb fa ps = ds) (w : World) (hI : ItAt lo n₀ w Bp Bb Ba fb fa ps) (hn₀ : n₀ ≤ w.heap.size) :
    SeqStopsK F n Tryz.prog 22 #[.pointer (some ⟨Bp, 0, none⟩), .pointer (some ⟨Bb, 0, none⟩), .pointer (some ⟨Ba, 0, none⟩)] (fun x : { x : Diff // x ∈ ds } => #[diffV x.1]) (KeepR lo n₀) (fun ys => ys.map (·.1) = ds) (fun pre => pre.map (·.1) <+: ds) ds.length w := by
  intro l J Jx W hW _ _ hY h0
  subst hds
  refine (changed1_in F n hf hro hn l Bp Bb Ba lo n₀ fb fa ps hlen (fun pre W => ∃ p' : List { x : Diff // x ∈ diffs fb fa ps }, p'.map (·.1) = pre ∧ J p' W) (fun pre W => ∃ p' : List { x : Diff // x ∈ diffs fb fa ps }, p'.map (·.1) = pre ∧ Jx p' W) ?_ W (hI.below (KeepR.of_below hW hn₀)) ⟨[], rfl, h0⟩).mono ?_
  · rintro pre x W1 ⟨p', rfl, hj⟩ hlt hx
    refine (hY p' ⟨x, hx⟩ W1 hj (by simpa using hlt)).mono ?_
    rintro e W' (⟨rfl, h1, h2⟩ | ⟨rfl, h1⟩)
    · exact .inl ⟨rfl, ⟨_, by simp, h1⟩, h2⟩
    · exact .inr ⟨rfl, _, by simp, h1⟩
  · rintro e W' ⟨he, ⟨ys, rfl, p', hp, hj⟩ | ⟨pre, hpre, p', rfl, hj⟩⟩
    · exact ⟨he, .inl ⟨p', hp, hj⟩⟩
    · exact ⟨he, .inr ⟨p', hpre, hj⟩⟩

theorem mem_sortS {l : List ByteArray} {p : ByteArray} (h : p ∈ sortS l) : p ∈ l := by
  unfold sortS at h
  obtain ⟨s, hs, rfl⟩ := List.mem_map.1 h
  have hs := (List.mergeSort_perm (l.map fun s => s.data.toList) _).mem_iff.1 hs
  obtain ⟨q, hq, rfl⟩ := List.mem_map.1 hs
  exact hq

/-- What changed leaves, for the iterator. -/
theorem ChangedAt.it {w w' : World} {l0 l1 : List FileT} (h : ChangedAt w w' l0 l1) (k0 : FilesOK l0) (k1 : FilesOK l1) :
    ItAt w.heap.size w'.heap.size w' (w.heap.size + 4) (w.heap.size + 2) (w.heap.size + 3) (textOf l0) (textOf l1) (sortS (l0.map (·.1) ++ fresh (textOf l0) l1)) := by
  obtain ⟨hb, m0, m1, b0, b1, v, bp, hs, hv⟩ := h
  have s0 := m0.lt
  have s1 := m1.lt
  have s2 := b0.lt
  have s3 := b1.lt
  have s4 := bp.lt
  refine ⟨⟨v, bp, hs, fun b cap e => ⟨hv b _ cap e, ?_⟩⟩, ⟨_, _, b0, m0, by omega, by omega⟩, ⟨_, _, b1, m1, by omega, by omega⟩, ⟨by omega, by omega⟩, ⟨by omega, by omega⟩, ⟨by omega, by omega⟩, fun p hp => ?_⟩
  · rcases hs with ⟨e2, _⟩ | ⟨b2, cap2, e2, hb2, _⟩
    · rw [e] at e2; cases e2
    · rw [e] at e2; cases e2; exact hb2
  · have hp := mem_sortS hp
    rcases List.mem_append.1 hp with hp | hp
    · obtain ⟨f, hf, rfl⟩ := List.mem_map.1 hp
      exact le_max (k0.2 f hf).1
    · obtain ⟨f, hf, rfl⟩ := List.mem_map.1 hp
      exact le_max (k1.2 f (List.mem_filter.1 hf).1).1
end Go.Proofs
