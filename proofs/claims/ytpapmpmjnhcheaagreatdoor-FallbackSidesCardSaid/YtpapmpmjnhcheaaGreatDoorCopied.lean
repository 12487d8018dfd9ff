/-
  The walk of the function that copies a map entry by entry.
-/
import Derived.Test.YtpapmpmjnhcheaaGreatDoorProg
import Derived.Test.YtpapmpmjnhcheaaGreatDoorEvW
import Derived.WalkKit
import Derived.Maps.Ext
import Derived.Maps.RangeWalk
import Derived.Maps.Own
set_option linter.all false

namespace Go.Ev
open Go.Proofs Go.RowKit Go.Maps

theorem key3 : Keyed Tryz.prog 3 := int_keyed Tryz.underlying3

/-- A store into the block that was made last. -/
theorem store_last {P : Program} {w : World} {n i : Nat} {cs : Array Value} {t : TypeId} {v : Value} (hn : n = w.heap.size) (hi : i < cs.size) (h1 : v.oneCell' = true) :
    Sem.run P (store ⟨n, i, none⟩ v) (w.alloc (.cells cs t)) = .ok () (w.alloc (.cells (cs.set i v hi) t)) := by
  subst hn
  rw [run_store _ _ _ _ _ h1]
  have hb : (w.alloc (.cells cs t)).heap[w.heap.size]? = some (.cells cs t) := Array.getElem?_push_size
  have hc : (w.alloc (.cells cs t)).cell? ⟨w.heap.size, i, none⟩ = some cs[i] := by simp only [World.cell?, hb]; simp [hi]
  have hf : (w.alloc (.cells cs t)).frozen? ⟨w.heap.size, i, none⟩ = false := by simp only [World.frozen?, hb]; simp
  rw [hc, hf]
  have e : (w.alloc (.cells cs t)).setCell ⟨w.heap.size, i, none⟩ v = w.alloc (.cells (cs.set i v hi) t) := by
    simp only [World.setCell]
    have hh : ∀ (f : Obj → Obj), (w.heap.push (.cells cs t)).modify w.heap.size f = w.heap.push (f (.cells cs t)) := by
      intro f
      apply Array.ext_getElem?
      intro j
      simp only [Array.getElem?_modify, Array.getElem?_push]
      by_cases hj : j = w.heap.size
      · subst hj
        simp
      · rw [if_neg hj, if_neg (fun h => hj h.symm), if_neg hj]
    show ({ w with heap := (w.heap.push (.cells cs t)).modify w.heap.size _ } : World) = { w with heap := w.heap.push _ }
    rw [hh]
    simp [Array.setIfInBounds, hi]
  rw [e]
  simp

theorem store_five {P : Program} {w : World} {n : Nat} {z0 z1 z2 z3 z4 c0 c1 c2 c3 c4 : Value} {t : TypeId} (hn : n = w.heap.size) (o0 : c0.oneCell' = true) (o1 : c1.oneCell' = true) (o2 : c2.oneCell' = true)
    (o3 : c3.oneCell' = true) (o4 : c4.oneCell' = true) :
    ((Sem.run P (store ⟨n, 0, none⟩ c0) (w.alloc (.cells #[z0, z1, z2, z3, z4] t))).andThen fun _ w' => (Sem.run P (store ⟨n, 1, none⟩ c1) w').andThen fun _ w' =>
      (Sem.run P (store ⟨n, 2, none⟩ c2) w').andThen fun _ w' => (Sem.run P (store ⟨n, 3, none⟩ c3) w').andThen fun _ w' => Sem.run P (store ⟨n, 4, none⟩ c4) w') =
    .ok () (w.alloc (.cells #[c0, c1, c2, c3, c4] t)) := by
  have e0 : Sem.run P (store ⟨n, 0, none⟩ c0) (w.alloc (.cells #[z0, z1, z2, z3, z4] t)) = .ok () (w.alloc (.cells #[c0, z1, z2, z3, z4] t)) := store_last hn (by simp) o0
  have e1 : Sem.run P (store ⟨n, 1, none⟩ c1) (w.alloc (.cells #[c0, z1, z2, z3, z4] t)) = .ok () (w.alloc (.cells #[c0, c1, z2, z3, z4] t)) := store_last hn (by simp) o1
  have e2 : Sem.run P (store ⟨n, 2, none⟩ c2) (w.alloc (.cells #[c0, c1, z2, z3, z4] t)) = .ok () (w.alloc (.cells #[c0, c1, c2, z3, z4] t)) := store_last hn (by simp) o2
  have e3 : Sem.run P (store ⟨n, 3, none⟩ c3) (w.alloc (.cells #[c0, c1, c2, z3, z4] t)) = .ok () (w.alloc (.cells #[c0, c1, c2, c3, z4] t)) := store_last hn (by simp) o3
  have e4 : Sem.run P (store ⟨n, 4, none⟩ c4) (w.alloc (.cells #[c0, c1, c2, c3, z4] t)) = .ok () (w.alloc (.cells #[c0, c1, c2, c3, c4] t)) := store_last hn (by simp) o4
  rw [e0]
  simp only [Result.andThen]
  rw [e1]
  simp only
  rw [e2]
  simp only
  rw [e3]
  simp only
  rw [e4]

set_option maxRecDepth 100000 in
set_option maxHeartbeats 2000000 in
theorem copied_has : CopiedHas Tryz.prog 43 3 5 := by
  intro b n D0 w hown hmax
  have hmm := @run_makeMap Tryz.prog
  have hbl := hown.lt
  have e1 : (w.alloc (.map #[] 0)).heap.size = w.heap.size + 1 := by simp
  go_enter Tryz.func43, Tryz.ntmps43
  go_wp2_with (first
    | (at_range; refine wpList_range_own _ rfl _ 102 rfl 3 172 key3 Tryz.underlying102 _ b n _ rfl (hown.alloc _) ?_; intro w0 hrg0 hg0 hs0)
    | go_in)
  go_frame
  rw [e1] at hrg0 hs0 ⊢
  go_loopw [4] (fun _ wr => ∃ (left : Lit → Bool) (cnt : Nat) (Dout : DataW Value), wr.ranges Tryz.prog 3 (asHeld 5) b (w.heap.size + 1) n D0 left cnt ∧ cnt ≤ Maps.size D0 ∧
      wr.ownsMap Tryz.prog 3 (asHeld 5) w.heap.size (Maps.size D0 - cnt) Dout ∧ Go.Maps.Agree Dout D0 left ∧ Below w.heap.size w wr)
    (fun _ wr => wr.rangeLeft b (w.heap.size + 1))
  case atStart =>
    exact ⟨_, _, .map [], hrg0, Nat.le_refl _, ((World.ownsMap_made _ _ _ _).kept hg0 (by simp)).mono (Nat.zero_le _), agree_start D0, ((Below.refl _ _).alloc (Nat.le_refl _) _).grown hg0 (by simp) (fun j hj => by cases hj)⟩
  case round =>
    obtain ⟨left, cnt, Dout, hrg, hcs, hout, hA, hnx⟩ := hrel
    go_wp2_with (first
      | (at_next; refine wpList_next_ranges _ rfl _ rfl 3 key3 (asHeld 5) (fun x : Value => x) (fun cs : Array Value => .agg cs) (fun key kl _ => ⟨key, rfl⟩) (fun v y hv => by obtain ⟨cs, e, _⟩ := asHeld_inv hv; exact ⟨cs, e⟩) b (w.heap.size + 1) n _ _ _ rfl hrg ?_ ?_)
      | go_in)
    · intro hc0 hl0
      go_wp2
      go_ret
      subst hc0
      have e := agree_end hA hl0 (hout.canon key3) (hown.canon key3)
      subst e
      exact ⟨rfl, by simpa using hout, hnx⟩
    · intro x cs kl y yp w1 cnt1 hkey hlk hRv hat hrg1 hlt hg1 hs1 hen
      have hout1 := hout.kept hg1 (by simp)
      obtain ⟨cs', ecs, hcsz, h1c, ey⟩ := asHeld_inv hRv
      cases ecs
      obtain ⟨c0, c1, c2, c3, c4, rfl⟩ : ∃ c0 c1 c2 c3 c4, cs = #[c0, c1, c2, c3, c4] := by
        rcases cs with ⟨l⟩
        match l, hcsz with
        | [c0, c1, c2, c3, c4], _ => exact ⟨_, _, _, _, _, rfl⟩
      obtain ⟨kx, rfl, rfl, hkw⟩ := Maps.keyOf_int_inv Tryz.underlying3 hkey
      have o0 : c0.oneCell' = true := h1c _ (by simp)
      have o1 : c1.oneCell' = true := h1c _ (by simp)
      have o2 : c2.oneCell' = true := h1c _ (by simp)
      have o3 : c3.oneCell' = true := h1c _ (by simp)
      have o4 : c4.oneCell' = true := h1c _ (by simp)
      go_wp2
      rw [store_five hs1.symm o0 o1 o2 o3 o4]
      have hA1 := World.grownBy_alloc w1 (.cells #[c0, c1, c2, c3, c4] 172) none
      have hout2 := hout1.kept hA1 (by simp)
      have hrg2 := hrg1.kept hA1 (by simp) (by simp)
      go_wp2_with (first
        | (at_mapUpdate; refine wpList_mapUpdate_own _ rfl _ _ _ 102 rfl 3 172 key3 Tryz.underlying102 _ w.heap.size _ _ rfl hout2 (by omega) _ _ _ rfl rfl hkey _ _ hRv ?_; intro w2 hout3 hg2; go_frame)
        | go_in)
      have hrg3 := hrg2.kept hg2 (fun e => by have := Option.some.inj e; omega) (fun e => by have := Option.some.inj e; omega)
      have hbw := (hnx.grown hg1 (by have := hnx.size; omega) (fun j hj => by cases hj; exact Nat.le_succ _)).alloc (by have := hnx.size; omega) (.cells #[c0, c1, c2, c3, c4] 172)
      go_roundw
      case rel =>
        exact ⟨_, cnt1, _, hrg3, by omega, hout3.mono (by omega), agree_step hA hout.isMap trivial hat,
          hbw.grown hg2 (by have := hbw.size; omega) (fun j hj => by cases hj; exact Nat.le_refl _)⟩
      case measure => rw [hrg3.left_eq, hrg.left_eq]; exact hlt
end Go.Ev
