/-
  The broken source is refused: from the reader's panic to parse.File's answer. The broken source is refused: what recovers, and parse.File's answer.
-/
import Derived.Test.YtjhmlmiegkjncaaGreatDoorPA
import Derived.WalkKit
import Derived.Below
import Derived.Outline
import Derived.Lib.Hide
import Derived.WalkLawsBesides
import Derived.IntWalk
import Derived.Carry
import Derived.Maps.Views
import Derived.Defers
import Derived.Recover
import Derived.RangeFuncBox
import Derived.RangeFuncLeaves
set_option linter.all false

namespace Go.Proofs
open Go.RowKit Go.Ev
open Classical

def thePanic : List PanicEntry := [{ v := .iface 205 (.int .i64 5), recovered := false }]

theorem field13 (w : World) : (Instr.field 210 (.agg #[.int .i64 4, .string ⟨#[]⟩, .string ⟨#[]⟩, .int .i64 5]) 3).run Tryz.prog w = .ok (.int .i64 5) w := by kernel_rfl
theorem field10 (w : World) : (Instr.field 210 (.agg #[.int .i64 4, .string ⟨#[]⟩, .string ⟨#[]⟩, .int .i64 5]) 0).run Tryz.prog w = .ok (.int .i64 4) w := by kernel_rfl
theorem field00 (w : World) : (Instr.field 210 (.agg #[.int .i64 1, .string ⟨#[]⟩, .string wConst, .int .i64 0]) 0).run Tryz.prog w = .ok (.int .i64 1) w := by kernel_rfl

set_option maxRecDepth 100000 in
set_option maxHeartbeats 1000000 in
theorem fail_calls {w : World} {B D C br : Nat} (ht : Toks w B D) (hC : 2 ≤ C) (hne : B ≠ br) (r0 : w.cell? ⟨br, 0, none⟩ = some (.slice (some ⟨B, D, none⟩) 2 C)) (r1 : w.cell? ⟨br, 1, none⟩ = some (.int .i64 1)) :
    Calls Tryz.prog 138 #[.pointer (some ⟨br, 0, none⟩)] w fun e w' => e = .panicked thePanic ∧ Below w.heap.size w w' := by
  have HN := Lib.hid (next1_calls ht hC hne r0 r1)
  clear ht r0 r1
  go_enter Tryz.func138, Tryz.ntmps138
  go_wp2_with fail
  refine HN.out.mono ?_
  rintro e w1 ⟨rfl, hb⟩
  have HB := Lib.hid hb
  clear hb
  simp only [tok1]
  have hf := field13
  go_wp2
  exact ⟨rfl, rfl, HB.out⟩

/-- The reader, its two tokens. -/
structure Rd (w : World) (B D C br : Nat) (k : Int) : Prop where
  t : Toks w B D
  cap : 2 ≤ C
  ord : B < br
  r0 : w.cell? ⟨br, 0, none⟩ = some (.slice (some ⟨B, D, none⟩) 2 C)
  r1 : w.cell? ⟨br, 1, none⟩ = some (.int .i64 k)
theorem Rd.lt {w : World} {B D C br : Nat} {k : Int} (h : Rd w B D C br k) : br < w.heap.size := by
  obtain ⟨c, t, fz, hb, _⟩ := cell_block h.r0
  exact (Array.getElem?_eq_some_iff.1 hb).1
theorem Rd.below {w w' : World} {B D C br N : Nat} {k : Int} (h : Rd w B D C br k) (hb : Below N w w') (hN : br < N) : Rd w' B D C br k :=
  ⟨h.t.below hb (by have := h.ord; omega), h.cap, h.ord, (hb.cell (p := ⟨br, 0, none⟩) hN).trans h.r0, (hb.cell (p := ⟨br, 1, none⟩) hN).trans h.r1⟩

set_option maxRecDepth 100000 in
set_option maxHeartbeats 1000000 in
theorem name_calls {w : World} {B D C br : Nat} (p : Value) (h : Rd w B D C br 1) :
    Calls Tryz.prog 181 #[.pointer (some ⟨br, 0, none⟩), p] w fun e w' => e = .panicked thePanic ∧ Below w.heap.size w w' := by
  have HR := Lib.hid h
  have HN := Lib.hid (next1_calls h.t h.cap (by have := h.ord; omega) h.r0 h.r1)
  clear h
  go_enter Tryz.func181, Tryz.ntmps181
  go_wp2_with fail
  refine HN.out.mono ?_
  rintro e w1 ⟨rfl, hb⟩
  have HB := Lib.hid hb
  clear hb
  simp only [tok1]
  have hba : Below w1.heap.size w1 (w1.alloc (.cells #[.int .i64 4, .string ⟨#[]⟩, .string ⟨#[]⟩, .int .i64 5] 210)) := (Below.refl _ _).alloc (Nat.le_refl _) _
  have HR2 := Lib.hid ((HR.out.below HB.out HR.out.lt).below hba (Nat.lt_of_lt_of_le HR.out.lt HB.out.size))
  have HB2 := Lib.hid (HB.out.trans (hba.mono HB.out.size))
  clear hba
  go_wp2_with fail
  refine (fail_calls HR2.out.t HR2.out.cap (by have := HR2.out.ord; omega) HR2.out.r0 HR2.out.r1).mono ?_
  rintro e w2 ⟨rfl, hb⟩
  have HB3 := Lib.hid (HB2.out.trans (hb.mono HB2.out.size))
  clear hb
  go_wp2
  exact ⟨rfl, rfl, HB3.out⟩

set_option maxRecDepth 100000 in
set_option maxHeartbeats 1000000 in
theorem named_calls {w : World} {B D C br : Nat} {t : TypeId} (ht : Toks w B D) (hC : 2 ≤ C) (ho : B < br) (hr : w.heap[br]? = some (.cells #[.slice (some ⟨B, D, none⟩) 2 C, .int .i64 0] t (0, 0))) :
    Calls Tryz.prog 137 #[.pointer (some ⟨br, 0, none⟩), .int .i64 9, .string wConst] w fun e w' => e = .panicked thePanic ∧ Below br w w' := by
  have HT := Lib.hid ht
  have HR := Lib.hid hr
  have hlt : br < w.heap.size := (Array.getElem?_eq_some_iff.1 hr).1
  clear ht hr
  go_enter Tryz.func137, Tryz.ntmps137
  go_wp2_with fail
  obtain ⟨W1, hW1⟩ : ∃ W1 : World, W1 = (w.alloc (.cells #[.int .i64 0, .string ⟨#[]⟩, .slice none 0 0, .slice none 0 0] 65)).alloc (.cells #[.int .i64 9, .string ⟨#[]⟩, .slice none 0 0, .slice none 0 0] 65) := ⟨_, rfl⟩
  have hb1 : Below w.heap.size w W1 := by rw [hW1]; exact ((Below.refl _ w).alloc (Nat.le_refl _) _).alloc (by simp) _
  have hn : W1.heap[w.heap.size + 1]? = some (.cells #[.int .i64 9, .string ⟨#[]⟩, .slice none 0 0, .slice none 0 0] 65) := by
    rw [hW1]
    have := (MapKept.heap_alloc (w.alloc (.cells #[.int .i64 0, .string ⟨#[]⟩, .slice none 0 0, .slice none 0 0] 65)) (.cells #[.int .i64 9, .string ⟨#[]⟩, .slice none 0 0, .slice none 0 0] 65)).1
    rwa [World.size_alloc] at this
  rw [← hW1]
  refine (take_calls (t := t) (u := 65) (HT.out.below hb1 (by omega)) hC ho (by omega) ((hb1.block br hlt).trans HR.out) hn).mono ?_
  rintro e w2 ⟨rfl, hb, q0, q1⟩
  have HR2 : Hid (Rd w2 B D C br 1) := Lib.hid ⟨(HT.out.below hb1 (by omega)).below hb ho, hC, ho, q0, q1⟩
  have HB2 := Lib.hid ((hb1.mono (Nat.le_of_lt hlt)).trans hb)
  clear hb hb1 hn hW1 q0 q1
  go_wp2_with fail
  refine (name_calls _ HR2.out).mono ?_
  rintro e w3 ⟨rfl, hb⟩
  have HB3 := Lib.hid (HB2.out.trans (hb.mono (Nat.le_of_lt HR2.out.lt)))
  clear hb
  go_wp2
  exact ⟨rfl, rfl, HB3.out⟩

set_option maxRecDepth 100000 in
set_option maxHeartbeats 2000000 in
theorem rfile_calls {w : World} {B D C br : Nat} {t : TypeId} (ht : Toks w B D) (hC : 2 ≤ C) (ho : B < br) (hr : w.heap[br]? = some (.cells #[.slice (some ⟨B, D, none⟩) 2 C, .int .i64 0] t (0, 0))) :
    Calls Tryz.prog 90 #[.pointer (some ⟨br, 0, none⟩)] w fun e w' => e = .panicked thePanic ∧ Below br w w' := by
  have HT := Lib.hid ht
  have HR := Lib.hid hr
  have hlt : br < w.heap.size := (Array.getElem?_eq_some_iff.1 hr).1
  clear ht hr
  go_enter Tryz.func90, Tryz.ntmps90
  go_wp2_with fail
  obtain ⟨W1, hW1⟩ : ∃ W1 : World, W1 = (w.alloc (.cells #[.int .i64 0, .string ⟨#[]⟩, .slice none 0 0, .slice none 0 0] 65)).alloc (.cells #[.int .i64 1, .string ⟨#[]⟩, .slice none 0 0, .slice none 0 0] 65) := ⟨_, rfl⟩
  have hb1 : Below w.heap.size w W1 := by rw [hW1]; exact ((Below.refl _ w).alloc (Nat.le_refl _) _).alloc (by simp) _
  rw [← hW1]
  have HB1 := Lib.hid hb1
  have rd0 : ∀ {w' : World}, Below w.heap.size w w' → w'.cell? ⟨br, 0, none⟩ = some (.slice (some ⟨B, D, none⟩) 2 C) := fun h => by simp only [World.cell?, (h.block br hlt).trans HR.out]; rfl
  have rd1 : ∀ {w' : World}, Below w.heap.size w w' → w'.cell? ⟨br, 1, none⟩ = some (.int .i64 0) := fun h => by simp only [World.cell?, (h.block br hlt).trans HR.out]; rfl
  clear hb1 hW1
  go_loopw [] (fun w' => w' = W1) (fun _ => 0)
  case atStart => rfl
  case round =>
    rename_i wr hrel
    have hrel : wr = W1 := hrel
    subst hrel
    go_wp2_with fail
    refine (next0_calls (HT.out.below HB1.out (by omega)) hC (by omega) (rd0 HB1.out) (rd1 HB1.out)).mono ?_
    rintro e w2 ⟨rfl, hb⟩
    have HB2 := Lib.hid (HB1.out.trans (hb.mono HB1.out.size))
    clear hb
    simp only [tok0]
    have hf := field00
    go_wp2_with fail
    refine (isFn_calls (HT.out.below HB2.out (by omega)) hC (by omega) (rd0 HB2.out) (rd1 HB2.out)).mono ?_
    rintro e w3 ⟨rfl, hb⟩
    have HB3 := Lib.hid (HB2.out.trans (hb.mono HB2.out.size))
    clear hb
    go_wp2_with fail
    refine (isClass_calls (HT.out.below HB3.out (by omega)) hC (by omega) (rd0 HB3.out) (rd1 HB3.out)).mono ?_
    rintro e w4 ⟨rfl, hb⟩
    have HB4 := Lib.hid (HB3.out.trans (hb.mono HB3.out.size))
    clear hb
    go_wp2_with fail
    refine (isConst_calls (HT.out.below HB4.out (by omega)) hC (by omega) (rd0 HB4.out) (rd1 HB4.out)).mono ?_
    rintro e w5 ⟨rfl, hb⟩
    have HB5 := Lib.hid (HB4.out.trans (hb.mono HB4.out.size))
    clear hb
    go_wp2_with fail
    refine (named_calls (HT.out.below HB5.out (by omega)) hC ho ((HB5.out.block br hlt).trans HR.out)).mono ?_
    rintro e w9 ⟨rfl, hb⟩
    have HB9 := Lib.hid ((HB5.out.mono (Nat.le_of_lt hlt)).trans hb)
    clear hb
    go_wp2
    exact ⟨rfl, rfl, HB9.out⟩
end Go.Proofs

namespace Go.Proofs
open Go.RowKit Go.Ev
open Classical

set_option maxRecDepth 100000 in
set_option maxHeartbeats 1000000 in
theorem file1_calls {w : World} {B D C br : Nat} {t : TypeId} (ht : Toks w B D) (hC : 2 ≤ C) (ho : B < br) (hr : w.heap[br]? = some (.cells #[.slice (some ⟨B, D, none⟩) 2 C, .int .i64 0] t (0, 0))) :
    Calls Tryz.prog 89 #[.pointer (some ⟨br, 0, none⟩)] w fun e w' => e = .panicked thePanic ∧ Below br w w' := by
  have HT := Lib.hid ht
  have HR := Lib.hid hr
  have hlt : br < w.heap.size := (Array.getElem?_eq_some_iff.1 hr).1
  clear ht hr
  go_enter Tryz.func89, Tryz.ntmps89
  go_wp2_with fail
  have hb1 : Below w.heap.size w (w.alloc (.cells #[.int .i64 0, .string ⟨#[]⟩, .slice none 0 0, .slice none 0 0] 65)) := (Below.refl _ w).alloc (Nat.le_refl _) _
  refine (rfile_calls (HT.out.below hb1 (by omega)) hC ho ((hb1.block br hlt).trans HR.out)).mono ?_
  rintro e w2 ⟨rfl, hb⟩
  have HB := Lib.hid ((hb1.mono (Nat.le_of_lt hlt)).trans hb)
  clear hb hb1
  go_wp2
  exact ⟨rfl, rfl, HB.out⟩

abbrev zNode : Array Value := #[.int .i64 0, .string ⟨#[]⟩, .slice none 0 0, .slice none 0 0]

theorem set_block {W : World} {b o : Nat} {c : Array Value} {t : TypeId} {fz : Nat × Nat} (v : Value) (h : W.heap[b]? = some (.cells c t fz)) : (W.setCell ⟨b, o, none⟩ v).heap[b]? = some (.cells (c.setIfInBounds o v) t fz) := by
  obtain ⟨hlt, hk⟩ := Array.getElem?_eq_some_iff.1 h
  show (W.heap.modify b _)[b]? = _
  rw [Array.getElem?_eq_getElem (by rw [Array.size_modify]; exact hlt), Array.getElem_modify_self, hk]
  rfl
theorem set_other {W : World} {b o k : Nat} (v : Value) (h : k ≠ b) : (W.setCell ⟨b, o, none⟩ v).heap[k]? = W.heap[k]? := Below.heap_setCell _ _ _ k h

theorem assert_fault (w : World) : (Instr.typeAssert (.iface 205 (.int .i64 5)) 20 205 true).run Tryz.prog w = .ok (.tuple #[.int .i64 5, .bool true]) w := by kernel_rfl
theorem fault_some (w : World) : (binOp .neq 20 (.iface 205 (.int .i64 5)) .nilIface).run Tryz.prog w = .ok (.bool true) w := by kernel_rfl

set_option maxRecDepth 100000 in
set_option maxHeartbeats 1000000 in
theorem catch_calls {w : World} {bn be ba : Nat} {x y : Int} (h1 : bn < be) (h2 : be < ba) (hn : w.heap[bn]? = some (.cells zNode 65 (0, 0))) (he : Boxed w be 36 (.int .i64 x)) (ha : Boxed w ba 3 (.int .i64 y)) :
    CallsD Tryz.prog 131 #[.pointer (some ⟨bn, 0, none⟩), .pointer (some ⟨be, 0, none⟩), .pointer (some ⟨ba, 0, none⟩)] (.panicking thePanic) w fun e u' w' =>
      e = .returned (.tuple #[]) ∧ u' = .panicking [{ v := .iface 205 (.int .i64 5), recovered := true }] ∧ w'.heap[bn]? = some (.cells zNode 65 (0, 0)) ∧ Boxed w' be 36 (.int .i64 1) ∧ Boxed w' ba 3 (.int .i64 5) ∧ Below bn w w' := by
  have ce := he.cell
  have fe := he.frozen
  have ca := ha.cell
  have fa := ha.frozen
  refine callsD_of_wpS Tryz.func131 rfl fun c₀ cs hu => ?_
  apply wpS_seq
  apply wpS_region
  simp [wpOpsS, go_sem, recoverD, hu, Tryz.ntmps131, Exit.thenS, thePanic]
  refine wpS_of_wp ?_
  have n0 : w.cell? ⟨bn, 0, none⟩ = some (.int .i64 0) := by simp only [World.cell?, hn]; rfl
  have n1 : w.cell? ⟨bn, 1, none⟩ = some (.string ⟨#[]⟩) := by simp only [World.cell?, hn]; rfl
  have n2 : w.cell? ⟨bn, 2, none⟩ = some (.slice none 0 0) := by simp only [World.cell?, hn]; rfl
  have n3 : w.cell? ⟨bn, 3, none⟩ = some (.slice none 0 0) := by simp only [World.cell?, hn]; rfl
  have z0 : w.frozen? ⟨bn, 0, none⟩ = false := by simp [World.frozen?, hn]
  have z1 : w.frozen? ⟨bn, 1, none⟩ = false := by simp [World.frozen?, hn]
  have z2 : w.frozen? ⟨bn, 2, none⟩ = false := by simp [World.frozen?, hn]
  have z3 : w.frozen? ⟨bn, 3, none⟩ = false := by simp [World.frozen?, hn]
  have key : ∀ w' : World, w' = (((((w.setCell ⟨bn, 0, none⟩ (.int .i64 0)).setCell ⟨bn, 1, none⟩ (.string ⟨#[]⟩)).setCell ⟨bn, 2, none⟩ (.slice none 0 0)).setCell ⟨bn, 3, none⟩ (.slice none 0 0)).setCell ⟨be, 0, none⟩ (.int .i64 1)).setCell ⟨ba, 0, none⟩ (.int .i64 5) →
      w'.heap[bn]? = some (.cells zNode 65 (0, 0)) ∧ Boxed w' be 36 (.int .i64 1) ∧ Boxed w' ba 3 (.int .i64 5) ∧ Below bn w w' := by
    rintro w' rfl
    refine ⟨?_, ?_, ?_, ?_⟩
    · rw [set_other _ (by omega), set_other _ (by omega)]
      exact set_block _ (set_block _ (set_block _ (set_block _ hn)))
    · have hb : Boxed ((((w.setCell ⟨bn, 0, none⟩ (.int .i64 0)).setCell ⟨bn, 1, none⟩ (.string ⟨#[]⟩)).setCell ⟨bn, 2, none⟩ (.slice none 0 0)).setCell ⟨bn, 3, none⟩ (.slice none 0 0)) be 36 (.int .i64 x) := by
        unfold Boxed
        rw [set_other _ (by omega), set_other _ (by omega), set_other _ (by omega), set_other _ (by omega)]
        exact he
      have := hb.set (.int .i64 1)
      unfold Boxed at this ⊢
      rw [set_other _ (by omega)]
      exact this
    · have hb : Boxed (((((w.setCell ⟨bn, 0, none⟩ (.int .i64 0)).setCell ⟨bn, 1, none⟩ (.string ⟨#[]⟩)).setCell ⟨bn, 2, none⟩ (.slice none 0 0)).setCell ⟨bn, 3, none⟩ (.slice none 0 0)).setCell ⟨be, 0, none⟩ (.int .i64 1)) ba 3 (.int .i64 y) := by
        unfold Boxed
        rw [set_other _ (by omega), set_other _ (by omega), set_other _ (by omega), set_other _ (by omega), set_other _ (by omega)]
        exact ha
      exact hb.set (.int .i64 5)
    · exact (((((((Below.refl bn w).setCell (p := ⟨bn, 0, none⟩) (Nat.le_refl _) _).setCell (p := ⟨bn, 1, none⟩) (Nat.le_refl _) _).setCell (p := ⟨bn, 2, none⟩) (Nat.le_refl _) _).setCell (p := ⟨bn, 3, none⟩) (Nat.le_refl _) _).setCell (p := ⟨be, 0, none⟩) (by simp; omega) _).setCell (p := ⟨ba, 0, none⟩) (by simp; omega) _)
  refine wp_mono (Q := fun e a' w' => e = .normal ∧ a'.defers = [] ∧ (w'.heap[bn]? = some (.cells zNode 65 (0, 0)) ∧ Boxed w' be 36 (.int .i64 1) ∧ Boxed w' ba 3 (.int .i64 5) ∧ Below bn w w')) ?_ ?_
  · clear hu hn he ha
    have ht : (#[.pointer (some ⟨bn, 0, none⟩), .pointer (some ⟨be, 0, none⟩), .pointer (some ⟨ba, 0, none⟩)] ++ ((Array.replicate 16 undef).setIfInBounds 3 (.iface 205 (.int .i64 5))).setIfInBounds 0 (.iface 205 (.int .i64 5)) : Array Value) =
        #[.pointer (some ⟨bn, 0, none⟩), .pointer (some ⟨be, 0, none⟩), .pointer (some ⟨ba, 0, none⟩), .iface 205 (.int .i64 5), undef, undef, .iface 205 (.int .i64 5), undef, undef, undef, undef, undef, undef, undef, undef, undef, undef, undef, undef] := rfl
    rw [ht]
    clear ht
    have hta := assert_fault
    have hfs := fault_some
    go_wp2
  · rintro e a' w' ⟨rfl, hd, hh⟩
    cases c₀
    simp_all [bodyPostS, results, Tryz.results131]

set_option maxRecDepth 100000 in
set_option maxHeartbeats 2000000 in
/-- parse.read at the broken source. -/
theorem pread_calls (w : World) : Calls Tryz.prog 88 #[.string wConst, .func (.func 89) #[] #[]] w fun e w' => e = .returned (.tuple #[.agg zNode, .int .i64 1, .int .i64 5]) ∧ Below w.heap.size w w' := by
  have hmf : ∀ (fn : Fn) (first cap : Array Value) (w : World), (Instr.makeFunc fn first cap).run Tryz.prog w = .ok (.func fn first cap) w := fun _ _ _ _ => rfl
  go_enter_defers Tryz.func88, Tryz.ntmps88
  go_wp2_with fail
  have hn0 : (((w.alloc (.cells zNode 65)).alloc (.cells #[.int .i64 0] 36)).alloc (.cells #[.int .i64 0] 3)).heap[w.heap.size]? = some (.cells zNode 65 (0, 0)) := by
    rw [Below.heap_alloc _ _ _ (by simp; omega), Below.heap_alloc _ _ _ (by simp)]
    exact (MapKept.heap_alloc w _).1
  have he0 := ((Boxed.new (w.alloc (.cells zNode 65)) 36 (.int .i64 0)).alloc (.cells #[.int .i64 0] 3))
  have ha0 := Boxed.new ((w.alloc (.cells zNode 65)).alloc (.cells #[.int .i64 0] 36)) 3 (.int .i64 0)
  simp only [World.size_alloc] at he0 ha0
  have hb0 : Below w.heap.size w (((w.alloc (.cells zNode 65)).alloc (.cells #[.int .i64 0] 36)).alloc (.cells #[.int .i64 0] 3)) := (((Below.refl _ w).alloc (Nat.le_refl _) _).alloc (by simp) _).alloc (by simp; omega) _
  have hs0 : (((w.alloc (.cells zNode 65)).alloc (.cells #[.int .i64 0] 36)).alloc (.cells #[.int .i64 0] 3)).heap.size = w.heap.size + 3 := by simp
  generalize hW1 : ((w.alloc (.cells zNode 65)).alloc (.cells #[.int .i64 0] 36)).alloc (.cells #[.int .i64 0] 3) = W1 at *
  clear hW1
  refine (tokens_calls W1).mono ?_
  rintro e w1 ⟨B, D, C, rfl, hC, ht, hb⟩
  have hn1 : w1.heap[w.heap.size]? = some (.cells zNode 65 (0, 0)) := (hb.block _ (by omega)).trans hn0
  have he1 : Boxed w1 (w.heap.size + 1) 36 (.int .i64 0) := (hb.block _ (by omega)).trans he0
  have ha1 : Boxed w1 (w.heap.size + 1 + 1) 3 (.int .i64 0) := (hb.block _ (by omega)).trans ha0
  have ce := he1.cell
  have fe := he1.frozen
  have ca := ha1.cell
  have fa := ha1.frozen
  have HB1 := Lib.hid (hb0.trans (hb.mono (by omega)))
  have HT := Lib.hid ht
  have HN := Lib.hid hn1
  have HE := Lib.hid he1
  have HA := Lib.hid ha1
  have hs1 : w.heap.size + 3 ≤ w1.heap.size := by have := hb.size; omega
  clear hb hb0 hn0 he0 ha0 hn1 he1 ha1 ht hs0
  go_wp2_with fail
  have box_no : ∀ {b : Nat} {t : TypeId} {x : Int}, Boxed w1 b t (.int .i64 x) → B ≠ b := by
    rintro b t x hx rfl
    have h1 := HT.out.c1
    simp only [World.cell?, show w1.heap[B]? = _ from hx] at h1
    simp at h1
  have b1 := box_no HE.out
  have b2 := box_no HA.out
  clear box_no
  have hB := HT.out.lt
  obtain ⟨W2, hW2⟩ : ∃ W2 : World, W2 = ((w1.setCell ⟨w.heap.size + 1, 0, none⟩ (.int .i64 0)).setCell ⟨w.heap.size + 1 + 1, 0, none⟩ (.int .i64 0)).alloc (.cells #[.slice (some ⟨B, D, none⟩) 2 C, .int .i64 0] 208) := ⟨_, rfl⟩
  have hsz2 : ((w1.setCell ⟨w.heap.size + 1, 0, none⟩ (.int .i64 0)).setCell ⟨w.heap.size + 1 + 1, 0, none⟩ (.int .i64 0)).heap.size = w1.heap.size := by simp [World.setCell]
  have keep : ∀ k, k < w1.heap.size → k ≠ w.heap.size + 1 → k ≠ w.heap.size + 1 + 1 → W2.heap[k]? = w1.heap[k]? := by
    intro k hk h1 h2
    rw [hW2, Below.heap_alloc _ _ _ (by rw [hsz2]; exact hk), set_other _ h2, set_other _ h1]
  have hr2 : W2.heap[w1.heap.size]? = some (.cells #[.slice (some ⟨B, D, none⟩) 2 C, .int .i64 0] 208 (0, 0)) := by
    have := (MapKept.heap_alloc ((w1.setCell ⟨w.heap.size + 1, 0, none⟩ (.int .i64 0)).setCell ⟨w.heap.size + 1 + 1, 0, none⟩ (.int .i64 0)) (.cells #[.slice (some ⟨B, D, none⟩) 2 C, .int .i64 0] 208)).1
    rw [hsz2] at this
    rw [hW2]
    exact this
  have hn2 : W2.heap[w.heap.size]? = some (.cells zNode 65 (0, 0)) := (keep _ (by omega) (by omega) (by omega)).trans HN.out
  have he2 : Boxed W2 (w.heap.size + 1) 36 (.int .i64 0) := by
    rw [hW2]
    refine Boxed.alloc ?_ _
    unfold Boxed
    rw [set_other _ (by omega)]
    exact HE.out.set (.int .i64 0)
  have ha2 : Boxed W2 (w.heap.size + 1 + 1) 3 (.int .i64 0) := by
    rw [hW2]
    refine Boxed.alloc ?_ _
    have : Boxed (w1.setCell ⟨w.heap.size + 1, 0, none⟩ (.int .i64 0)) (w.heap.size + 1 + 1) 3 (.int .i64 0) := by
      unfold Boxed
      rw [set_other _ (by omega)]
      exact HA.out
    exact this.set (.int .i64 0)
  have cellk : ∀ o, W2.cell? ⟨B, o, none⟩ = w1.cell? ⟨B, o, none⟩ := fun o => by simp only [World.cell?, keep B hB b1 b2]
  have ht2 : Toks W2 B D := ⟨(cellk _).trans HT.out.c0, (cellk _).trans HT.out.c1, (cellk _).trans HT.out.c2, (cellk _).trans HT.out.c3, (cellk _).trans HT.out.c4, (cellk _).trans HT.out.c5, (cellk _).trans HT.out.c6, (cellk _).trans HT.out.c7⟩
  have hb2 : Below w.heap.size w W2 := by
    rw [hW2]
    exact ((HB1.out.setCell (p := ⟨w.heap.size + 1, 0, none⟩) (by simp) _).setCell (p := ⟨w.heap.size + 1 + 1, 0, none⟩) (by simp; omega) _).alloc (by rw [hsz2]; omega) _
  rw [← hW2]
  refine (file1_calls ht2 hC hB hr2).mono ?_
  rintro e w3 ⟨rfl, hb⟩
  have hn3 := (hb.block _ (by omega)).trans hn2
  have he3 : Boxed w3 (w.heap.size + 1) 36 (.int .i64 0) := (hb.block _ (by omega)).trans he2
  have ha3 : Boxed w3 (w.heap.size + 1 + 1) 3 (.int .i64 0) := (hb.block _ (by omega)).trans ha2
  have HB3 := Lib.hid (hb2.trans (hb.mono (by omega)))
  have HN3 := Lib.hid hn3
  have HE3 := Lib.hid he3
  have HA3 := Lib.hid ha3
  clear hb hb2 ht2 cellk ha2 he2 hn2 hr2 keep hsz2 hW2 hn3 he3 ha3
  go_wp2
  refine leaves_cons (f := 131) (args := #[.pointer (some ⟨w.heap.size, 0, none⟩), .pointer (some ⟨w.heap.size + 1, 0, none⟩), .pointer (some ⟨w.heap.size + 1 + 1, 0, none⟩)]) (by simp) (by simp [go_sem]) ?_
  refine (catch_calls (by omega) (by omega) HN3.out HE3.out HA3.out).mono ?_
  rintro e u' w4 ⟨rfl, rfl, hn4, he4, ha4, hb4⟩
  have q0 : w4.cell? ⟨w.heap.size, 0, none⟩ = some (.int .i64 0) := by simp only [World.cell?, hn4]; rfl
  have q1 : w4.cell? ⟨w.heap.size, 1, none⟩ = some (.string ⟨#[]⟩) := by simp only [World.cell?, hn4]; rfl
  have q2 : w4.cell? ⟨w.heap.size, 2, none⟩ = some (.slice none 0 0) := by simp only [World.cell?, hn4]; rfl
  have q3 : w4.cell? ⟨w.heap.size, 3, none⟩ = some (.slice none 0 0) := by simp only [World.cell?, hn4]; rfl
  have qe := he4.cell
  have qa := ha4.cell
  have HB4 := HB3.out.trans hb4
  simp [Leaves, settle, results, Tryz.results88, go_sem, q0, q1, q2, q3, qe, qa]
  exact HB4

set_option maxRecDepth 100000 in
set_option maxHeartbeats 2000000 in
/-- parse.File at the broken source. -/
theorem pfile_calls (w : World) : Calls Tryz.prog 50 #[.string wConst] w fun e w' => e = .returned (.tuple #[.agg zNode, .int .i64 1, .int .i64 5]) ∧ Below w.heap.size w w' := by
  go_enter Tryz.func50, Tryz.ntmps50
  go_wp2_with fail
  have hb0 : Below w.heap.size w (w.alloc (.cells zNode 65)) := (Below.refl _ w).alloc (Nat.le_refl _) _
  have hn0 : (w.alloc (.cells zNode 65)).heap[w.heap.size]? = some (.cells zNode 65 (0, 0)) := (MapKept.heap_alloc w _).1
  refine (pread_calls _).mono ?_
  rintro e w1 ⟨rfl, hb⟩
  have hn1 : w1.heap[w.heap.size]? = some (.cells zNode 65 (0, 0)) := (hb.block _ (by simp)).trans hn0
  have n0 : w1.cell? ⟨w.heap.size, 0, none⟩ = some (.int .i64 0) := by simp only [World.cell?, hn1]; rfl
  have n1 : w1.cell? ⟨w.heap.size, 1, none⟩ = some (.string ⟨#[]⟩) := by simp only [World.cell?, hn1]; rfl
  have n2 : w1.cell? ⟨w.heap.size, 2, none⟩ = some (.slice none 0 0) := by simp only [World.cell?, hn1]; rfl
  have n3 : w1.cell? ⟨w.heap.size, 3, none⟩ = some (.slice none 0 0) := by simp only [World.cell?, hn1]; rfl
  have z0 : w1.frozen? ⟨w.heap.size, 0, none⟩ = false := by simp [World.frozen?, hn1]
  have z1 : w1.frozen? ⟨w.heap.size, 1, none⟩ = false := by simp [World.frozen?, hn1]
  have z2 : w1.frozen? ⟨w.heap.size, 2, none⟩ = false := by simp [World.frozen?, hn1]
  have z3 : w1.frozen? ⟨w.heap.size, 3, none⟩ = false := by simp [World.frozen?, hn1]
  have HB := Lib.hid (hb0.trans (hb.mono hb0.size))
  have HN := Lib.hid hn1
  clear hb hb0 hn0 hn1
  have hfin : ((((w1.setCell ⟨w.heap.size, 0, none⟩ (.int .i64 0)).setCell ⟨w.heap.size, 1, none⟩ (.string ⟨#[]⟩)).setCell ⟨w.heap.size, 2, none⟩ (.slice none 0 0)).setCell ⟨w.heap.size, 3, none⟩ (.slice none 0 0)).heap[w.heap.size]? = some (.cells zNode 65 (0, 0)) :=
    set_block _ (set_block _ (set_block _ (set_block _ HN.out)))
  have q0 := show (((((w1.setCell ⟨w.heap.size, 0, none⟩ (.int .i64 0)).setCell ⟨w.heap.size, 1, none⟩ (.string ⟨#[]⟩)).setCell ⟨w.heap.size, 2, none⟩ (.slice none 0 0)).setCell ⟨w.heap.size, 3, none⟩ (.slice none 0 0)).cell? ⟨w.heap.size, 0, none⟩ = some (.int .i64 0)) by simp only [World.cell?, hfin]; rfl
  have q1 := show (((((w1.setCell ⟨w.heap.size, 0, none⟩ (.int .i64 0)).setCell ⟨w.heap.size, 1, none⟩ (.string ⟨#[]⟩)).setCell ⟨w.heap.size, 2, none⟩ (.slice none 0 0)).setCell ⟨w.heap.size, 3, none⟩ (.slice none 0 0)).cell? ⟨w.heap.size, 1, none⟩ = some (.string ⟨#[]⟩)) by simp only [World.cell?, hfin]; rfl
  have q2 := show (((((w1.setCell ⟨w.heap.size, 0, none⟩ (.int .i64 0)).setCell ⟨w.heap.size, 1, none⟩ (.string ⟨#[]⟩)).setCell ⟨w.heap.size, 2, none⟩ (.slice none 0 0)).setCell ⟨w.heap.size, 3, none⟩ (.slice none 0 0)).cell? ⟨w.heap.size, 2, none⟩ = some (.slice none 0 0)) by simp only [World.cell?, hfin]; rfl
  have q3 := show (((((w1.setCell ⟨w.heap.size, 0, none⟩ (.int .i64 0)).setCell ⟨w.heap.size, 1, none⟩ (.string ⟨#[]⟩)).setCell ⟨w.heap.size, 2, none⟩ (.slice none 0 0)).setCell ⟨w.heap.size, 3, none⟩ (.slice none 0 0)).cell? ⟨w.heap.size, 3, none⟩ = some (.slice none 0 0)) by simp only [World.cell?, hfin]; rfl
  have hbf : Below w.heap.size w ((((w1.setCell ⟨w.heap.size, 0, none⟩ (.int .i64 0)).setCell ⟨w.heap.size, 1, none⟩ (.string ⟨#[]⟩)).setCell ⟨w.heap.size, 2, none⟩ (.slice none 0 0)).setCell ⟨w.heap.size, 3, none⟩ (.slice none 0 0)) :=
    (((HB.out.setCell (p := ⟨w.heap.size, 0, none⟩) (Nat.le_refl _) _).setCell (p := ⟨w.heap.size, 1, none⟩) (Nat.le_refl _) _).setCell (p := ⟨w.heap.size, 2, none⟩) (Nat.le_refl _) _).setCell (p := ⟨w.heap.size, 3, none⟩) (Nat.le_refl _) _
  go_wp2
  generalize ((((w1.setCell ⟨w.heap.size, 0, none⟩ (.int .i64 0)).setCell ⟨w.heap.size, 1, none⟩ (.string ⟨#[]⟩)).setCell ⟨w.heap.size, 2, none⟩ (.slice none 0 0)).setCell ⟨w.heap.size, 3, none⟩ (.slice none 0 0)) = wf at *
  refine bodyPost_ret (v := .tuple #[.agg zNode, .int .i64 1, .int .i64 5]) ?_ rfl ⟨rfl, hbf⟩
  simp [results, Tryz.results50, go_sem, q0, q1, q2, q3]
end Go.Proofs
