/-
  From rows of cells in the world to a state of the evaluator, and back. The calls that read the broken source 'const': the evaluator's word.
-/
import Derived.Test.YtjhmlmiegkjncaaGreatDoorEvV
import Derived.Test.YtjhmlmiegkjncaaGreatDoorEvQ
import Derived.Below
import Derived.Test.YtjhmlmiegkjncaaGreatDoorProg
import Derived.KernelRfl
set_option linter.all false

namespace Go.Ev
open Go.RowKit

theorem cell_block {w : World} {B o : Nat} {V : Value} (h : w.cell? ⟨B, o, none⟩ = some V) : ∃ c t fz, w.heap[B]? = some (.cells c t fz) ∧ c[o]? = some V := by
  unfold World.cell? at h
  split at h
  · rename_i c t fz hb
    exact ⟨c, t, fz, hb, h⟩
  · cases h

theorem row_get (cs : List CV) (hl : cs.length < lim) (i : Nat) (hi : i < cs.length) : (lay .leaf 0 cs : Tr CV).get (i + 0) = cs[i]? := by
  have hg := lay_get cs .leaf 0 i (by unfold lim at hl; omega)
  rw [if_pos ⟨Nat.zero_le _, by omega⟩, Nat.sub_zero] at hg
  rw [Nat.add_zero]
  exact hg

/-- A row that is only read. -/
theorem row_ro {ρ : Ren} {w : World} {B D id : Nat} {cs : List CV} (hl : cs.length < lim) (hk : ρ.k id = some 0) (hne : cs ≠ []) (h : ∀ (i : Nat) (v : CV), cs[i]? = some v → ∃ V, real ρ v = some V ∧ w.cell? ⟨B, i + D, none⟩ = some V) :
    ∃ O, w.heap[B]? = some O ∧ ObjRel ρ D (LObj.row cs false id 1 0).obj O := by
  obtain ⟨v0, hv0⟩ : ∃ v0, cs[0]? = some v0 := by
    cases cs with
    | nil => exact absurd rfl hne
    | cons x l => exact ⟨x, rfl⟩
  obtain ⟨V0, _, g0⟩ := h 0 v0 hv0
  obtain ⟨c, t, fz, hb, _⟩ := cell_block g0
  refine ⟨_, hb, fun i hi => ?_, .inr ⟨by decide, 0, hk, fun j hj => by omega⟩, fun e => absurd rfl e⟩
  have hv : cs[i]? = some cs[i] := List.getElem?_eq_getElem hi
  obtain ⟨V, h1, h2⟩ := h i _ hv
  obtain ⟨c', t', fz', hb', h3⟩ := cell_block h2
  rw [hb] at hb'
  cases hb'
  exact ⟨cs[i], V, by rw [row_get cs hl i hi, hv], h1, h3, fun e => by cases e⟩

/-- A row that may be written. -/
theorem row_wr {ρ : Ren} {w : World} {B id : Nat} {cs : List CV} {vs : Array Value} {t : TypeId} (hl : cs.length < lim) (hk : ρ.k id = some 0) (hb : w.heap[B]? = some (.cells vs t (0, 0))) (h : ∀ (i : Nat) (v : CV), cs[i]? = some v → ∃ V, real ρ v = some V ∧ vs[i]? = some V) :
    ∃ O, w.heap[B]? = some O ∧ ObjRel ρ 0 (LObj.row cs true id 1 0).obj O := by
  refine ⟨_, hb, fun i hi => ?_, .inr ⟨by decide, 0, hk, fun j hj => by omega⟩, fun e => absurd rfl e⟩
  have hv : cs[i]? = some cs[i] := List.getElem?_eq_getElem hi
  obtain ⟨V, h1, h2⟩ := h i _ hv
  exact ⟨cs[i], V, by rw [row_get cs hl i hi, hv], h1, h2, fun _ h => by simp at h⟩

/-- What a row's cells are. -/
theorem row_cells {ρ : Ren} {w : World} {B D id sz ty : Nat} {wr : Bool} {cs : List CV} {O : Obj} (hl : cs.length < lim) (hb : w.heap[B]? = some O) (h : ObjRel ρ D (LObj.row cs wr id sz ty).obj O) {i : Nat} {v : CV} (hv : cs[i]? = some v) :
    ∃ V, real ρ v = some V ∧ w.cell? ⟨B, i + D, none⟩ = some V := by
  cases O with
  | cells c t fz =>
    have hi : i < cs.length := (List.getElem?_eq_some_iff.1 hv).1
    obtain ⟨u, V, h1, h2, h3, _⟩ := h.1 i hi
    rw [row_get cs hl i hi, hv] at h1
    cases h1
    exact ⟨V, h2, by simp only [World.cell?, hb]; exact h3⟩
  | _ => exact h.elim

/-- The names of a few blocks, behind the variables'. -/
def few (G : Nat) (l : List (Nat × Nat)) (ks : Nat → Option Nat) : Ren := ⟨fun b => if b < G then some (b, 0) else l[b - G]?, ks, fun _ => none⟩

theorem few_rel {G : Nat} {l : List (Nat × Nat)} {ks : Nat → Option Nat} {pre : List (Nat × LObj)} {nx nk : Nat} {w : World} (hnx : G + l.length ≤ nx) (hk : ∀ i, nk ≤ i → ks i = none) (hlow : ∀ b o, (b, o) ∈ pre → b < lim ∧ G ≤ b)
    (hobj : ∀ b o, (b, o) ∈ pre → ∃ x, l[b - G]? = some x ∧ ∃ O, w.heap[x.1]? = some O ∧ ObjRel (few G l ks) x.2 o.obj O)
    (hinj : ∀ (i j : Nat) (x y : Nat × Nat), l[i]? = some x → l[j]? = some y → x.1 = y.1 → i = j) : Rel (few G l ks) (stOf pre nx nk) w := by
  have hget : ∀ b o, (stOf pre nx nk).heap.get b = some o → ∃ l, (b, l) ∈ pre ∧ o = l.obj := by
    intro b o hb
    rcases putAll_get pre .leaf (fun b l hl => (hlow b l hl).1) b o hb with hx | ⟨_, hx⟩
    · exact hx
    · cases hx
  refine ⟨fun b o hb => ?_, fun b b' B D D' ⟨o, h1⟩ ⟨o', h2⟩ _ e1 e2 => ?_, fun b hb => ?_, fun i hi => hk i hi⟩
  · obtain ⟨lo, e1, rfl⟩ := hget b o hb
    obtain ⟨x, e2, O, e3, e4⟩ := hobj b lo e1
    exact ⟨x.1, x.2, O, by simp only [few, if_neg (show ¬ b < G by have := (hlow b lo e1).2; omega)]; exact e2, e3, e4⟩
  · obtain ⟨lo, g1, _⟩ := hget b o h1
    obtain ⟨lo', g2, _⟩ := hget b' o' h2
    have k1 := (hlow b lo g1).2
    have k2 := (hlow b' lo' g2).2
    simp only [few, if_neg (show ¬ b < G by omega)] at e1
    simp only [few, if_neg (show ¬ b' < G by omega)] at e2
    have := hinj _ _ _ _ e1 e2 rfl
    omega
  · have hb : nx ≤ b := hb
    simp only [few, if_neg (show ¬ b < G by omega)]
    exact List.getElem?_eq_none (by omega)

theorem few_glob {P : Program} {G : Nat} (hG : P.globals.size = G) (l : List (Nat × Nat)) (ks : Nat → Option Nat) : Glob P (few G l ks) := by
  intro g hg
  rw [hG] at hg
  simp only [few, if_pos hg]

/-- A call, reckoned by a stage: what comes of it. -/
theorem stage_calls {P : Program} (hm : P.follows .mixedOrders = true) (hn : ∀ (f : FuncId) (fn : Func), P.funcs[f]? = some fn → fn.body.isSome = true → (fn.name == "runtime.NumGoroutine") = false) {prims : Prims} (hp : PrimsOK P prims)
    {n : Nat} {st : Stage} (hf : prims st.f = none) (h : st.ok (callF P prims (n + 1) st.f st.args (stOf st.pre st.nx st.nk)) = true) {ρ : Ren} {w : World} {L : List Value} (hr : Rel ρ (stOf st.pre st.nx st.nk) w) (hg : Glob P ρ) (hL : reals ρ st.args = some L) :
    Calls P st.f L.toArray w fun e w' => ∃ ρ' V S', e = .returned V ∧ real ρ' st.v = some V ∧ Stp ρ (stOf st.pre st.nx st.nk) w ρ' S' w' ∧
      ∀ b o, (b, o) ∈ st.post → ∃ B D O, ρ'.b b = some (B, D) ∧ w'.heap[B]? = some O ∧ ObjRel ρ' D o.obj O := by
  cases hcl : callF P prims (n + 1) st.f st.args (stOf st.pre st.nx st.nk) with
  | fail => rw [hcl] at h; cases h
  | ok v S' =>
    rw [hcl] at h
    simp only [Stage.ok, Bool.and_eq_true] at h
    obtain ⟨⟨⟨k1, k2⟩, k3⟩, k4⟩ := h
    obtain rfl := cvEq_eq _ _ _ k1
    have e : callF P prims (n + 1) st.f st.args (stOf st.pre st.nx st.nk) = (match prims st.f with | some p => p st.args (stOf st.pre st.nx st.nk) | none => callK (fnC P st.f) (callF P prims n) st.args (stOf st.pre st.nx st.nk)) := rfl
    rw [e, hf] at hcl
    refine Calls.mono (fn_sound hm (draw_ok P) (callF_ok hm (draw_ok P) hn hp n) hcl hr hg hL).2 fun e w' he => ?_
    obtain ⟨ρ', V, rfl, hs, hv⟩ := he
    refine ⟨ρ', V, S', rfl, hv, hs, fun b o hb => ?_⟩
    obtain ⟨_, o', g1, g2⟩ := allSame_spec st.post k4 b o hb
    obtain ⟨B, D, O, f1, f2, f3⟩ := hs.rel.obj b o' g1
    exact ⟨B, D, O, f1, f2, sameObj_rel g2 f3⟩

/-- Where nothing that is known may be written, whatever lay lies as it lay. -/
theorem Stp.below_of {ρ ρ' : Ren} {S S' : St} {w w' : World} (h : Stp ρ S w ρ' S' w') (N : Nat) (hN : N ≤ w.heap.size) (hW : ∀ b B D, S.hasW b → ρ.b b = some (B, D) → N ≤ B) : Below N w w' :=
  ⟨h.os, h.tape, h.output, h.size, fun k hk => h.keep k (by omega) (fun b D hb e => by have := hW b k D hb e; omega)⟩
end Go.Ev

namespace Go.Ev
open Go.Proofs Go.RowKit
set_option maxRecDepth 100000
noncomputable section
def pr56 : Prims := fun _ => none
def cToks : List CV := [.int .i64 (.ofNat 1), .str [], .str [99, 111, 110, 115, 116], .int .i64 (.ofNat 0), .int .i64 (.ofNat 4), .str [], .str [], .int .i64 (.ofNat 5)]
def nextS0 : Stage := ⟨132, [.ptr 8 0], 9, 2,
  [(7, .row cToks false 1 1 0),
  (8, .row [.slice 7 0 2 (.sy 0 2), .int .i64 (.ofNat 0)] false 1 1 0)],
  .agg [.int .i64 (.ofNat 1), .str [], .str [99, 111, 110, 115, 116], .int .i64 (.ofNat 0)], 21, 2,
  []⟩
def nextS1 : Stage := ⟨132, [.ptr 8 0], 9, 2,
  [(7, .row cToks false 1 1 0),
  (8, .row [.slice 7 0 2 (.sy 0 2), .int .i64 (.ofNat 1)] false 1 1 0)],
  .agg [.int .i64 (.ofNat 4), .str [], .str [], .int .i64 (.ofNat 5)], 21, 2,
  []⟩
def isFn : Stage := ⟨133, [.ptr 8 0, .str [102, 110]], 9, 2,
  [(7, .row cToks false 1 1 0),
  (8, .row [.slice 7 0 2 (.sy 0 2), .int .i64 (.ofNat 0)] false 1 1 0)],
  .bool false, 33, 2,
  []⟩
def isClass : Stage := ⟨133, [.ptr 8 0, .str [99, 108, 97, 115, 115]], 9, 2,
  [(7, .row cToks false 1 1 0),
  (8, .row [.slice 7 0 2 (.sy 0 2), .int .i64 (.ofNat 0)] false 1 1 0)],
  .bool false, 33, 2,
  []⟩
def isConst : Stage := ⟨133, [.ptr 8 0, .str [99, 111, 110, 115, 116]], 9, 2,
  [(7, .row cToks false 1 1 0),
  (8, .row [.slice 7 0 2 (.sy 0 2), .int .i64 (.ofNat 0)] false 1 1 0)],
  .bool true, 33, 2,
  []⟩
def takeS : Stage := ⟨180, [.ptr 8 0, .ptr 9 0, .str [99, 111, 110, 115, 116]], 10, 2,
  [(7, .row cToks false 1 1 0),
  (8, .row [.slice 7 0 2 (.sy 0 2), .int .i64 (.ofNat 0)] true 1 1 0),
  (9, .row [.int .i64 (.ofNat 9), .str [], .nils, .nils] true 1 1 0)],
  .tup [], 60, 3,
  [(8, .row [.slice 7 0 2 (.sy 0 2), .int .i64 (.ofNat 1)] true 1 1 0)]⟩
def tokS : Stage := ⟨130, [.str [99, 111, 110, 115, 116]], 7, 1,
  [],
  .tup [.slice 26 0 2 (.sy 2 2), .int .i64 (.ofNat 0), .int .i64 (.ofNat 0)], 27, 3,
  [(26, .row cToks true 2 4 211)]⟩

def preR (k : Nat) : List (Nat × LObj) := [(7, .row cToks false 1 1 0), (8, .row [.slice 7 0 2 (.sy 0 2), .int .i64 (.ofNat k)] false 1 1 0)]
end
theorem nextS0_ok : nextS0.ok (callF Tryz.prog pr56 200 nextS0.f nextS0.args (stOf nextS0.pre nextS0.nx nextS0.nk)) = true := by kernel_rfl
theorem nextS1_ok : nextS1.ok (callF Tryz.prog pr56 200 nextS1.f nextS1.args (stOf nextS1.pre nextS1.nx nextS1.nk)) = true := by kernel_rfl
theorem isFn_ok : isFn.ok (callF Tryz.prog pr56 200 isFn.f isFn.args (stOf isFn.pre isFn.nx isFn.nk)) = true := by kernel_rfl
theorem isClass_ok : isClass.ok (callF Tryz.prog pr56 200 isClass.f isClass.args (stOf isClass.pre isClass.nx isClass.nk)) = true := by kernel_rfl
theorem isConst_ok : isConst.ok (callF Tryz.prog pr56 200 isConst.f isConst.args (stOf isConst.pre isConst.nx isConst.nk)) = true := by kernel_rfl
theorem takeS_ok : takeS.ok (callF Tryz.prog pr56 200 takeS.f takeS.args (stOf takeS.pre takeS.nx takeS.nk)) = true := by kernel_rfl
theorem tokS_ok : tokS.ok (callF Tryz.prog pr56 200 tokS.f tokS.args (stOf tokS.pre tokS.nx tokS.nk)) = true := by kernel_rfl

theorem mixed56 : Tryz.prog.follows .mixedOrders = true := by kernel_rfl
theorem names56 : (Tryz.prog.funcs.toList.all fun fn => fn.body.isNone || !(fn.name == "runtime.NumGoroutine")) = true := by kernel_rfl
theorem names56' : ∀ (f : FuncId) (fn : Func), Tryz.prog.funcs[f]? = some fn → fn.body.isSome = true → (fn.name == "runtime.NumGoroutine") = false := by
  intro f fn hf hb
  have hmem : fn ∈ Tryz.prog.funcs.toList := by
    have : Tryz.prog.funcs.toList[f]? = some fn := by simpa using hf
    exact List.mem_of_getElem? this
  have := List.all_eq_true.1 names56 fn hmem
  cases hbd : fn.body with
  | none => rw [hbd] at hb; cases hb
  | some c => rw [hbd] at this; simpa using this
theorem nglob56 : Tryz.prog.globals.size = 7 := by kernel_rfl
theorem pr56_ok : PrimsOK Tryz.prog pr56 := fun _ _ h => by cases h

abbrev wConst : ByteArray := ⟨#[99, 111, 110, 115, 116]⟩

/-- The two tokens of the source 'const'. -/
structure Toks (w : World) (B D : Nat) : Prop where
  c0 : w.cell? ⟨B, 0 + D, none⟩ = some (.int .i64 1)
  c1 : w.cell? ⟨B, 1 + D, none⟩ = some (.string ⟨#[]⟩)
  c2 : w.cell? ⟨B, 2 + D, none⟩ = some (.string wConst)
  c3 : w.cell? ⟨B, 3 + D, none⟩ = some (.int .i64 0)
  c4 : w.cell? ⟨B, 4 + D, none⟩ = some (.int .i64 4)
  c5 : w.cell? ⟨B, 5 + D, none⟩ = some (.string ⟨#[]⟩)
  c6 : w.cell? ⟨B, 6 + D, none⟩ = some (.string ⟨#[]⟩)
  c7 : w.cell? ⟨B, 7 + D, none⟩ = some (.int .i64 5)

theorem Toks.below {w w' : World} {B D N : Nat} (h : Toks w B D) (hb : Below N w w') (hB : B < N) : Toks w' B D :=
  ⟨(hb.cell (p := ⟨B, 0 + D, none⟩) hB).trans h.c0, (hb.cell (p := ⟨B, 1 + D, none⟩) hB).trans h.c1, (hb.cell (p := ⟨B, 2 + D, none⟩) hB).trans h.c2, (hb.cell (p := ⟨B, 3 + D, none⟩) hB).trans h.c3,
    (hb.cell (p := ⟨B, 4 + D, none⟩) hB).trans h.c4, (hb.cell (p := ⟨B, 5 + D, none⟩) hB).trans h.c5, (hb.cell (p := ⟨B, 6 + D, none⟩) hB).trans h.c6, (hb.cell (p := ⟨B, 7 + D, none⟩) hB).trans h.c7⟩

theorem Toks.lt {w : World} {B D : Nat} (h : Toks w B D) : B < w.heap.size := by
  obtain ⟨c, t, fz, hb, _⟩ := cell_block h.c0
  exact (Array.getElem?_eq_some_iff.1 hb).1

theorem Toks.row {w : World} {B D : Nat} (h : Toks w B D) (ρ : Ren) : ∀ (i : Nat) (v : CV), cToks[i]? = some v → ∃ V, real ρ v = some V ∧ w.cell? ⟨B, i + D, none⟩ = some V := by
  intro i v hv
  match i, hv with
  | 0, hv => cases hv; exact ⟨_, rfl, h.c0⟩
  | 1, hv => cases hv; exact ⟨_, rfl, h.c1⟩
  | 2, hv => cases hv; exact ⟨_, rfl, h.c2⟩
  | 3, hv => cases hv; exact ⟨_, rfl, h.c3⟩
  | 4, hv => cases hv; exact ⟨_, rfl, h.c4⟩
  | 5, hv => cases hv; exact ⟨_, rfl, h.c5⟩
  | 6, hv => cases hv; exact ⟨_, rfl, h.c6⟩
  | 7, hv => cases hv; exact ⟨_, rfl, h.c7⟩

def ks56 (C : Nat) : Nat → Option Nat := fun i => if i = 0 then some (C - 2) else if i = 1 then some 0 else none

theorem slice_real {ρ : Ren} {B D C : Nat} (hb : ρ.b 7 = some (B, D)) (hk : ρ.k 0 = some (C - 2)) (hC : 2 ≤ C) : real ρ (.slice 7 0 2 (.sy 0 2)) = some (.slice (some ⟨B, D, none⟩) 2 C) := by
  simp only [real, hb, Ren.cap, hk, Option.map_some, Option.bind_some, Nat.zero_add]
  rw [show 2 + (C - 2) = C by omega]

theorem rd_rel {w : World} {B D C br k : Nat} (ht : Toks w B D) (hC : 2 ≤ C) (hne : B ≠ br) (r0 : w.cell? ⟨br, 0, none⟩ = some (.slice (some ⟨B, D, none⟩) 2 C)) (r1 : w.cell? ⟨br, 1, none⟩ = some (.int .i64 (k : Nat))) :
    Rel (few 7 [(B, D), (br, 0)] (ks56 C)) (stOf (preR k) 9 2) w := by
  refine few_rel (by simp) (fun i hi => ?_) (fun b o h => ?_) (fun b o h => ?_) (fun i j x y hi hj e => ?_)
  · simp only [ks56]
    rw [if_neg (by omega), if_neg (by omega)]
  · simp only [preR, List.mem_cons, List.not_mem_nil, or_false] at h
    rcases h with h | h <;> cases h <;> exact ⟨by decide, by decide⟩
  · simp only [preR, List.mem_cons, List.not_mem_nil, or_false] at h
    rcases h with h | h <;> cases h
    · exact ⟨(B, D), rfl, row_ro (by decide) rfl (by decide) (ht.row _)⟩
    · refine ⟨(br, 0), rfl, row_ro (show 2 < lim by decide) rfl (by simp) (fun i v hv => ?_)⟩
      match i, hv with
      | 0, hv => cases hv; exact ⟨_, slice_real rfl rfl hC, r0⟩
      | 1, hv => cases hv; exact ⟨_, rfl, r1⟩
  · match i, j, hi, hj with
    | 0, 0, _, _ => rfl
    | 1, 1, _, _ => rfl
    | 0, 1, hi, hj => cases hi; cases hj; exact absurd e hne
    | 1, 0, hi, hj => cases hi; cases hj; exact absurd e.symm hne

theorem rd_calls {st : Stage} {k : Nat} (hpre : st.pre = preR k) (hnx : st.nx = 9) (hnk : st.nk = 2) (hok : st.ok (callF Tryz.prog pr56 200 st.f st.args (stOf st.pre st.nx st.nk)) = true) {w : World} {B D C br : Nat} (ht : Toks w B D) (hC : 2 ≤ C) (hne : B ≠ br)
    (r0 : w.cell? ⟨br, 0, none⟩ = some (.slice (some ⟨B, D, none⟩) 2 C)) (r1 : w.cell? ⟨br, 1, none⟩ = some (.int .i64 (k : Nat))) {L : List Value} (hL : ∀ ρ : Ren, ρ.b 8 = some (br, 0) → reals ρ st.args = some L) {V : Value} (hV : ∀ ρ : Ren, real ρ st.v = some V) :
    Calls Tryz.prog st.f L.toArray w fun e w' => e = .returned V ∧ Below w.heap.size w w' := by
  have hr := rd_rel ht hC hne r0 r1
  rw [← hpre, ← hnx, ← hnk] at hr
  refine (stage_calls mixed56 names56' pr56_ok (n := 199) (st := st) rfl hok hr (few_glob nglob56 _ _) (hL _ rfl)).mono ?_
  rintro e w' ⟨ρ', V', S', rfl, hv, hs, _⟩
  rw [hV ρ'] at hv
  cases hv
  refine ⟨rfl, hs.below_of _ (Nat.le_refl _) (fun b B' D' hb _ => ?_)⟩
  exfalso
  obtain ⟨o, hb, hw⟩ := hb
  rw [hpre] at hb
  have hlow : ∀ b l, (b, l) ∈ preR k → b < lim := by
    intro b l hl
    simp only [preR, List.mem_cons, List.not_mem_nil, or_false] at hl
    rcases hl with h | h <;> cases h <;> decide
  rcases putAll_get (preR k) .leaf hlow b o hb with ⟨l, h1, rfl⟩ | ⟨_, hx⟩
  · simp only [preR, List.mem_cons, List.not_mem_nil, or_false] at h1
    rcases h1 with h | h <;> cases h <;> cases hw
  · cases hx

def tok0 : Value := .agg #[.int .i64 1, .string ⟨#[]⟩, .string wConst, .int .i64 0]
def tok1 : Value := .agg #[.int .i64 4, .string ⟨#[]⟩, .string ⟨#[]⟩, .int .i64 5]

theorem next0_calls {w : World} {B D C br : Nat} (ht : Toks w B D) (hC : 2 ≤ C) (hne : B ≠ br) (r0 : w.cell? ⟨br, 0, none⟩ = some (.slice (some ⟨B, D, none⟩) 2 C)) (r1 : w.cell? ⟨br, 1, none⟩ = some (.int .i64 0)) : Calls Tryz.prog 132 #[.pointer (some ⟨br, 0, none⟩)] w fun e w' => e = .returned tok0 ∧ Below w.heap.size w w' :=
  rd_calls (st := nextS0) (k := 0) rfl rfl rfl nextS0_ok ht hC hne r0 r1 (L := [.pointer (some ⟨br, 0, none⟩)]) (fun ρ hb => by simp [nextS0, reals, real, hb]) (fun _ => rfl)
theorem next1_calls {w : World} {B D C br : Nat} (ht : Toks w B D) (hC : 2 ≤ C) (hne : B ≠ br) (r0 : w.cell? ⟨br, 0, none⟩ = some (.slice (some ⟨B, D, none⟩) 2 C)) (r1 : w.cell? ⟨br, 1, none⟩ = some (.int .i64 1)) : Calls Tryz.prog 132 #[.pointer (some ⟨br, 0, none⟩)] w fun e w' => e = .returned tok1 ∧ Below w.heap.size w w' :=
  rd_calls (st := nextS1) (k := 1) rfl rfl rfl nextS1_ok ht hC hne r0 r1 (L := [.pointer (some ⟨br, 0, none⟩)]) (fun ρ hb => by simp [nextS1, reals, real, hb]) (fun _ => rfl)
theorem isFn_calls {w : World} {B D C br : Nat} (ht : Toks w B D) (hC : 2 ≤ C) (hne : B ≠ br) (r0 : w.cell? ⟨br, 0, none⟩ = some (.slice (some ⟨B, D, none⟩) 2 C)) (r1 : w.cell? ⟨br, 1, none⟩ = some (.int .i64 0)) : Calls Tryz.prog 133 #[.pointer (some ⟨br, 0, none⟩), .string ⟨#[102, 110]⟩] w fun e w' => e = .returned (.bool false) ∧ Below w.heap.size w w' :=
  rd_calls (st := isFn) (k := 0) rfl rfl rfl isFn_ok ht hC hne r0 r1 (L := [.pointer (some ⟨br, 0, none⟩), .string ⟨#[102, 110]⟩]) (fun ρ hb => by simp [isFn, reals, real, hb]; rfl) (fun _ => rfl)
theorem isClass_calls {w : World} {B D C br : Nat} (ht : Toks w B D) (hC : 2 ≤ C) (hne : B ≠ br) (r0 : w.cell? ⟨br, 0, none⟩ = some (.slice (some ⟨B, D, none⟩) 2 C)) (r1 : w.cell? ⟨br, 1, none⟩ = some (.int .i64 0)) : Calls Tryz.prog 133 #[.pointer (some ⟨br, 0, none⟩), .string ⟨#[99, 108, 97, 115, 115]⟩] w fun e w' => e = .returned (.bool false) ∧ Below w.heap.size w w' :=
  rd_calls (st := isClass) (k := 0) rfl rfl rfl isClass_ok ht hC hne r0 r1 (L := [.pointer (some ⟨br, 0, none⟩), .string ⟨#[99, 108, 97, 115, 115]⟩]) (fun ρ hb => by simp [isClass, reals, real, hb]; rfl) (fun _ => rfl)
theorem isConst_calls {w : World} {B D C br : Nat} (ht : Toks w B D) (hC : 2 ≤ C) (hne : B ≠ br) (r0 : w.cell? ⟨br, 0, none⟩ = some (.slice (some ⟨B, D, none⟩) 2 C)) (r1 : w.cell? ⟨br, 1, none⟩ = some (.int .i64 0)) : Calls Tryz.prog 133 #[.pointer (some ⟨br, 0, none⟩), .string wConst] w fun e w' => e = .returned (.bool true) ∧ Below w.heap.size w w' :=
  rd_calls (st := isConst) (k := 0) rfl rfl rfl isConst_ok ht hC hne r0 r1 (L := [.pointer (some ⟨br, 0, none⟩), .string wConst]) (fun ρ hb => by simp [isConst, reals, real, hb]; rfl) (fun _ => rfl)

/-- The token is taken: the next one is the last. -/
theorem take_calls {w : World} {B D C br bn : Nat} {t u : TypeId} (ht : Toks w B D) (hC : 2 ≤ C) (h1 : B < br) (h2 : br < bn) (hr : w.heap[br]? = some (.cells #[.slice (some ⟨B, D, none⟩) 2 C, .int .i64 0] t (0, 0)))
    (hn : w.heap[bn]? = some (.cells #[.int .i64 9, .string ⟨#[]⟩, .slice none 0 0, .slice none 0 0] u (0, 0))) :
    Calls Tryz.prog 180 #[.pointer (some ⟨br, 0, none⟩), .pointer (some ⟨bn, 0, none⟩), .string wConst] w fun e w' => e = .returned (.tuple #[]) ∧ Below br w w' ∧ w'.cell? ⟨br, 0, none⟩ = some (.slice (some ⟨B, D, none⟩) 2 C) ∧ w'.cell? ⟨br, 1, none⟩ = some (.int .i64 1) := by
  have hlow : ∀ b o, (b, o) ∈ takeS.pre → b < lim ∧ 7 ≤ b := by
    intro b o h
    simp only [takeS, List.mem_cons, List.not_mem_nil, or_false] at h
    rcases h with h | h | h <;> cases h <;> exact ⟨by decide, by decide⟩
  have hrel : Rel (few 7 [(B, D), (br, 0), (bn, 0)] (ks56 C)) (stOf takeS.pre takeS.nx takeS.nk) w := by
    refine few_rel (show 7 + 3 ≤ 10 by decide) (fun i hi => ?_) hlow (fun b o h => ?_) (fun i j x y hi hj e => ?_)
    · have hi : 2 ≤ i := hi
      simp only [ks56]
      rw [if_neg (by omega), if_neg (by omega)]
    · simp only [takeS, List.mem_cons, List.not_mem_nil, or_false] at h
      rcases h with h | h | h <;> cases h
      · exact ⟨(B, D), rfl, row_ro (by decide) rfl (by decide) (ht.row _)⟩
      · refine ⟨(br, 0), rfl, row_wr (show 2 < lim by decide) rfl hr (fun i v hv => ?_)⟩
        match i, hv with
        | 0, hv => cases hv; exact ⟨_, slice_real rfl rfl hC, rfl⟩
        | 1, hv => cases hv; exact ⟨_, rfl, rfl⟩
      · refine ⟨(bn, 0), rfl, row_wr (show 4 < lim by decide) rfl hn (fun i v hv => ?_)⟩
        match i, hv with
        | 0, hv => cases hv; exact ⟨_, rfl, rfl⟩
        | 1, hv => cases hv; exact ⟨_, rfl, rfl⟩
        | 2, hv => cases hv; exact ⟨_, rfl, rfl⟩
        | 3, hv => cases hv; exact ⟨_, rfl, rfl⟩
    · match i, j, hi, hj with
      | 0, 0, _, _ => rfl
      | 1, 1, _, _ => rfl
      | 2, 2, _, _ => rfl
      | 0, 1, hi, hj => cases hi; cases hj; simp at e; omega
      | 1, 0, hi, hj => cases hi; cases hj; simp at e; omega
      | 0, 2, hi, hj => cases hi; cases hj; simp at e; omega
      | 2, 0, hi, hj => cases hi; cases hj; simp at e; omega
      | 1, 2, hi, hj => cases hi; cases hj; simp at e; omega
      | 2, 1, hi, hj => cases hi; cases hj; simp at e; omega
  have hlt : br < w.heap.size := (Array.getElem?_eq_some_iff.1 hr).1
  refine (stage_calls mixed56 names56' pr56_ok (n := 199) (st := takeS) rfl takeS_ok hrel (few_glob nglob56 _ _) (L := [.pointer (some ⟨br, 0, none⟩), .pointer (some ⟨bn, 0, none⟩), .string wConst]) (by simp [takeS, reals, real, few]; rfl)).mono ?_
  rintro e w' ⟨ρ', V', S', rfl, hv, hs, hp⟩
  have hv : real ρ' (.tup []) = some V' := hv
  simp [real, reals] at hv
  subst hv
  obtain ⟨B', D', O, e1, e2, e3⟩ := hp 8 _ (List.mem_singleton.2 rfl)
  have e0 := hs.ext.b 8 (br, 0) rfl
  rw [e0] at e1
  cases e1
  refine ⟨rfl, hs.below_of _ (by omega) (fun b B' D' hb e => ?_), ?_, ?_⟩
  · obtain ⟨o, hb, hw⟩ := hb
    rcases putAll_get takeS.pre .leaf (fun b l hl => (hlow b l hl).1) b o hb with ⟨l, h1, rfl⟩ | ⟨_, hx⟩
    · simp only [takeS, List.mem_cons, List.not_mem_nil, or_false] at h1
      rcases h1 with h | h | h <;> cases h
      · cases hw
      · cases e; omega
      · cases e; omega
    · cases hx
  · obtain ⟨V, g1, g2⟩ := row_cells (cs := [.slice 7 0 2 (.sy 0 2), .int .i64 (.ofNat 1)]) (by decide) e2 e3 (i := 0) rfl
    have := slice_real (hs.ext.b 7 (B, D) rfl) (hs.ext.k 0 (C - 2) rfl) hC
    rw [this] at g1
    cases g1
    exact g2
  · obtain ⟨V, g1, g2⟩ := row_cells (cs := [.slice 7 0 2 (.sy 0 2), .int .i64 (.ofNat 1)]) (by decide) e2 e3 (i := 1) rfl
    simp [real] at g1
    subst g1
    exact g2

/-- The tokens of the source. -/
theorem tokens_calls (w : World) : Calls Tryz.prog 130 #[.string wConst] w fun e w' => ∃ B D C, e = .returned (.tuple #[.slice (some ⟨B, D, none⟩) 2 C, .int .i64 0, .int .i64 0]) ∧ 2 ≤ C ∧ Toks w' B D ∧ Below w.heap.size w w' := by
  have hrel : Rel (few 7 [] (fun _ => none)) (stOf tokS.pre tokS.nx tokS.nk) w :=
    few_rel (by decide) (fun _ _ => rfl) (fun b o h => by cases h) (fun b o h => by cases h) (fun i j x y hi hj e => by simp at hi)
  refine (stage_calls mixed56 names56' pr56_ok (n := 199) (st := tokS) rfl tokS_ok hrel (few_glob nglob56 _ _) (L := [.string wConst]) rfl).mono ?_
  rintro e w' ⟨ρ', V', S', rfl, hv, hs, hp⟩
  obtain ⟨B, D, O, e1, e2, e3⟩ := hp 26 _ (List.mem_singleton.2 rfl)
  have hv : real ρ' (.tup [.slice 26 0 2 (.sy 2 2), .int .i64 (.ofNat 0), .int .i64 (.ofNat 0)]) = some V' := hv
  cases hk : ρ'.k 2 with
  | none => simp [real, reals, e1, Ren.cap, hk] at hv
  | some x =>
    simp [real, reals, e1, Ren.cap, hk] at hv
    subst hv
    have cell : ∀ (i : Nat) (v : CV), cToks[i]? = some v → ∃ V, real ρ' v = some V ∧ w'.cell? ⟨B, i + D, none⟩ = some V := fun i v hv => row_cells (cs := cToks) (by decide) e2 e3 hv
    refine ⟨B, D, 2 + x, rfl, by omega, ?_, hs.below_of _ (Nat.le_refl _) (fun b B' D' hb _ => ?_)⟩
    · obtain ⟨_, a0, c0⟩ := cell 0 _ rfl
      obtain ⟨_, a1, c1⟩ := cell 1 _ rfl
      obtain ⟨_, a2, c2⟩ := cell 2 _ rfl
      obtain ⟨_, a3, c3⟩ := cell 3 _ rfl
      obtain ⟨_, a4, c4⟩ := cell 4 _ rfl
      obtain ⟨_, a5, c5⟩ := cell 5 _ rfl
      obtain ⟨_, a6, c6⟩ := cell 6 _ rfl
      obtain ⟨_, a7, c7⟩ := cell 7 _ rfl
      cases a0; cases a1; cases a2; cases a3; cases a4; cases a5; cases a6; cases a7
      exact ⟨c0, c1, c2, c3, c4, c5, c6, c7⟩
    · obtain ⟨o, hb, _⟩ := hb
      rcases putAll_get tokS.pre .leaf (fun b l hl => by cases hl) b o hb with ⟨l, h1, rfl⟩ | ⟨_, hx⟩
      · cases h1
      · cases hx
end Go.Ev
