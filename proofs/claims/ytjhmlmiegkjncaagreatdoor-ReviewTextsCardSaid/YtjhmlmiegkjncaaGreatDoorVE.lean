/-
  The example's files: what intents and hunks give there, in any later world. The example's four calls of review.Views.
-/
import Derived.Test.YtjhmlmiegkjncaaGreatDoorStE
import Derived.Test.YtjhmlmiegkjncaaGreatDoorVD
set_option linter.all false

namespace Go.Proofs
open Go.RowKit Go.Ev
open Classical
set_option maxRecDepth 100000

abbrev tF : ByteArray := ⟨#[99, 111, 110, 115, 116, 32, 102, 32, 61, 32, 49, 59, 10]⟩
abbrev tG : ByteArray := ⟨#[99, 111, 110, 115, 116, 32, 103, 32, 61, 32, 49, 59, 10]⟩
abbrev pA : ByteArray := ⟨#[97]⟩
abbrev lF : ByteArray := ⟨#[45, 99, 111, 110, 115, 116, 32, 102, 32, 61, 32, 49, 59, 10]⟩
abbrev lG : ByteArray := ⟨#[43, 99, 111, 110, 115, 116, 32, 103, 32, 61, 32, 49, 59, 10]⟩
abbrev lC : ByteArray := ⟨#[43, 99, 111, 110, 115, 116, 10]⟩

def viewAB : ViewT := { path := pA, k := 3, own := ⟨#[]⟩, nm := ⟨#[102]⟩, to := ⟨#[103]⟩, old := 1, new := 1, lv := .slice none 0 0, lines := [lF, lG] }
def viewAC : ViewT := { path := pA, k := 0, own := ⟨#[]⟩, nm := ⟨#[]⟩, to := ⟨#[]⟩, old := 0, new := 0, lv := .slice none 0 0, lines := [lF, lC] }

/-- The state with which the calls begin lies in the world. -/
def Laid (ρ : Ren) (w : World) : Prop := Rel ρ (stOf pre0 26 1) w ∧ Glob Tryz.prog ρ

theorem pre0_rel_below {ρ : Ren} {w w' : World} (h : Laid ρ w) (hb : Below w.heap.size w w') : Laid ρ w' := by
  refine ⟨⟨fun b o hb' => ?_, h.1.inj, h.1.fresh, h.1.freshk⟩, h.2⟩
  obtain ⟨B, D, O, e1, e2, e3⟩ := h.1.obj b o hb'
  exact ⟨B, D, O, e1, by rw [hb.block B (Array.getElem?_eq_some_iff.1 e2).1]; exact e2, e3⟩

theorem pre0_noW : ∀ b, ¬ (stOf pre0 26 1).hasW b := by
  rintro b ⟨o, hb, hw⟩
  have hlow : ∀ b l, (b, l) ∈ pre0 → b < lim := by
    intro b l hl
    have : (pre0.all fun x => Nat.blt x.1 lim) = true := by kernel_rfl
    exact blt_of (List.all_eq_true.1 this (b, l) hl)
  rcases putAll_get pre0 .leaf hlow b o hb with ⟨l, h1, rfl⟩ | ⟨_, hx⟩
  · have : (pre0.all fun x => !x.2.obj.wr) = true := by kernel_rfl
    have := List.all_eq_true.1 this (b, l) h1
    simp only at this hw
    rw [hw] at this
    cases this
  · cases hx

theorem cell_comm {w : World} {B i D : Nat} {V : Value} (h : w.cell? ⟨B, i + D, none⟩ = some V) : w.cell? ⟨B, D + i, none⟩ = some V := by rw [Nat.add_comm]; exact h

/-- Out of a stage's rows: the view. -/
theorem view_of {ρ' : Ren} {w' : World} {bv bl kv kl k old new iv tv il tl : Nat} {s1 s2 s3 l1 l2 : List Nat} {V : Value}
    (hv : ∃ B D O, ρ'.b bv = some (B, D) ∧ w'.heap[B]? = some O ∧ ObjRel ρ' D (LObj.row [.str [97], .int .i64 (.ofNat k), .str s1, .str s2, .str s3, .int .i64 (.ofNat old), .int .i64 (.ofNat new), .slice bl 0 2 (.sy kl 2)] true iv 8 tv).obj O)
    (hl : ∃ B D O, ρ'.b bl = some (B, D) ∧ w'.heap[B]? = some O ∧ ObjRel ρ' D (LObj.row [.str l1, .str l2] true il 1 tl).obj O)
    (hr : real ρ' (.tup [.slice bv 0 1 (.sy kv 1), .int .i64 (.ofNat 0)]) = some V) :
    ∃ b off c lv, V = .tuple #[.slice (some ⟨b, off, none⟩) 1 c, .int .i64 0] ∧ b < w'.heap.size ∧
      ViewAt w' b off { path := pA, k := (k : Int), own := strReal s1, nm := strReal s2, to := strReal s3, old := (old : Int), new := (new : Int), lv := lv, lines := [strReal l1, strReal l2] } := by
  obtain ⟨B, D, O, e1, e2, e3⟩ := hv
  obtain ⟨B2, D2, O2, f1, f2, f3⟩ := hl
  have cell : ∀ (i : Nat) (v : CV), [CV.str [97], .int .i64 (.ofNat k), .str s1, .str s2, .str s3, .int .i64 (.ofNat old), .int .i64 (.ofNat new), .slice bl 0 2 (.sy kl 2)][i]? = some v → ∃ V, real ρ' v = some V ∧ w'.cell? ⟨B, i + D, none⟩ = some V := fun i v hv => row_cells (cs := [CV.str [97], .int .i64 (.ofNat k), .str s1, .str s2, .str s3, .int .i64 (.ofNat old), .int .i64 (.ofNat new), .slice bl 0 2 (.sy kl 2)]) (by show 8 < lim; decide) e2 e3 hv
  have lcell : ∀ (i : Nat) (v : CV), [CV.str l1, .str l2][i]? = some v → ∃ V, real ρ' v = some V ∧ w'.cell? ⟨B2, i + D2, none⟩ = some V := fun i v hv => row_cells (cs := [CV.str l1, .str l2]) (by show 2 < lim; decide) f2 f3 hv
  obtain ⟨_, a0, c0⟩ := cell 0 _ rfl
  obtain ⟨_, a1, c1⟩ := cell 1 _ rfl
  obtain ⟨_, a2, c2⟩ := cell 2 _ rfl
  obtain ⟨_, a3, c3⟩ := cell 3 _ rfl
  obtain ⟨_, a4, c4⟩ := cell 4 _ rfl
  obtain ⟨_, a5, c5⟩ := cell 5 _ rfl
  obtain ⟨_, a6, c6⟩ := cell 6 _ rfl
  obtain ⟨lv, a7, c7⟩ := cell 7 _ rfl
  obtain ⟨_, b0, d0⟩ := lcell 0 _ rfl
  obtain ⟨_, b1, d1⟩ := lcell 1 _ rfl
  simp only [real, Option.some.injEq] at a0 a1 a2 a3 a4 a5 a6 b0 b1
  subst a0 a1 a2 a3 a4 a5 a6 b0 b1
  cases hkl : ρ'.k kl with
  | none => simp [real, f1, Ren.cap, hkl] at a7
  | some x =>
    simp only [real, f1, Ren.cap, hkl, Option.map_some, Option.bind_some, Option.some.injEq] at a7
    subst a7
    cases hkv : ρ'.k kv with
    | none => simp [real, reals, e1, Ren.cap, hkv] at hr
    | some y =>
      simp [real, reals, e1, Ren.cap, hkv] at hr
      subst hr
      refine ⟨B, D, 1 + y, _, rfl, (Array.getElem?_eq_some_iff.1 e2).1, by have := cell_comm c0; rwa [Nat.add_zero] at this, cell_comm c1, cell_comm c2, cell_comm c3, cell_comm c4, cell_comm c5, cell_comm c6, cell_comm c7, .inr ⟨B2, D2, 2 + x, by simp, by simp, (Array.getElem?_eq_some_iff.1 f2).1, fun i s hs => ?_⟩⟩
      match i, hs with
      | 0, hs => cases hs; exact cell_comm d0
      | 1, hs => cases hs; exact cell_comm d1

theorem argAB_real (ρ : Ren) : reals ρ intentsAB.args = some [diffV (pA, tF, tG)] := rfl
theorem argAC_real (ρ : Ren) : reals ρ hunksAC.args = some [diffV (pA, tF, wConst)] := rfl

theorem intentsAB_calls {ρ : Ren} {w : World} (h : Laid ρ w) : Calls Tryz.prog 15 #[diffV (pA, tF, tG)] w (GotOne viewAB w) := by
  have hpre : intentsAB.pre = pre0 := rfl
  have hr : Rel ρ (stOf intentsAB.pre intentsAB.nx intentsAB.nk) w := h.1
  refine (stage_calls mixed56 names56' prims1_ok (n := 199) (st := intentsAB) (by kernel_rfl) intentsAB_ok hr h.2 (argAB_real ρ)).mono ?_
  rintro e w' ⟨ρ', V', S', rfl, hv, hs, hp⟩
  obtain ⟨b, off, c, lv, rfl, hlt, hva⟩ := view_of (hp _ _ (List.mem_cons_of_mem _ (List.mem_singleton.2 rfl))) (hp _ _ List.mem_cons_self) hv
  exact ⟨b, off, c, lv, rfl, hlt, hva, hs.below_of _ (Nat.le_refl _) (fun b B D hb _ => (pre0_noW b hb).elim)⟩

theorem hunksAC_calls {ρ : Ren} {w : World} (h : Laid ρ w) : Calls Tryz.prog 16 #[diffV (pA, tF, wConst)] w (GotOne viewAC w) := by
  have hr : Rel ρ (stOf hunksAC.pre hunksAC.nx hunksAC.nk) w := h.1
  refine (stage_calls mixed56 names56' prims0_ok (n := 199) (st := hunksAC) (by kernel_rfl) hunksAC_ok hr h.2 (argAC_real ρ)).mono ?_
  rintro e w' ⟨ρ', V', S', rfl, hv, hs, hp⟩
  obtain ⟨b, off, c, lv, rfl, hlt, hva⟩ := view_of (hp _ _ (List.mem_cons_of_mem _ (List.mem_singleton.2 rfl))) (hp _ _ List.mem_cons_self) hv
  exact ⟨b, off, c, lv, rfl, hlt, hva, hs.below_of _ (Nat.le_refl _) (fun b B D hb _ => (pre0_noW b hb).elim)⟩

theorem intentsAC_calls {ρ : Ren} {w : World} (h : Laid ρ w) : Calls Tryz.prog 15 #[diffV (pA, tF, wConst)] w fun e w' => e = .returned (.tuple #[.slice none 0 0, .int .i64 0]) ∧ Below w.heap.size w w' := by
  obtain ⟨S', hc⟩ : ∃ S', callF Tryz.prog primsC 200 15 argAC (stOf pre0 26 1) = .ok (.tup [.nils, .int .i64 (.ofNat 0)]) S' := by
    have := intentsAC_none
    unfold isNone2 at this
    split at this
    · rename_i S' e
      exact ⟨S', e⟩
    · cases this
  have e : callF Tryz.prog primsC 200 15 argAC (stOf pre0 26 1) = callK (fnC Tryz.prog 15) (callF Tryz.prog primsC 199) argAC (stOf pre0 26 1) := by
    have hn : primsC 15 = none := by kernel_rfl
    show (match primsC 15 with | some p => p argAC (stOf pre0 26 1) | none => callK (fnC Tryz.prog 15) (callF Tryz.prog primsC 199) argAC (stOf pre0 26 1)) = _
    rw [hn]
  rw [e] at hc
  refine Calls.mono (fn_sound mixed56 (draw_ok Tryz.prog) (callF_ok mixed56 (draw_ok Tryz.prog) names56' primsC_ok 199) hc h.1 h.2 (L := [diffV (pA, tF, wConst)]) rfl).2 fun e w' he => ?_
  obtain ⟨ρ', V, rfl, hs, hv⟩ := he
  have hv : real ρ' (.tup [.nils, .int .i64 (.ofNat 0)]) = some V := hv
  simp [real, reals] at hv
  subst hv
  exact ⟨rfl, hs.below_of _ (Nat.le_refl _) (fun b B D hb _ => (pre0_noW b hb).elim)⟩

theorem oneAB {ρ : Ren} {w : World} (h : Laid ρ w) : OneView viewAB (pA, tF, tG) w := .inl (intentsAB_calls h)
theorem oneAC {ρ : Ren} {w : World} (h : Laid ρ w) : OneView viewAC (pA, tF, wConst) w := .inr ⟨intentsAC_calls h, fun _ hb => hunksAC_calls (pre0_rel_below h hb)⟩
end Go.Proofs

namespace Go.Proofs
open Go.RowKit Go.Ev
open Classical
set_option maxRecDepth 100000

theorem chk_one (t : ByteArray) (h : t.size ≤ 65536) : chkE [(pA, t)] = 0 := by
  refine chkE_ok (by simp) ?_ ?_ ?_
  · rintro ⟨f, hf, hb⟩
    simp only [List.mem_singleton] at hf
    subst hf
    have : pathB pA = true := by decide +kernel
    rw [this] at hb
    cases hb
  · rintro ⟨i, a, b, h1, h2, _⟩
    simp at h2
  · rintro ⟨f, hf, hb⟩
    simp only [List.mem_singleton] at hf
    subst hf
    simp only at hb
    omega
theorem chk_empty : chkE [((⟨#[]⟩ : ByteArray), (⟨#[]⟩ : ByteArray))] = 4 := by
  refine chkE_path (by simp) ⟨_, List.mem_singleton.2 rfl, ?_⟩
  decide +kernel

theorem sort_one (p : ByteArray) : sortS [p] = [p] := by
  simp [sortS]
theorem fresh_one (p s t : ByteArray) : fresh (textOf [(p, s)]) [(p, t)] = [] := by
  simp [fresh, textOf, updS]
theorem diffs_one (p s t : ByteArray) : diffs (textOf [(p, s)]) (textOf [(p, t)]) (sortS (([(p, s)] : List FileT).map (·.1) ++ fresh (textOf [(p, s)]) [(p, t)])) = if s = t then [] else [(p, s, t)] := by
  rw [fresh_one, List.append_nil, List.map_cons, List.map_nil, sort_one]
  have h1 : strD (textOf [(p, s)]) p = s := by simp [strD, textOf, updS]
  have h2 : strD (textOf [(p, t)]) p = t := by simp [strD, textOf, updS]
  unfold diffs
  simp only [List.filter_cons, h1, h2, List.filter_nil]
  by_cases e : s = t
  · simp [e]
  · simp [e, h1, h2]

theorem files_ok_one (p t : ByteArray) (hp : p.size ≤ 100) (h : t.size ≤ 65536) : FilesOK [(p, t)] := ⟨by simp, fun f hf => by simp only [List.mem_singleton] at hf; subst hf; exact ⟨by simp only; omega, by simp only; omega⟩⟩

theorem viewsAB {ρ : Ren} {w : World} (h : Laid ρ w) {va vb : Value} (ha : FilesVal w va [(pA, tF)]) (hb : FilesVal w vb [(pA, tG)]) :
    Calls Tryz.prog 9 #[va, vb] w fun e w' => ∃ g c lv, e = .returned (.tuple #[.slice (some ⟨g, 0, none⟩) 1 c, .int .i64 0]) ∧ g < w'.heap.size ∧ ViewAt w' g 0 { viewAB with lv := lv } ∧ Below w.heap.size w w' := by
  refine (views_calls viewAB va vb _ _ w ha hb (files_ok_one _ _ (by decide) (by decide)) (files_ok_one _ _ (by decide) (by decide)) (by simp) (by simp) (chk_one _ (by decide)) (chk_one _ (by decide)) _ (diffs_one _ _ _) (by split <;> simp) (fun x W hW hx => ?_)).mono ?_
  · rw [if_neg (by decide)] at hx
    simp only [List.mem_singleton] at hx
    subst hx
    exact oneAB (pre0_rel_below h hW)
  · rintro e w' ⟨res, rfl, hres, hbel⟩
    rw [if_neg (by decide)] at hres
    rcases hres with ⟨h, _⟩ | ⟨_, g, c, lv, rfl, hg, hv⟩
    · cases h
    · exact ⟨g, c, lv, rfl, hg, hv, hbel⟩

theorem viewsAC {ρ : Ren} {w : World} (h : Laid ρ w) {va vb : Value} (ha : FilesVal w va [(pA, tF)]) (hb : FilesVal w vb [(pA, wConst)]) :
    Calls Tryz.prog 9 #[va, vb] w fun e w' => ∃ g c lv, e = .returned (.tuple #[.slice (some ⟨g, 0, none⟩) 1 c, .int .i64 0]) ∧ g < w'.heap.size ∧ ViewAt w' g 0 { viewAC with lv := lv } ∧ Below w.heap.size w w' := by
  refine (views_calls viewAC va vb _ _ w ha hb (files_ok_one _ _ (by decide) (by decide)) (files_ok_one _ _ (by decide) (by decide)) (by simp) (by simp) (chk_one _ (by decide)) (chk_one _ (by decide)) _ (diffs_one _ _ _) (by split <;> simp) (fun x W hW hx => ?_)).mono ?_
  · rw [if_neg (by decide)] at hx
    simp only [List.mem_singleton] at hx
    subst hx
    exact oneAC (pre0_rel_below h hW)
  · rintro e w' ⟨res, rfl, hres, hbel⟩
    rw [if_neg (by decide)] at hres
    rcases hres with ⟨h, _⟩ | ⟨_, g, c, lv, rfl, hg, hv⟩
    · cases h
    · exact ⟨g, c, lv, rfl, hg, hv, hbel⟩

theorem viewsAA {w : World} {va vb : Value} (ha : FilesVal w va [(pA, tF)]) (hb : FilesVal w vb [(pA, tF)]) :
    Calls Tryz.prog 9 #[va, vb] w fun e w' => e = .returned (.tuple #[.slice none 0 0, .int .i64 0]) ∧ Below w.heap.size w w' := by
  refine (views_calls viewAB va vb _ _ w ha hb (files_ok_one _ _ (by decide) (by decide)) (files_ok_one _ _ (by decide) (by decide)) (by simp) (by simp) (chk_one _ (by decide)) (chk_one _ (by decide)) _ (diffs_one _ _ _) (by split <;> simp) (fun x W hW hx => ?_)).mono ?_
  · rw [if_pos rfl] at hx
    cases hx
  · rintro e w' ⟨res, rfl, hres, hbel⟩
    rw [if_pos rfl] at hres
    rcases hres with ⟨_, rfl⟩ | ⟨h, _⟩
    · exact ⟨rfl, hbel⟩
    · exact absurd rfl h

theorem views_none {w : World} {va vb : Value} (ha : FilesVal w va [((⟨#[]⟩ : ByteArray), (⟨#[]⟩ : ByteArray))]) :
    Calls Tryz.prog 9 #[va, vb] w fun e w' => e = .returned (.tuple #[.slice none 0 0, .int .i64 4]) ∧ Below w.heap.size w w' :=
  views_bad va vb _ w ha (files_ok_one _ _ (by decide) (by decide)) 4 chk_empty (by decide)

/-- A project of one file, just made. -/
theorem files_new (w : World) (p t : ByteArray) (c : Nat) : FilesVal (w.alloc (.cells #[.string p, .string t] 34)) (.slice (some ⟨w.heap.size, 0, none⟩) 1 c) [(p, t)] := by
  refine .inr ⟨w.heap.size, 0, c, rfl, by simp, fun i f hf => ?_⟩
  match i, hf with
  | 0, hf =>
    cases hf
    have := (MapKept.heap_alloc w (.cells #[.string p, .string t] 34)).1
    exact ⟨by simp only [World.cell?, this]; rfl, by simp only [World.cell?, this]; rfl⟩
end Go.Proofs
