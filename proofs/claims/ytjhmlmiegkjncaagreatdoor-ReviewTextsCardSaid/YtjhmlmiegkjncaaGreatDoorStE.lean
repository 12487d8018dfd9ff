/-
  The functions told by hand are rightly told; the example's files, by the evaluator.
-/
import Derived.Test.YtjhmlmiegkjncaaGreatDoorStC
import Derived.Test.YtjhmlmiegkjncaaGreatDoorPC
import Derived.Shelf.Abstract
set_option linter.all false

namespace Go.Ev
open Go.Proofs Go.RowKit
set_option maxRecDepth 100000

theorem prims_none {P : Program} : PrimsOK P (fun _ => none) := fun _ _ h => by cases h
theorem prims_else {P : Program} {a b : Prims} (ha : PrimsOK P a) (hb : PrimsOK P b) : PrimsOK P (fun f => match a f with | some p => some p | none => b f) := by
  intro f p hp
  cases h : a f with
  | some q =>
    simp only [h, Option.some.injEq] at hp
    exact ha f p (hp ▸ h)
  | none =>
    simp only [h] at hp
    exact hb f p hp

theorem indexByte_ok : PrimOK Tryz.prog 286 indexBytePrim := indexByte_prim Tryz.func286 (by kernel_rfl) (by kernel_rfl) (by kernel_rfl) (by kernel_rfl)
theorem countString_ok : PrimOK Tryz.prog 174 countStringPrim := countString_prim Tryz.func174 (by kernel_rfl) (by kernel_rfl) (by kernel_rfl) (by kernel_rfl)
theorem noEscape_ok : PrimOK Tryz.prog 44 noEscapePrim := noEscape_prim Tryz.func44 (by kernel_rfl) (by kernel_rfl) (by kernel_rfl) (by kernel_rfl)
theorem prims0_ok : PrimsOK Tryz.prog prims0 := prims_with (prims_with (prims_with prims_none noEscape_ok) countString_ok) indexByte_ok
theorem calls0_ok : CallOK Tryz.prog (callF Tryz.prog prims0 200) := callF_ok mixed56 (draw_ok _) names56' prims0_ok 200

/-- The function that tosses. -/
theorem visit_coin : ∃ fn r0 cnd rest id ops o0 o1 o2 o3, CoinFn Tryz.prog 91 fn r0 cnd rest id ops o0 o1 o2 o3 :=
  ⟨_, _, _, _, _, _, _, _, _, _, Tryz.func91, rfl, ⟨rfl, rfl, rfl, rfl, rfl, by kernel_rfl, by kernel_rfl, by kernel_rfl, by kernel_rfl, by kernel_rfl, by kernel_rfl⟩⟩

theorem primsT_ok : PrimsOK Tryz.prog primsT := by
  obtain ⟨fn, r0, cnd, rest, id, ops, o0, o1, o2, o3, h⟩ := visit_coin
  exact prims_with prims0_ok (coin_prim mixed56 names56' (draw_ok _) prims0_ok h 200 [1, 8] 5)
theorem callsT_ok : CallOK Tryz.prog (callF Tryz.prog primsT 200) := callF_ok mixed56 (draw_ok _) names56' primsT_ok 200

theorem newFile_ok : PrimOK Tryz.prog 52 (stagesPrim [stage0, stage1]) := stages_ok _ fun st hs => by
  simp only [List.mem_cons, List.not_mem_nil, or_false] at hs
  rcases hs with rfl | rfl
  · exact ⟨rfl, stage_ok callsT_ok stage0_ok⟩
  · exact ⟨rfl, stage_ok callsT_ok stage1_ok⟩

theorem prims1_ok : PrimsOK Tryz.prog prims1 := prims_else prims0_ok (prims_with prims_none newFile_ok)

/-- parse.File, at the broken source told by hand. -/
noncomputable def fileC (args : List CV) (S : St) : CRes :=
  match args with
  | [.str s] => bif strSame s [99, 111, 110, 115, 116] then .ok (.tup [.agg [.int .i64 (.ofNat 0), .str [], .nils, .nils], .int .i64 (.ofNat 1), .int .i64 (.ofNat 5)]) S else callF Tryz.prog prims0 200 50 args S
  | _ => .fail
noncomputable def primsC : Prims := fun g => bif Nat.beq g 50 then some fileC else prims0 g

theorem strSame_eq' : ∀ {a b : List Nat}, strSame a b = true → a = b
  | [], [], _ => rfl
  | [], _ :: _, h => by cases h
  | _ :: _, [], h => by cases h
  | a :: x, b :: y, h => by
    simp only [strSame, Bool.and_eq_true] at h
    rw [beq_of h.1, strSame_eq' h.2]

theorem pfile_enters (args : Array Value) (w : World) : (callFunc 50 args).run Tryz.prog w = .ok (.enter 50 args) w := enters_of Tryz.func50 (by kernel_rfl) rfl args w

theorem fileC_ok : PrimOK Tryz.prog 50 fileC := by
  intro args S v S' ρ w L hp hr hg hL o a next Q hK
  unfold fileC at hp
  split at hp
  rotate_left
  · cases hp
  rename_i s
  cases hs : strSame s [99, 111, 110, 115, 116] with
  | false =>
    rw [hs, cond_false] at hp
    exact calls0_ok 50 _ S v S' ρ w L hp hr hg hL o a next Q hK
  | true =>
    rw [hs, cond_true] at hp
    obtain rfl := strSame_eq' hs
    cases hp
    have e : L = [.string wConst] := by
      have : reals ρ [.str [99, 111, 110, 115, 116]] = some [.string wConst] := rfl
      rw [this] at hL
      exact (Option.some.inj hL).symm
    subst e
    rw [pfile_enters, Oper.upon_enter]
    refine Calls.mono (pfile_calls w) (fun e' w' he => ?_)
    obtain ⟨rfl, hb⟩ := he
    have heap : ∀ x, x < w.heap.size → w'.heap[x]? = w.heap[x]? := fun x hx => hb.block x hx
    refine hK ρ w' _ ⟨.refl ρ, ⟨fun b o hb' => ?_, hr.inj, hr.fresh, hr.freshk⟩, Nat.le_refl _, Nat.le_refl _, fun x hx _ => heap x hx, hb.size, fun b _ D hb e _ => ⟨b, D, hb, e⟩, hb.os, hb.tape, hb.output, fun _ _ => rfl, fun b _ D hb e _ => ⟨b, D, hb, e⟩⟩ rfl
    obtain ⟨B, D, O, e1, e2, e3⟩ := hr.obj b o hb'
    exact ⟨B, D, O, e1, by rw [heap B (Array.getElem?_eq_some_iff.1 e2).1]; exact e2, e3⟩

theorem primsC_ok : PrimsOK Tryz.prog primsC := prims_with prims0_ok fileC_ok

noncomputable def argAC : List CV := [.agg [.str [97], .str [99, 111, 110, 115, 116, 32, 102, 32, 61, 32, 49, 59, 10], .str [99, 111, 110, 115, 116]]]
noncomputable def isNone2 : CRes → Bool
  | .ok (.tup [.nils, .int .i64 (.ofNat 0)]) _ => true
  | _ => false
theorem intentsAC_none : isNone2 (callF Tryz.prog primsC 200 15 argAC (stOf pre0 26 1)) = true := by kernel_rfl
end Go.Ev
