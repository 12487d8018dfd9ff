/-
  RepoLimits: the last statement's operations. RepoLimits: the last statement.
-/
import Derived.Test.YtjaaedbbmgjppaaGreatDoorLpH
set_option linter.all false

namespace Go.Ev
open Go.Proofs Go.RowKit

noncomputable def chainF (c : OpC) : Tm → St → Option (ORes × St) := match c with
  | .chain f => f
  | _ => fun _ _ => none
noncomputable def ops18 : Array Oper := opsOf (sqL cEnd)
noncomputable def o18 (i : Nat) : Oper := ops18[i]!
theorem cEnd_eq : cEnd = .seq (.region 18 ops18 false) .ret := by kernel_rfl
theorem size18 : ops18.size = 22 := by kernel_rfl
noncomputable def seg18 (i n : Nat) : List Oper := (ops18.toList.drop i).take n
theorem seg_split (i n : Nat) : ops18.toList.drop i = seg18 i n ++ (ops18.toList.drop i).drop n := (List.take_append_drop n _).symm
noncomputable def tmM (k m : Nat) : Tm := setT 5 (.ptr 10 0) (setT 1 (.int .u16 (.ofNat m)) (setT 0 (.int .u8 (.ofNat k)) .empty))
theorem len0 : (seg18 0 1).length = 1 := by kernel_rfl
theorem len2 : (seg18 2 7).length = 7 := by kernel_rfl
theorem len9 : (seg18 9 1).length = 1 := by kernel_rfl
theorem len11 : (seg18 11 8).length = 8 := by kernel_rfl
theorem len20 : (seg18 20 2).length = 2 := by kernel_rfl
theorem free0 (k m : Nat) : freeB (tmM k m) (seg18 0 1) = true := by kernel_rfl
theorem free2 (k m : Nat) : freeB (tmM k m) (seg18 2 7) = true := by kernel_rfl
theorem free9 (k m : Nat) : freeB (tmM k m) (seg18 9 1) = true := by kernel_rfl
theorem free11 (k m : Nat) : freeB (tmM k m) (seg18 11 8) = true := by kernel_rfl
theorem free11e : freeB .empty (seg18 11 8) = true := by kernel_rfl
theorem callRes_call (call : Call) (g : FuncId) (args : List CV) (S : St) : callRes call (some (.call g args, S)) = call g args S := rfl
theorem free20 : freeB .empty (seg18 20 2) = true := by kernel_rfl
theorem at1 : ops18[1]? = some (o18 1) := by kernel_rfl
theorem at10 : ops18[10]? = some (o18 10) := by kernel_rfl
theorem at19 : ops18[19]? = some (o18 19) := by kernel_rfl
theorem dstA1 : (o18 1).dst = some 106 := by kernel_rfl
theorem dstA10 : (o18 10).dst = some 115 := by kernel_rfl
theorem dstA19 : (o18 19).dst = some 124 := by kernel_rfl
theorem opcA1 : opC Tryz.prog (o18 1).op = .chain (chainF (opC Tryz.prog (o18 1).op)) := by kernel_rfl
theorem opcA10 : opC Tryz.prog (o18 10).op = .chain (chainF (opC Tryz.prog (o18 10).op)) := by kernel_rfl
theorem opcA19 : opC Tryz.prog (o18 19).op = .chain (chainF (opC Tryz.prog (o18 19).op)) := by kernel_rfl

noncomputable def q0tm : Tm := setT 105 (.ptr 10 0) (setT 5 (.ptr 10 0) .empty)
theorem q0 : runQ Tryz.prog nt3 ops18.toList (seg18 0 1) (setT 5 (.ptr 10 0) .empty) = some q0tm := by kernel_rfl
theorem q0get : getT 105 q0tm = some (.ptr 10 0) := by kernel_rfl
theorem want1 : wantedC (guC ops18.toList (o18 1)) (setT 105 (.ptr 10 0) .empty) = some true := by kernel_rfl
theorem call1 (S : St) : chainF (opC Tryz.prog (o18 1).op) (setT 105 (.ptr 10 0) .empty) S = some (.call 9 [.ptr 10 0], S) := by kernel_rfl

noncomputable def q2run (v : CV) (k : Nat) : Option Tm := runQ Tryz.prog nt3 ops18.toList (seg18 2 7) (setT 106 v (setT 0 (.int .u8 (.ofNat k)) .empty))
noncomputable def tget (t : Nat) : Option Tm → Option CV
  | some tm => getT t tm
  | none => none
noncomputable def q2All (b : Nat) (c : Cap) : Nat → List (Option CV)
  | 0 => []
  | k + 1 => tget 113 (q2run (.slice b 0 (least (k + 1) 32) c) k) :: q2All b c k
theorem q2 (b : Nat) (c : Cap) : q2All b c 41 = List.replicate 41 (some (.bool true)) := by kernel_rfl

noncomputable def q9tm : Tm := setT 114 (.ptr 10 0) (setT 113 (.bool true) (setT 5 (.ptr 10 0) .empty))
theorem q9 : runQ Tryz.prog nt3 ops18.toList (seg18 9 1) (setT 113 (.bool true) (setT 5 (.ptr 10 0) .empty)) = some q9tm := by kernel_rfl
theorem q9get : getT 114 q9tm = some (.ptr 10 0) ∧ getT 113 q9tm = some (.bool true) := by constructor <;> kernel_rfl
noncomputable def q10tm : Tm := setT 114 (.ptr 10 0) (setT 113 (.bool true) .empty)
theorem want10 : wantedC (guC ops18.toList (o18 10)) q10tm = some true := by kernel_rfl
theorem call10 (S : St) : chainF (opC Tryz.prog (o18 10).op) q10tm S = some (.call 10 [.ptr 10 0], S) := by kernel_rfl

noncomputable def q11in (m : Nat) : Tm := setT 115 (outCV (least (m + 1) 256)) (setT 113 (.bool true) (setT 1 (.int .u16 (.ofNat m)) .empty))
noncomputable def q11run (m : Nat) : Option Tm := runQ Tryz.prog nt3 ops18.toList (seg18 11 8) (q11in m)
noncomputable def q11All : Nat → List (Option CV)
  | 0 => []
  | m + 1 => tget 123 (q11run m) :: q11All m
theorem q11 : q11All 301 = List.replicate 301 (some (.bool true)) := by kernel_rfl

theorem want19 : wantedC (guC ops18.toList (o18 19)) (setT 123 (.bool true) .empty) = some true := by kernel_rfl
theorem call19 (S : St) : chainF (opC Tryz.prog (o18 19).op) (setT 123 (.bool true) .empty) S = some (.call 5 [], S) := by kernel_rfl
theorem awakeT : isTrue (cal 5 [] S0) = true := by kernel_rfl
noncomputable def q20tm : Tm := match runQ Tryz.prog nt3 ops18.toList (seg18 20 2) (setT 124 (.bool true) (setT 123 (.bool true) .empty)) with
  | some tm => tm
  | none => .empty
theorem q20 : runQ Tryz.prog nt3 ops18.toList (seg18 20 2) (setT 124 (.bool true) (setT 123 (.bool true) .empty)) = some q20tm := by kernel_rfl
theorem q20get : getT 4 q20tm = some (.bool true) := by kernel_rfl
noncomputable def res3 : List (Tm → St → Option CV) := match resL Tryz.prog Tryz.f3.results.toList with
  | some l => l
  | none => []
theorem res3_eq : resL Tryz.prog Tryz.f3.results.toList = some res3 := by kernel_rfl
theorem res3_read (S : St) : readL res3 (setT 4 (.bool true) .empty) S = some [.bool true] := by kernel_rfl

end Go.Ev

namespace Go.Ev
open Go.Proofs Go.RowKit

theorem f4_list (x y : CV) : ∀ N, brAll x y N = brExp x y N → ∀ k, k < N → brOne x y k = (true, some (row10x x), some (map9 y (esK k) (clockK k)))
  | 0, _, k, hk => by omega
  | N + 1, h, k, hk => by
    simp only [brAll, brExp, List.cons.injEq] at h
    by_cases e : k = N
    · subst e; exact h.1
    · exact f4_list x y N h.2 k (by omega)

theorem f4_at (x y : CV) {k : Nat} (hk : k < 41) : ∃ b c S, cal 9 [.ptr 10 0] (stU x y k) = .ok (.slice b 0 (least (k + 1) 32) c) S ∧ S.heap.get 10 = some (row10x x) ∧ S.heap.get 9 = some (map9 y (esK k) (clockK k)) := by
  have h := f4_list x y 41 (f4 x y) k hk
  unfold brOne at h
  split at h
  · rename_i v S hc
    simp only [Prod.mk.injEq] at h
    obtain ⟨h1, h2, h3⟩ := h
    unfold lenIs at h1
    split at h1
    · rename_i b m c
      have := beq_of h1
      subst this
      exact ⟨b, c, S, hc, h2, h3⟩
    · cases h1
  · simp at h

theorem q2_list (b : Nat) (c : Cap) : ∀ N, q2All b c N = List.replicate N (some (.bool true)) → ∀ k, k < N → tget 113 (q2run (.slice b 0 (least (k + 1) 32) c) k) = some (.bool true)
  | 0, _, k, hk => by omega
  | N + 1, h, k, hk => by
    simp only [q2All, List.replicate_succ, List.cons.injEq] at h
    by_cases e : k = N
    · subst e; exact h.1
    · exact q2_list b c N h.2 k (by omega)

theorem q11_list : ∀ N, q11All N = List.replicate N (some (.bool true)) → ∀ m, m < N → tget 123 (q11run m) = some (.bool true)
  | 0, _, m, hm => by omega
  | N + 1, h, m, hm => by
    simp only [q11All, List.replicate_succ, List.cons.injEq] at h
    by_cases e : m = N
    · subst e; exact h.1
    · exact q11_list N h.2 m (by omega)

theorem tget_some {t : Nat} {o : Option Tm} {v : CV} (h : tget t o = some v) : ∃ tm, o = some tm ∧ getT t tm = some v := by
  unfold tget at h
  split at h
  · exact ⟨_, rfl, h⟩
  · cases h

theorem stU_get {x y : CV} {k b : Nat} {o : CObj} (h : (stU x y k).heap.get b = some o) : (b = 10 ∧ o = row10x x) ∨ (b = 9 ∧ o = map9 y (esK k) (clockK k)) := by
  have h : ((Tr.leaf.set big 9 (some (map9 y (esK k) (clockK k)))).set big 10 (some (row10x x))).get b = some o := h
  by_cases e : b = 10
  · subst e
    rw [Tr.get_set_eq _ _ _ _ (by simp [big])] at h
    exact .inl ⟨rfl, (Option.some.inj h).symm⟩
  · rw [Tr.get_set_ne _ _ _ _ _ (Ne.symm e)] at h
    by_cases e' : b = 9
    · subst e'
      rw [Tr.get_set_eq _ _ _ _ (by simp [big])] at h
      exact .inr ⟨rfl, (Option.some.inj h).symm⟩
    · rw [Tr.get_set_ne _ _ _ _ _ (Ne.symm e'), Tr.get_leaf] at h
      cases h

theorem enters10 : ∀ args w, (callFunc 10 args).run Tryz.prog w = .ok (.enter 10 args) w := enters_of Tryz.func10 (by kernel_rfl) rfl

/-- What is asked at the end. -/
def LimR (w0 : World) (e : Ending) (w' : World) : Prop := e = .returned (.bool true) ∧ Below w0.heap.size w0 w'

theorem tmM5 (k m : Nat) : getT 5 (tmM k m) = some (.ptr 10 0) := by kernel_rfl
theorem tmM1 (k m : Nat) : getT 1 (tmM k m) = some (.int .u16 (.ofNat m)) := by kernel_rfl
theorem tmM0 (k m : Nat) : getT 0 (tmM k m) = some (.int .u8 (.ofNat k)) := by kernel_rfl
theorem noM (k m : Nat) : getT 106 (tmM k m) = none ∧ getT 115 (tmM k m) = none := by constructor <;> kernel_rfl

set_option maxRecDepth 100000 in
theorem end_wp {w0 : World} {S : St} {ρ : Ren} {w : World} (h : Cfg Tryz.prog w0 S ρ w) {k m : Nat} (hk : k ≤ 40) (hm : m ≤ 300) {cb : Nat} (hr : repoAt S = some (cb, least (m + 1) 256)) (hc : commitsOk S cb (least (m + 1) 256) = true)
    {y : CV} (h9 : S.heap.get 9 = some (map9 y (esK k) (clockK k))) (hn : S.next ≤ 100000) (hnk : S.nk ≤ 10000) {a : Act} (hf : FrRel ρ nt3 (tmM k m) a) (hd : a.defers = []) :
    cEnd.wp Tryz.prog (bodyPost Tryz.prog Tryz.f3 (LimR w0)) a w := by
  obtain ⟨id, h10⟩ := repoAt_some hr
  have hsz : 126 ≤ a.tmps.size := hf.size
  rw [cEnd_eq]
  refine wp_seq (wp_region ?_)
  rw [size18]
  generalize hQ : (Exit.then (Code.ret.wp Tryz.prog (bodyPost Tryz.prog Tryz.f3 (LimR w0))) (bodyPost Tryz.prog Tryz.f3 (LimR w0))) = Q
  obtain ⟨V5, e5, t5⟩ := hf.val 5 _ (by decide) (tmM5 k m)
  -- the pointer
  show wpOps Tryz.prog ops18 Q (List.range' 0 1 ++ [1, 2, 3, 4, 5, 6, 7, 8, 9, 10, 11, 12, 13, 14, 15, 16, 17, 18, 19, 20, 21]) a w
  have k0 := ops_quiet (P := Tryz.prog) (Q := Q) (w := w) h.glob ((ops18.toList.drop 0).drop 1) [1, 2, 3, 4, 5, 6, 7, 8, 9, 10, 11, 12, 13, 14, 15, 16, 17, 18, 19, 20, 21] (seg18 0 1) 0 (seg_split 0 1) _ a ((FrRel.nought hf.size).know (by decide) e5 t5) hf (freeB_mem (free0 k m)) q0 ?_
  · rw [len0] at k0; exact k0
  intro a1 x1 f1 d1
  -- Branches
  have hU : ∀ b o, (stU (.slice cb 0 (least (m + 1) 256) (.sy id (least (m + 1) 256))) y k).heap.get b = some o → S.heap.get b = some o := fun b o e => by
    rcases stU_get e with ⟨rfl, rfl⟩ | ⟨rfl, rfl⟩
    · exact h10
    · exact h9
  obtain ⟨bb, bc, U', u1, u2, u3⟩ := f4_at (.slice cb 0 (least (m + 1) 256) (.sy id (least (m + 1) 256))) y (show k < 41 by omega)
  obtain ⟨V105, e105, t105⟩ := x1.val 105 _ (by decide) q0get
  refine op_chain (nt := nt3) calOK (h.rel.weaken hU hn hnk) h.glob at1 opcA1 want1 ((FrRel.nought x1.size).know (by decide) e105 t105) (by rw [call1, callRes_call]; exact u1) (fun ρ2 w2 V106 hs h106 => ?_)
  rw [dstA1]
  have cfg2 : Cfg Tryz.prog w0 S ρ w2 := h.back hU hs (fun b o e => by
    rcases stU_get e with ⟨rfl, rfl⟩ | ⟨rfl, rfl⟩
    · exact u2
    · exact u3)
  generalize ha2 : a1.put (some 106) V106 = a2
  have f2 : FrRel ρ2 nt3 (tmM k m) a2 := by rw [← ha2]; exact (f1.mono hs.ext).put_free (fun d e => by cases e; exact (noM k m).1) _
  have s2 : 126 ≤ a2.tmps.size := f2.size
  have t106 : a2.tmps[106]? = some V106 := by rw [← ha2]; exact put_at (by have : 126 ≤ a1.tmps.size := x1.size; omega)
  have d2 : a2.defers = [] := by rw [← ha2, put_defers, d1]; exact hd
  clear ha2
  -- how many branches
  obtain ⟨V0, e0, t0⟩ := f2.val 0 _ (by decide) (tmM0 k m)
  obtain ⟨tm2, r2, g2⟩ := tget_some (q2_list bb bc 41 (q2 bb bc) k (by omega))
  have g2glob : Glob Tryz.prog ρ2 := h.glob.mono hs.ext
  have k2 := ops_quiet (P := Tryz.prog) (Q := Q) (w := w2) g2glob ((ops18.toList.drop 2).drop 7) [9, 10, 11, 12, 13, 14, 15, 16, 17, 18, 19, 20, 21] (seg18 2 7) 2 (seg_split 2 7) _ a2 (((FrRel.nought s2).know (by decide) e0 t0).know (by decide) h106 t106) f2 (freeB_mem (free2 k m)) r2 ?_
  · rw [len2] at k2; exact k2
  intro a3 x3 f3 d3
  obtain ⟨V113, e113, t113⟩ := x3.val 113 _ (by decide) g2
  obtain ⟨V5', e5', t5'⟩ := f3.val 5 _ (by decide) (tmM5 k m)
  show wpOps Tryz.prog ops18 Q (List.range' 9 1 ++ [10, 11, 12, 13, 14, 15, 16, 17, 18, 19, 20, 21]) a3 w2
  have k9 := ops_quiet (P := Tryz.prog) (Q := Q) (w := w2) g2glob ((ops18.toList.drop 9).drop 1) [10, 11, 12, 13, 14, 15, 16, 17, 18, 19, 20, 21] (seg18 9 1) 9 (seg_split 9 1) _ a3 (((FrRel.nought x3.size).know (by decide) e5' t5').know (by decide) e113 t113) f3 (freeB_mem (free9 k m)) q9 ?_
  · rw [len9] at k9; exact k9
  intro a4 x4 f4' d4
  -- All
  obtain ⟨V114, e114, t114⟩ := x4.val 114 _ (by decide) q9get.1
  obtain ⟨V113', e113', t113'⟩ := x4.val 113 _ (by decide) q9get.2
  have e114' : real ρ (.ptr 10 0) = some V114 := by
    rw [real_mono hs.ext _ _ e5] at e114
    rw [← e114, e5]
  have hn256 : least (m + 1) 256 ≤ 256 := by
    unfold least
    cases hb : Nat.ble (m + 1) 256 with
    | true => exact ble_of hb
    | false => exact Nat.le_refl _
  refine op_call (nt := nt3) hs.rel g2glob at10 opcA10 want10 (((FrRel.nought x4.size).know (by decide) e113' t113').know (by decide) e114 t114) (call10 _) (L := [V114]) (by simp only [reals, e114, Option.bind_some, Option.map_some]) (enters10 _ _) (all_calls cfg2 hr hc hn256 e114') (fun e w3 he => ?_)
  obtain ⟨⟨ρo, V115, go, h115, rfl⟩, below3⟩ := he
  refine ⟨V115, rfl, ?_⟩
  rw [dstA10]
  generalize ha5 : a4.put (some 115) V115 = a5
  have f5' : FrRel ρ2 nt3 (tmM k m) a5 := by rw [← ha5]; exact f4'.put_free (fun d e => by cases e; exact (noM k m).2) _
  have s5 : 126 ≤ a5.tmps.size := f5'.size
  have t115 : a5.tmps[115]? = some V115 := by rw [← ha5]; exact put_at (by have : 126 ≤ a4.tmps.size := x4.size; omega)
  have t113'' : a5.tmps[113]? = some V113' := by rw [← ha5, put_other (by decide)]; exact t113'
  have d5 : a5.defers = [] := by rw [← ha5, put_defers, d4, d3]; exact d2
  clear ha5
  obtain ⟨V1, e1, t1⟩ := f5'.val 1 _ (by decide) (tmM1 k m)
  obtain ⟨tm11, r11, g11⟩ := tget_some (q11_list 301 q11 m (by omega))
  have f0 : FrRel ρo nt3 .empty a5 := FrRel.nought s5
  have k11 := ops_quiet (P := Tryz.prog) (Q := Q) (w := w3) go ((ops18.toList.drop 11).drop 8) [19, 20, 21] (seg18 11 8) 11 (seg_split 11 8) _ a5 (((f0.know (by decide) (by rw [← e1]; rfl) t1).know (by decide) (by rw [← e113']; rfl) t113'').know (by decide) h115 t115) f0 (freeB_mem free11e) r11 ?_
  · rw [len11] at k11; exact k11
  intro a6 x6 _ d6
  obtain ⟨V123, e123, t123⟩ := x6.val 123 _ (by decide) g11
  -- awake
  obtain ⟨S5, hS5⟩ := isTrue_ok awakeT
  have gl0 : Glob Tryz.prog (ren0 9 fun _ => none) := fun g hg => by rw [nglob] at hg; simp [ren0, hg]
  refine op_chain (nt := nt3) calOK (rel0 9 (fun _ => none) w3) gl0 at19 opcA19 want19 ((FrRel.nought x6.size).know (by decide) (by rw [← e123]; rfl) t123) (by rw [call19, callRes_call]; exact hS5) (fun ρ7 w7 V124 hs7 h124 => ?_)
  rw [dstA19]
  have below7 : Below w0.heap.size w0 w7 := (Own.step (fun b B D ⟨o, e⟩ => by
    have e : (Tr.leaf : Tr CObj).get b = some o := e
    rw [Tr.get_leaf] at e
    cases e) below3 below3.size hs7).2
  have t124 : (a6.put (some 124) V124).tmps[124]? = some V124 := put_at (by have : 126 ≤ a6.tmps.size := x6.size; omega)
  have t123' : (a6.put (some 124) V124).tmps[123]? = some V123 := by rw [put_other (by decide)]; exact t123
  have s7 : nt3 ≤ (a6.put (some 124) V124).tmps.size := by rw [put_size]; exact x6.size
  have f7 : FrRel ρ7 nt3 .empty (a6.put (some 124) V124) := FrRel.nought s7
  have k20 := ops_quiet (P := Tryz.prog) (Q := Q) (w := w7) (gl0.mono hs7.ext) ((ops18.toList.drop 20).drop 2) [] (seg18 20 2) 20 (seg_split 20 2) _ _ ((f7.know (by decide) (by rw [← e123]; rfl) t123').know (by decide) h124 t124) f7 (freeB_mem free20) q20 ?_
  · rw [len20] at k20; exact k20
  intro a8 x8 _ d8
  subst hQ
  show Code.ret.wp Tryz.prog (bodyPost Tryz.prog Tryz.f3 (LimR w0)) a8 w7
  refine wp_ret ?_
  obtain ⟨V4, e4, t4⟩ := x8.val 4 _ (by decide) q20get
  have hat : At Tryz.prog nt3 ρ7 (setT 4 (.bool true) .empty) S5 a8 w7 := ⟨hs7.rel, (FrRel.nought x8.size).know (by decide) e4 t4, gl0.mono hs7.ext⟩
  obtain ⟨U, v1, v2⟩ := results_run hat res3_eq (res3_read _)
  refine ⟨by rw [d8, put_defers, d6]; exact d5, U, v2, ?_, below7⟩
  have v1 : some (Value.bool true) = some U := v1
  cases v1
  rfl

end Go.Ev
