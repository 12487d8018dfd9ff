/-
  The operation copy. unsafe pointers: their conversions, unsafe.SliceData, unsafe.String (strings.Builder). clear of a map; a range over a map of which at most one entry is left at a time. Every operation of the evaluator is sound. The evaluator's statements are sound: operations in their order, conditions, blocks, loops.
-/
import Derived.Test.YtjhmlmiegkjncaaGreatDoorEvN
import Derived.Test.YtjhmlmiegkjncaaGreatDoorEvL
import Derived.Lib.UnsafeStr
import Derived.Maps.RangeRun
import Derived.LoopN
import Derived.Orders
set_option linter.all false

namespace Go.Ev

section
variable {P : Program} {o : Oper}

theorem firstCells_zero {ρ : Ren} {S : St} {w : World} {x : CV} {X : Value} (h : Has ρ S w) (size : Nat) (hx : real ρ x = some X) (hl : lenOf x = some 0) :
    (Builtin.lenOf X).run P w = .ok 0 w ∧ (Builtin.firstCells size 0 X).run P w = .ok #[] w := by
  obtain ⟨news, h1, h2⟩ := firstCells_run (P := P) (size := size) (new := []) h hx hl (by
    cases x <;> simp only [lenOf, reduceCtorEq, Option.some.injEq] at hl
    · simp [firstCells, allBytes, bytesOf]
    · rfl
    · simp [firstCells])
  have := h2 w rfl
  simp only [reals, Option.some.injEq] at h1
  subst h1
  exact this

theorem chain_copy {c : Go.Call} {t u : TypeId} {d x : Operand} {i : TyE} {e : TypeId} {ei : TyE} (hc : c.callee = .builtin .copy) (hts : c.argTypes.toList = [t, u]) (has : c.args.toList = [d, x])
    (ht : tyOf P t = some i) (hi : i.desc = .slice e) (he : tyOf P e = some ei) (ho : o.op = .call c) : ChainOK P o (copyR ei.size (opd P d) (opd P x)) := by
  intro ρ nt tm a r S S' w hf hg hr h
  have hts := types_two hts
  have has := args_two has
  have htu : P.underlying t = some (.slice e) := by obtain ⟨_, _, h2, _⟩ := tyOf_some ht; rw [h2, hi]
  obtain ⟨cs, hex⟩ := call_builtin (P := P) hc ho a w
  rw [hts, has] at hex
  have hex : (execOp a.eval o).run P w = ((Builtin.copy_ #[t, u] o.type #[a.eval d, a.eval x]).run P w).andThen fun v w' => .ok (.value v) w' := by
    rw [hex]
    simp [builtin]
  rw [hex]
  have hsz := run_sizeOf' he w
  unfold copyR at h
  split at h
  · rename_i dv xv hdv hxv
    have hdv := opd_real hf hg d dv hdv
    have hxv := opd_real hf hg x xv hxv
    split at h
    · rename_i n hl
      cases h0 : Nat.beq n 0 with
      | true =>
        rw [h0, cond_true] at h
        obtain rfl := beq_of h0
        obtain ⟨z1, z2⟩ := firstCells_zero (P := P) hr.has ei.size hxv hl
        split at h
        · cases h
          simp only [real, Option.some.injEq] at hdv
          refine ⟨ρ, w, _, Stp.refl hr, rfl, ?_⟩
          rw [← hdv]
          simp [Builtin.copy_, run_underlying htu, z1, z2, hsz, goInt]
        · cases h
          simp only [real, Option.bind_eq_some_iff, Option.map_eq_some_iff] at hdv
          obtain ⟨⟨B, D⟩, hb, C, hC, hdv⟩ := hdv
          refine ⟨ρ, w, _, Stp.refl hr, rfl, ?_⟩
          rw [← hdv]
          simp [Builtin.copy_, run_underlying htu, z1, z2, hsz, goInt, storeCells]
        · cases h
      | false =>
        rw [h0, cond_false] at h
        split at h
        · rename_i b off l cap _
          cases hle : Nat.ble n l with
          | false => rw [hle] at h; cases h
          | true =>
            rw [hle, cond_true] at h
            have hle := ble_of hle
            split at h
            · rename_i new hnew
              cases hpl : plainCells new with
              | false => rw [hpl] at h; cases h
              | true =>
                rw [hpl, cond_true] at h
                split at h
                · rename_i S2 hst
                  cases h
                  obtain ⟨news, hnr, hrun⟩ := firstCells_run (P := P) hr.has hxv hl hnew
                  obtain ⟨B', D', e1, e2, e3⟩ := storeN_run (P := P) hr hst hnr hpl
                  simp only [real, Option.bind_eq_some_iff, Option.map_eq_some_iff] at hdv
                  obtain ⟨⟨B, D⟩, hb, C, hC, hdv⟩ := hdv
                  rw [hb] at e1
                  cases e1
                  refine ⟨ρ, _, .int .i64 n, e3, rfl, ?_⟩
                  rw [← hdv]
                  have e2 := e2 w rfl
                  obtain ⟨f1, f2⟩ := hrun w rfl
                  have hmin : Nat.min n l = n := Nat.min_eq_left hle
                  simp [Builtin.copy_, run_underlying htu, f1, f2, hsz, hmin, e2, goInt]
                · cases h
            · cases h
        · cases h
    · cases h
  · cases h

end
end Go.Ev

namespace Go.Ev

section
variable {P : Program} {o : Oper}

theorem run_seenAt {w : World} {B : Nat} {cs : Array Value} {t : TypeId} {fz : Nat × Nat} (h : w.heap[B]? = some (.cells cs t fz)) (off : Nat) : (Conv.seenAt ⟨B, off, none⟩).run P w = .ok ⟨B, off, none⟩ w := by
  simp [Conv.seenAt, viewAt, World.shape?, h]

theorem run_cellsIn {w : World} {B : Nat} {cs : Array Value} {t : TypeId} {fz : Nat × Nat} (h : w.heap[B]? = some (.cells cs t fz)) : (cellsIn B).run P w = .ok (some cs.size) w := by
  simp [cellsIn, World.shape?, h]

theorem read_toUnsafe {s d u : TypeId} {x : Operand} {i j ui : TyE} (hs : tyOf P s = some i) (hi : i.desc = .pointer u) (hd : tyOf P d = some j) (hj : j.desc = .unsafePointer) (hu : tyOf P u = some ui) (h0 : ui.size ≠ 0)
    (ho : o.op = .convert s d x) : ReadOK P o (toUnsafe (opd P x)) := by
  intro ρ nt tm a v S w hf hg hh h
  have us := und_of hs
  have ud := und_of hd
  rw [hi] at us
  rw [hj] at ud
  unfold toUnsafe at h
  split at h
  · rename_i hx
    cases h
    have hX := opd_real hf hg x _ hx
    simp only [real, Option.some.injEq] at hX
    exact ⟨.pointer none, rfl, by simp [execOp, ho, convert, run_underlying us, run_underlying ud, Conv.unsafePointer, ← hX]⟩
  · rename_i b q hx
    have hX := opd_real hf hg x _ hx
    split at h
    · rename_i c sh hi0 wr id sz ty hb
      cases hlt : Nat.blt q hi0 with
      | false => rw [hlt] at h; cases h
      | true =>
        rw [hlt, cond_true] at h
        cases h
        obtain ⟨B, D, cs, t, fz, f1, f2, f3, _⟩ := row_has hh hb
        obtain ⟨_, V, _, _, g3, _⟩ := f3 q (blt_of hlt)
        have hsz : q + D < cs.size := (Array.getElem?_eq_some_iff.1 g3).1
        simp only [real, f1, Option.map_some, Option.some.injEq] at hX
        have hsz' := run_sizeOf' hu w
        refine ⟨.pointer (some ⟨B, q + D, none⟩), by simp [real, f1], ?_⟩
        have h1 := run_seenAt (P := P) f2 (q + D)
        have h2 := run_cellsIn (P := P) f2
        have h3 : ¬ cs.size ≤ q + D := by omega
        simp [execOp, ho, convert, run_underlying us, run_underlying ud, Conv.unsafePointer, ← hX, h1, h2, h3, hsz', h0]
    · cases h
  · cases h

theorem liesAt_self {u size count n : Nat} (hc : P.cellsOf u = size) (h0 : size ≠ 0) (hn : n ≤ count) : liesAt P P.depth u count 0 u n = true := by
  have hd : P.depth = (2 * (P.types.size + Made.depth) + 1) + 1 := rfl
  rw [hd]
  simp only [liesAt, Bool.or_eq_true]
  left
  rw [hd]
  simp [rowAt, hc, h0, hn, sameLayout]

theorem liesAt_bytesAt {e : TypeId} (hc : P.cellsOf e = 1) (count off n : Nat) (hn : off + n ≤ count) : liesAt P P.depth e count off e n = true := by
  have hd : P.depth = (2 * (P.types.size + Made.depth) + 1) + 1 := rfl
  rw [hd]
  simp only [liesAt, Bool.or_eq_true]
  left
  rw [hd]
  simp [rowAt, hc, hn, sameLayout, Nat.mod_one]

theorem cellsOf_ty {u : TypeId} {ui : TyE} (hu : tyOf P u = some ui) : P.cellsOf u = ui.size := by
  obtain ⟨info, h1, _, h2, _⟩ := tyOf_some hu
  simp [Program.cellsOf, h1, h2]

theorem read_fromUnsafe {s d u : TypeId} {x : Operand} {i j ui : TyE} (hs : tyOf P s = some i) (hi : i.desc = .unsafePointer) (hd : tyOf P d = some j) (hj : j.desc = .pointer u) (hu : tyOf P u = some ui) (h0 : ui.size ≠ 0)
    (ho : o.op = .convert s d x) : ReadOK P o (fromUnsafe u ui.size (opd P x)) := by
  intro ρ nt tm a v S w hf hg hh h
  have us := und_of hs
  have ud := und_of hd
  rw [hi] at us
  rw [hj] at ud
  unfold fromUnsafe at h
  split at h
  · rename_i hx
    cases h
    have hX := opd_real hf hg x _ hx
    simp only [real, Option.some.injEq] at hX
    exact ⟨.pointer none, rfl, by simp [execOp, ho, convert, run_underlying us, run_underlying ud, Conv.unsafePointer, ← hX]⟩
  · rename_i b hx
    have hX := opd_real hf hg x _ hx
    split at h
    · rename_i c sh hi0 wr id sz ty hb
      cases hlt : (Nat.beq sz 0 && Nat.beq ty (u + 1) && Nat.ble ui.size hi0) with
      | false => rw [hlt] at h; cases h
      | true =>
        rw [hlt, cond_true] at h
        cases h
        simp only [Bool.and_eq_true] at hlt
        obtain ⟨⟨k1, k2⟩, k3⟩ := hlt
        have k1 := beq_of k1
        have k2 := beq_of k2
        have k3 := ble_of k3
        obtain ⟨B, D, cs, t, fz, f1, f2, f3, f4, f5⟩ := row_has hh hb
        have hD : D = 0 := by
          rcases f4 with f4 | f4
          · exact f4.2
          · exact absurd k1 f4.1
        subst hD
        have ht : t = u := Nat.succ.inj ((f5 (by omega)).trans k2)
        subst ht
        have hc := cellsOf_ty hu
        obtain ⟨_, V, _, _, g3, _⟩ := f3 (ui.size - 1) (by omega)
        have hsz : ui.size ≤ cs.size := by have := (Array.getElem?_eq_some_iff.1 g3).1; omega
        simp only [real, f1, Option.map_some, Option.some.injEq, Nat.zero_add] at hX
        have hsz' := run_sizeOf' hu w
        refine ⟨.pointer (some ⟨B, 0, none⟩), by simp [real, f1], ?_⟩
        have h1 := run_seenAt (P := P) f2 0
        have hn : 1 ≤ cs.size / P.cellsOf t := by
          rw [hc]
          exact (Nat.le_div_iff_mul_le (by omega)).2 (by omega)
        have hl := liesAt_self (P := P) hc h0 hn
        simp [execOp, ho, convert, run_underlying us, run_underlying ud, Conv.unsafePointer, ← hX, h1, hsz', h0, variablesAt, World.shape?, f2, hl]
    · cases h
  · cases h

theorem pure_sliceData {c : Go.Call} {x : Operand} (hc : c.callee = .builtin .unsafeSliceData) (has : c.args.toList = [x]) (ho : o.op = .call c) : PureOK P o (eval1 (opd P x) sliceDataC) := by
  intro ρ nt tm a v hf hg h
  obtain ⟨u, hu, hs⟩ := eval1_some h
  have hx := opd_real hf hg x u hu
  have has := args_one has
  cases u <;> simp only [sliceDataC, reduceCtorEq, Option.some.injEq] at hs
  · subst hs
    simp only [real, Option.some.injEq] at hx
    refine ⟨.pointer none, rfl, fun w => ?_⟩
    obtain ⟨cs, e⟩ := call_builtin (P := P) hc ho a w
    rw [e, has]
    have := Go.Lib.run_unsafeSliceData_nil (P := P) w c.argTypes o.type 0 0
    simp [builtin, ← hx, this]
  · rename_i b q len cap
    cases hcp : capLe 1 cap with
    | false => rw [hcp] at hs; cases hs
    | true =>
      rw [hcp, cond_true] at hs
      cases hs
      simp only [real, Option.bind_eq_some_iff, Option.map_eq_some_iff] at hx
      obtain ⟨y, hy, C, hC, hx⟩ := hx
      have hC1 := cap_of_le hcp hC
      refine ⟨.pointer (some ⟨y.1, q + y.2, none⟩), by simp [real, hy], fun w => ?_⟩
      obtain ⟨cs, e⟩ := call_builtin (P := P) hc ho a w
      rw [e, has]
      have := Go.Lib.run_unsafeSliceData_row (P := P) w c.argTypes o.type ⟨y.1, q + y.2, none⟩ len C (by omega)
      simp [builtin, ← hx, this]

theorem chain_unsafeString {c : Go.Call} {t n' : TypeId} {x n : Operand} {i ei : TyE} {e : TypeId} (hc : c.callee = .builtin .unsafeString) (hts : c.argTypes.toList = [t, n']) (has : c.args.toList = [x, n])
    (ht : tyOf P t = some i) (hi : i.desc = .pointer e) (he : tyOf P e = some ei) (hes : ei.size = 1) (ho : o.op = .call c) : ChainOK P o (unsafeStringR e (opd P x) (opd P n)) := by
  intro ρ nt tm a r S S' w hf hg hr h
  have hts := types_two hts
  have has := args_two has
  obtain ⟨cs0, hex⟩ := call_builtin (P := P) hc ho a w
  rw [hts, has] at hex
  have hex : (execOp a.eval o).run P w = ((Builtin.unsafeString_ #[t, n'] o.type #[a.eval x, a.eval n]).run P w).andThen fun v w' => .ok (.value v) w' := by
    rw [hex]
    simp [builtin]
  rw [hex]
  have ut := und_of ht
  rw [hi] at ut
  unfold unsafeStringR at h
  split at h
  · rename_i hx hn
    cases h
    have hx := opd_real hf hg x _ hx
    have hn := opd_real hf hg n _ hn
    simp only [real, Option.some.injEq] at hx hn
    refine ⟨ρ, w, .string .empty, Stp.refl hr, by simp [real, strReal]; rfl, ?_⟩
    rw [← hx, ← hn]
    have := Go.Lib.run_unsafeString_none (P := P) w t n' o.type none
    simp only [Int.ofNat_eq_natCast, Int.natCast_zero] at this ⊢
    rw [this]
    rfl
  · rename_i b q m hx hn
    have hx := opd_real hf hg x _ hx
    have hn := opd_real hf hg n _ hn
    simp only [real, Option.some.injEq] at hn
    cases hm : Nat.beq m 0 with
    | true =>
      rw [hm, cond_true] at h
      cases h
      have hm := beq_of hm
      subst hm
      simp only [real, Option.map_eq_some_iff] at hx
      obtain ⟨y, hy, hx⟩ := hx
      refine ⟨ρ, w, .string .empty, Stp.refl hr, by simp [real, strReal]; rfl, ?_⟩
      rw [← hx, ← hn]
      have := Go.Lib.run_unsafeString_none (P := P) w t n' o.type (some ⟨y.1, q + y.2, none⟩)
      simp only [Int.ofNat_eq_natCast, Int.natCast_zero] at this ⊢
      rw [this]
      rfl
    | false =>
      rw [hm, cond_false] at h
      have hm0 : m ≠ 0 := fun e => by rw [e] at hm; cases hm
      split at h
      · rename_i cs hld
        obtain ⟨hp0, nx, nk⟩ := S
        split at h
        · rename_i S0 s h0 nx0 nk0 hby hS
          cases hS
          split at h
          · rename_i c1 sh hi0 id sz ty hb
            cases hcc : (Nat.beq ty (e + 1) && Nat.blt b lim && Nat.blt m lim) with
            | false => rw [hcc] at h; cases h
            | true =>
              rw [hcc, cond_true] at h
              cases h
              simp only [Bool.and_eq_true] at hcc
              obtain ⟨⟨k1, k2⟩, k3⟩ := hcc
              have k1 := beq_of k1
              have k2 := blt_of k2
              have k3 := blt_of k3
              obtain ⟨B, D, csr, tt, fz, f1, f2, f3, f4, f5⟩ := row_has hr.has hb
              have htt : tt = e := Nat.succ.inj ((f5 (by omega)).trans k1)
              subst htt
              obtain ⟨B', D', L, g1, g2, g3, g4, g5⟩ := loadN_run (P := P) hr.has hld
              rw [f1] at g1
              cases g1
              obtain ⟨hcs, hlt⟩ := toBytes_some hby
              have hsm : s.length = m := by rw [← g4, hcs, List.length_map]
              obtain ⟨hle, hgn⟩ : q + m ≤ hi0 ∧ getN c1 (q + sh) m = some cs := by
                unfold loadN at hld
                rw [show (St.mk hp0 nx nk).heap.get b = _ from hb] at hld
                simp only at hld
                cases hq : Nat.ble (q + m) hi0 with
                | false => rw [hq] at hld; cases hld
                | true => rw [hq, cond_true] at hld; exact ⟨ble_of hq, hld⟩
              have hgs := getN_some hgn
              have hcell : ∀ j v, s[j]? = some v → csr[q + D + j]? = some (.int .u8 (.ofNat v)) ∧ v < 256 := by
                intro j v hv
                have hj : j < m := by rw [← hsm]; exact (List.getElem?_eq_some_iff.1 hv).1
                obtain ⟨u, V, a1, a2, a3, _⟩ := f3 (q + j) (by omega)
                have := hgs.2 j hj
                rw [show q + sh + j = q + j + sh by omega, a1, hcs, List.getElem?_map, hv] at this
                simp only [Option.map_some, Option.some.injEq] at this
                subst this
                simp only [real, Option.some.injEq] at a2
                subst a2
                exact ⟨by rw [show q + D + j = q + j + D by omega]; exact a3, hlt v (List.mem_of_getElem? hv)⟩
              have hsize : q + D + m ≤ csr.size := by
                obtain ⟨u, V, _, _, a3, _⟩ := f3 (q + (m - 1)) (by omega)
                have := (Array.getElem?_eq_some_iff.1 a3).1
                omega
              have hce := cellsOf_ty he
              rw [hes] at hce
              have hlb := Go.Lib.run_loadBytes (P := P) w (s.map UInt8.ofNat) ⟨B, q + D, none⟩ .empty (fun j y hy => by
                rw [List.getElem?_map, Option.map_eq_some_iff] at hy
                obtain ⟨v, hv, rfl⟩ := hy
                obtain ⟨a1, a2⟩ := hcell j v hv
                rw [Addr.add_lit]
                simp only [World.cell?, f2]
                simp only [Option.isSome_none, Bool.false_eq_true, if_false, a1]
                simp [UInt8.toNat_ofNat', Nat.mod_eq_of_lt a2])
              rw [List.length_map, hsm] at hlb
              have hlies := liesAt_bytesAt (P := P) hce (csr.size / P.cellsOf tt) (q + D) m (by rw [hce]; simpa using hsize)
              simp only [real, f1, Option.map_some, Option.some.injEq] at hx
              refine ⟨ρ, w.freeze ⟨B, q + D, none⟩ m, .string (strReal s), ?_, rfl, ?_⟩
              · have hfr : (w.freeze ⟨B, q + D, none⟩ m) = { w with heap := w.heap.modify B fun
                    | .cells c elem (lo, hi) => .cells c elem (if lo == hi then (q + D, q + D + m) else (min lo (q + D), max hi (q + D + m)))
                    | o => o } := by
                  unfold World.freeze
                  rw [if_neg hm0]
                  rfl
                obtain ⟨lo, up⟩ := fz
                refine Stp.write (S := ⟨hp0, nx, nk⟩) hr ⟨_, hb, rfl⟩ f1 k2 (O' := .cells csr tt (if lo == up then (q + D, q + D + m) else (min lo (q + D), max up (q + D + m)))) ?_ ⟨fun i' hi' => ?_, ?_, f5⟩ (fun k hk => ?_) ?_ ?_ ?_ ?_
                · rw [hfr]
                  simp only [Array.getElem?_modify]
                  rw [if_pos trivial, f2]
                  rfl
                · obtain ⟨u, V, a1, a2, a3, _⟩ := f3 i' hi'
                  exact ⟨u, V, a1, a2, a3, fun h => by cases h⟩
                · rcases f4 with f4 | ⟨b1, y, b2, b3⟩
                  · exact .inl f4
                  · exact .inr ⟨b1, y, b2, fun j hj => ⟨(b3 j hj).1, fun h => by cases h⟩⟩
                · rw [hfr]
                  simp only [Array.getElem?_modify]
                  rw [if_neg (fun e => hk e.symm)]
                · rw [hfr]; simp
                · rw [hfr]
                · rw [hfr]
                · rw [hfr]
              · obtain ⟨e1, e2, e3, hdef⟩ : ∃ e1 e2 e3, Builtin.unsafeString_ #[t, n'] o.type #[.pointer (some ⟨B, q + D, none⟩), .int .i64 (.ofNat m)] =
                    (do
                      let n ← asInt (.int .i64 (.ofNat m))
                      if n < 0 then runtimePanic e1
                      if n > IntKind.i64.max then unsupported e2
                      if n = 0 then pure (.string .empty)
                      else if ← variablesAt ⟨B, q + D, none⟩ (← elemOf t) n.toNat then do
                        let s ← loadBytes ⟨B, q + D, none⟩ .empty n.toNat
                        freeze ⟨B, q + D, none⟩ n.toNat
                        pure (.string s)
                      else unsupported e3) := ⟨_, _, _, rfl⟩
                rw [← hx, ← hn, hdef]
                have hmax : IntKind.i64.max = 9223372036854775807 := rfl
                have hneg : ¬ (m : Int) < 0 := by omega
                have h63 : ¬ (9223372036854775807 : Int) < (m : Int) := by unfold lim at k3; omega
                have hsr : (⟨ByteArray.empty.data ++ (s.map UInt8.ofNat).toArray⟩ : ByteArray) = strReal s := by
                  apply ByteArray.ext
                  simp [strReal]
                rw [hsr] at hlb
                simp [asInt, asIntOf, hmax, h63, hneg, hm0, variablesAt, World.shape?, f2, elemOf, run_underlying ut, hlies, hlb]
          · cases h
        · cases h
      · cases h
  · cases h

end
end Go.Ev

namespace Go.Ev
open Go.ChangeMaps (setBlock)

/-- Another world with the same heap. -/
theorem StpB.alike {N : Nat} {ρ ρ' : Ren} {S S' : St} {w w' w2 : World} (h : StpB N ρ S w ρ' S' w') (e : w2.heap = w'.heap) (h1 : w2.os = w'.os) (h2 : w2.tape = w'.tape) (h3 : w2.output = w'.output) : StpB N ρ S w ρ' S' w2 :=
  ⟨h.ext, h.rel.heap e, h.next, h.nk, fun x hx hn => by rw [e]; exact h.keep x hx hn, by rw [e]; exact h.size, h.dom, h1.trans h.os, h2.trans h.tape, h3.trans h.output, h.old, h.domW⟩

section
variable {P : Program} {o : Oper}

theorem chain_clear {c : Go.Call} {t : TypeId} {x : Operand} {i : TyE} {kt et : TypeId} (hc : c.callee = .builtin .clear) (hts : c.argTypes.toList = [t]) (has : c.args.toList = [x])
    (ht : tyOf P t = some i) (hi : i.desc = .map kt et) (ho : o.op = .call c) : ChainOK P o (clearR (opd P x)) := by
  intro ρ nt tm a r S S' w hf hg hr h
  obtain ⟨hp0, nx, nk⟩ := S
  have hts := types_one hts
  have has : c.args = #[x] := by apply Array.ext'; simpa using has
  obtain ⟨cs, hex⟩ := call_builtin (P := P) hc ho a w
  rw [hts, has] at hex
  have hex : (execOp a.eval o).run P w = ((Builtin.clear_ #[t] o.type #[a.eval x]).run P w).andThen fun v w' => .ok (.value v) w' := by
    rw [hex]
    simp [builtin]
  have hun := run_underlying' ht w
  rw [hi] at hun
  unfold clearR at h
  split at h
  · rename_i S0 h0 nx0 nk0 hq hS
    cases hS
    have hq := opd_real hf hg x _ hq
    cases h
    simp only [real, Option.some.injEq] at hq
    refine ⟨ρ, w, .tuple #[], Stp.refl hr, by simp [real, reals], ?_⟩
    rw [hex, ← hq]
    simp [Builtin.clear_, hun]
  · rename_i S0 R0 h0 nx0 nk0 hq hS
    cases hS
    have hq := opd_real hf hg x _ hq
    split at h
    · rename_i es clock hes
      cases hlt : Nat.blt R0 lim with
      | false => rw [hlt] at h; cases h
      | true =>
        rw [hlt, cond_true] at h
        cases h
        obtain ⟨R, l, e1, e2, e3⟩ := map_obj hr.has hes
        simp only [real, e1, Option.map_some, Option.some.injEq] at hq
        refine ⟨ρ, _, .tuple #[], Stp.setObj hr hes e1 (blt_of hlt) e2 (O' := .map #[] clock) ⟨rfl, rfl, [], rfl, rfl, fun i e h => by simp at h⟩, by simp [real, reals], ?_⟩
        rw [hex, ← hq]
        simp [Builtin.clear_, hun, run_getMap e2, run_setMap e2]
    · cases h
  · cases h

theorem chain_rangeMap {t : TypeId} {x : Operand} {i : TyE} {kt et : TypeId} (ht : tyOf P t = some i) (hi : i.desc = .map kt et) (ho : o.op = .range t x) : ChainOK P o (rangeMapR (opd P x)) := by
  intro ρ nt tm a r S S' w hf hg hr h
  obtain ⟨hp0, nx, nk⟩ := S
  have hun := run_underlying' ht w
  rw [hi] at hun
  unfold rangeMapR at h
  split at h
  · rename_i S0 h0 nx0 nk0 hq hS
    cases hS
    have hq := opd_real hf hg x _ hq
    cases hlt : Nat.blt nx lim with
    | false => rw [hlt] at h; cases h
    | true =>
      rw [hlt, cond_true] at h
      cases h
      simp only [real, Option.some.injEq] at hq
      refine ⟨_, w.alloc (.mapIter none 0 #[] 0), .pointer (some ⟨w.heap.size, 0, none⟩), Stp.alloc hr (O := .mapIter none 0 #[] 0) ⟨rfl, rfl, rfl, rfl, rfl⟩ (blt_of hlt) rfl rfl rfl rfl, by simp [real, Ren.extb], ?_⟩
      simp [execOp, ho, Instr.range, hun, ← hq]
  · rename_i S0 R0 h0 nx0 nk0 hq hS
    cases hS
    have hq := opd_real hf hg x _ hq
    split at h
    · rename_i es clock hes
      cases hlt : Nat.blt nx lim with
      | false => rw [hlt] at h; cases h
      | true =>
        rw [hlt, cond_true] at h
        cases h
        obtain ⟨R, l, e1, e2, e3⟩ := map_obj hr.has hes
        simp only [real, e1, Option.map_some, Option.some.injEq] at hq
        refine ⟨_, w.alloc (.mapIter (some R) clock #[] clock), .pointer (some ⟨w.heap.size, 0, none⟩), Stp.alloc hr (O := .mapIter (some R) clock #[] clock) ⟨rfl, ⟨R, e1, rfl⟩, rfl, rfl, rfl⟩ (blt_of hlt) rfl rfl rfl rfl, by simp [real, Ren.extb], ?_⟩
        simp [execOp, ho, Instr.range, hun, ← hq, run_getMap e2]
    · cases h
  · cases h

theorem seenB_eq (b : Nat) : ∀ l : List Nat, seenB b l = l.contains b
  | [] => rfl
  | x :: l => by
    simp only [seenB, List.contains_cons, seenB_eq b l]
    congr 1
    cases h : Nat.beq b x with
    | true => rw [beq_of h]; simp
    | false =>
      have : b ≠ x := fun e => by rw [e, Nat.beq_refl] at h; cases h
      simp [this]

theorem notSeen_run {ρ : Ren} {seen : List Nat} : ∀ (es : List (CV × CV × Nat)) (l : List (Value × Value × Nat)), Ents ρ es l → Ents ρ (notSeen seen es) (l.filter fun e => !seen.contains e.2.2)
  | [], l, he => by
    have : l = [] := List.length_eq_zero_iff.1 he.1
    subst this
    exact he
  | (k, v, b) :: es, l, he => by
    obtain ⟨e', l', rfl, a1, a2, a3, he'⟩ := he.tail
    have ih := notSeen_run (seen := seen) es l' he'
    simp only at a3
    subst a3
    simp only [notSeen, seenB_eq]
    cases hb : seen.contains e'.2.2 with
    | true =>
      rw [cond_true, List.filter_cons_of_neg (by simp only [hb]; decide)]
      exact ih
    | false =>
      rw [cond_false, List.filter_cons_of_pos (by simp only [hb]; decide)]
      exact ih.cons a1 a2 rfl

theorem left_list (l : List (Value × Value × Nat)) (seen : List Nat) : (leftOf (l.map entryOf).toArray seen.toArray).toList = (l.filter fun e => !seen.contains e.2.2).map entryOf := by
  unfold leftOf
  rw [Array.toList_filter]
  induction l with
  | nil => rfl
  | cons e l ih =>
    simp only [List.map_cons, List.filter_cons]
    simp only [entryOf, List.contains_toArray]
    split <;> simp_all [entryOf]

theorem bornBelow_run {ρ : Ren} {n : Nat} : ∀ (es : List (CV × CV × Nat)) (l : List (Value × Value × Nat)), bornBelow n es = true → Ents ρ es l → ∀ e, e ∈ l → e.2.2 < n
  | [], l, _, he, e, h => by
    have : l = [] := List.length_eq_zero_iff.1 he.1
    subst this
    cases h
  | (k, v, b) :: es, l, hb, he, e, h => by
    obtain ⟨e', l', rfl, a1, a2, a3, he'⟩ := he.tail
    simp only [bornBelow, Bool.and_eq_true] at hb
    rcases List.mem_cons.1 h with rfl | h
    · have := blt_of hb.1
      simp only at a3
      omega
    · exact bornBelow_run es l' hb.2 he' e h

theorem miter_obj {ρ : Ren} {S : St} {w : World} (h : Has ρ S w) {r : Nat} {m : Option Nat} {since last : Nat} {seen : List Nat} (hr : S.heap.get r = some (.miter m since seen last)) :
    ∃ R m', ρ.b r = some (R, 0) ∧ w.heap[R]? = some (.mapIter m' since seen.toArray last) ∧ (match (generalizing := false) m with | none => m' = none | some q => ∃ Q, ρ.b q = some (Q, 0) ∧ m' = some Q) := by
  obtain ⟨B, D, O, h1, h2, h3⟩ := h r _ hr
  cases O with
  | mapIter m' since' seen' last' =>
    obtain ⟨rfl, e1, rfl, rfl, rfl⟩ := h3
    exact ⟨B, m', h1, h2, e1⟩
  | _ => exact h3.elim

theorem chain_nextMap {it : Operand} (ho : o.op = .next it false) : ChainOK P o (nextMapR (opd P it)) := by
  intro ρ nt tm a r S S' w hf hg hr h
  obtain ⟨hp0, nx, nk⟩ := S
  unfold nextMapR at h
  split at h
  · rename_i S0 r0 h0 nx0 nk0 hq hS
    cases hS
    have hq := opd_real hf hg it _ hq
    split at h
    · rename_i since seen last hit
      cases h
      obtain ⟨R, m', e1, e2, rfl⟩ := miter_obj hr.has hit
      simp only [real, e1, Option.map_some, Option.some.injEq, Nat.add_zero] at hq
      refine ⟨ρ, w, .tuple #[.bool false], Stp.refl hr, by simp [real, reals], ?_⟩
      have hget : (getObj R).run P w = .ok (.mapIter none since seen.toArray last) w := by simp [getObj, Sem.run, e2]
      simp [execOp, ho, Instr.next, ← hq, hget]
    · rename_i m since seen last hit
      obtain ⟨R, m', e1, e2, Q, e3, rfl⟩ := miter_obj hr.has hit
      simp only [real, e1, Option.map_some, Option.some.injEq, Nat.add_zero] at hq
      split at h
      · rename_i es clock hes
        obtain ⟨Q', l, f1, f2, f3⟩ := map_obj hr.has hes
        rw [e3] at f1
        cases f1
        cases hc : (bornBelow since es && Nat.ble since last && Nat.blt r0 lim) with
        | false => rw [hc] at h; cases h
        | true =>
          rw [hc, cond_true] at h
          simp only [Bool.and_eq_true] at hc
          have hold : ∀ x ∈ ((l.map entryOf).toArray).toList, x.born < since := by
            intro x hx
            obtain ⟨e, he, rfl⟩ := List.mem_map.1 (show x ∈ l.map entryOf from hx)
            exact bornBelow_run es l hc.1.1 f3 e he
          have hleft := notSeen_run (seen := seen) es l f3
          have hll := left_list l seen
          have hstep := run_next_at (P := P) w o.type R Q since last seen.toArray (l.map entryOf).toArray clock e2 f2 hold (ble_of hc.1.2)
          split at h
          · rename_i hnone
            cases h
            rw [hnone] at hleft
            have hz : (l.filter fun e => !seen.contains e.2.2) = [] := List.length_eq_zero_iff.1 hleft.1
            rw [hz] at hll
            rcases hstep with ⟨_, hrun⟩ | ⟨e, he, _⟩
            · refine ⟨ρ, w, .tuple #[.bool false], Stp.refl hr, by simp [real, reals], ?_⟩
              simp only [execOp, ho, ← hq, Sem.run_bind, hrun, Result.andThen_ok, Sem.run_pure]
            · rw [hll] at he; cases he
          · rename_i k v b hone
            cases h
            rw [hone] at hleft
            obtain ⟨e', l', hl', a1, a2, a3, he'⟩ := hleft.tail
            have hnil : l' = [] := List.length_eq_zero_iff.1 he'.1
            subst hnil
            rw [hl'] at hll
            rcases hstep with ⟨h0, _⟩ | ⟨e, he, w1, hw1, hrun⟩
            · exfalso
              have := congrArg List.length hll
              rw [Array.length_toList, h0] at this
              simp at this
            · rw [hll] at he
              simp only [List.map_cons, List.map_nil, List.mem_singleton] at he
              subst he
              simp only at a3
              subst a3
              have hstp := Stp.setObj hr hit e1 (blt_of hc.2) e2 (o' := .miter (some m) since (seen ++ [e'.2.2]) clock) (O' := .mapIter (some Q) since (seen.toArray.push e'.2.2) clock) ⟨rfl, ⟨Q, e3, rfl⟩, rfl, by simp, rfl⟩
              have hstp2 : Stp ρ ⟨hp0, nx, nk⟩ w ρ ⟨hp0.set big r0 (some (.miter (some m) since (seen ++ [e'.2.2]) clock)), nx, nk⟩ (setBlock w1 R (.mapIter (some Q) since (seen.toArray.push e'.2.2) clock)) := by
                rcases hw1 with rfl | rfl
                · exact hstp
                · exact hstp.alike rfl rfl rfl rfl
              refine ⟨ρ, _, .tuple #[.bool true, e'.1, e'.2.1], hstp2, by simp [real, reals, a1, a2], ?_⟩
              simp only [execOp, ho, ← hq, Sem.run_bind, hrun, Result.andThen_ok, Sem.run_pure]
              rfl
          · cases h
      · cases h
    · cases h
  · cases h

theorem findBorn_run {ρ : Ren} {b : Nat} : ∀ (es : List (CV × CV × Nat)) (l : List (Value × Value × Nat)) (k v : CV), findBorn b es = some (k, v) → Ents ρ es l → ∃ e', real ρ k = some e'.1 ∧ real ρ v = some e'.2.1 ∧ (l.map entryOf).find? (fun x => x.born == b) = some (entryOf e')
  | [], l, k, v, h, he => by simp [findBorn] at h
  | (k', v', b') :: es, l, k, v, h, he => by
    obtain ⟨e', l', rfl, a1, a2, a3, he'⟩ := he.tail
    simp only at a3
    subst a3
    simp only [findBorn] at h
    cases hb : Nat.beq e'.2.2 b with
    | true =>
      rw [hb, cond_true] at h
      cases h
      refine ⟨e', a1, a2, ?_⟩
      rw [List.map_cons, List.find?_cons_of_pos (by simp only [entryOf]; rw [beq_of hb]; simp)]
    | false =>
      rw [hb, cond_false] at h
      obtain ⟨x, c1, c2, c3⟩ := findBorn_run es l' k v h he'
      refine ⟨x, c1, c2, ?_⟩
      rw [List.map_cons, List.find?_cons_of_neg (by
        simp only [entryOf, beq_iff_eq]
        intro e
        rw [e, Nat.beq_refl] at hb
        cases hb)]
      exact c3

theorem read_entryMap {it : Operand} (ho : o.op = .entry it) : ReadOK P o (entryMapR (opd P it)) := by
  intro ρ nt tm a v S w hf hg hh h
  unfold entryMapR at h
  split at h
  · rename_i r0 hq
    have hq := opd_real hf hg it _ hq
    split at h
    · rename_i m since seen last hit
      obtain ⟨R, m', e1, e2, Q, e3, rfl⟩ := miter_obj hh hit
      simp only [real, e1, Option.map_some, Option.some.injEq, Nat.add_zero] at hq
      split at h
      · rename_i es clock b hes hlast
        obtain ⟨Q', l, f1, f2, f3⟩ := map_obj hh hes
        rw [e3] at f1
        cases f1
        cases hc : Nat.beq clock last with
        | false => rw [hc] at h; cases h
        | true =>
          rw [hc, cond_true] at h
          obtain rfl := beq_of hc
          split at h
          · rename_i k u hfb
            cases h
            obtain ⟨e', a1, a2, a3⟩ := findBorn_run es l k u hfb f3
            refine ⟨.tuple #[e'.1, e'.2.1], by simp [real, reals, a1, a2], ?_⟩
            have hget : (getObj R).run P w = .ok (.mapIter (some Q) since seen.toArray clock) w := by simp [getObj, Sem.run, e2]
            have hback : seen.toArray.back? = some b := by rw [List.back?_toArray]; exact hlast
            have hfind : (l.map entryOf).toArray.find? (fun x => x.born == b) = some (entryOf e') := by rw [List.find?_toArray]; exact a3
            simp only [execOp, ho, Instr.entry, ← hq, Sem.run_bind, hget, Result.andThen_ok, hback, run_getMap f2, bne_self_eq_false, Bool.false_eq_true, if_false, hfind]
            rfl
          · cases h
      · cases h
    · cases h
  · cases h

end
end Go.Ev

namespace Go.Ev

def OpOK (P : Program) (o : Oper) : OpC → Prop
  | .pure f => PureOK P o f
  | .read f => ReadOK P o f
  | .new f => NewOK P o f
  | .chain f => ChainOK P o f
  | .bad => True

section
variable {P : Program} {o : Oper}

theorem ok_if {c : Bool} {X : OpC} (h : c = true → OpOK P o X) : OpOK P o (bif c then X else .bad) := by
  cases c with
  | true => exact h rfl
  | false => trivial
theorem ok_unless {c : Bool} {X : OpC} (h : c = false → OpOK P o X) : OpOK P o (bif c then .bad else X) := by
  cases c with
  | true => trivial
  | false => exact h rfl
theorem ok_ite {c : Bool} {X Y : OpC} (h : c = true → OpOK P o X) (h' : c = false → OpOK P o Y) : OpOK P o (bif c then X else Y) := by
  cases c with
  | true => exact h rfl
  | false => exact h' rfl

theorem nat_beq_no {n m : Nat} (h : Nat.beq n m = false) : n ≠ m := by
  intro e
  subst e
  rw [Nat.beq_refl] at h
  cases h

theorem builtinC_ok {c : Go.Call} {b : Builtin} (hc : c.callee = .builtin b) (ho : o.op = .call c) : OpOK P o (builtinC P b c.argTypes.toList c.args.toList) := by
  unfold builtinC
  split
  · rename_i t x hts has
    split
    · trivial
    · rename_i i hi
      split
      · rename_i hd
        exact pure_len (k := .str) hc hts has hi (by rw [hd]; trivial) ho
      · rename_i hd
        exact pure_len (k := .sl) hc hts has hi (by rw [hd]; trivial) ho
      · rename_i n e hd
        exact pure_len (k := .arr n) hc hts has hi (by rw [hd]; rfl) ho
      · rename_i hd
        exact read_lenMap hc hts has hi hd ho
      · trivial
  · rename_i t u s x hts has
    split
    · rename_i i j hi hj
      split
      · trivial
      · rename_i d e hd hn
        split
        · rename_i ei z hei hz
          refine ok_if fun hb => ?_
          simp only [Bool.and_eq_true] at hb
          exact chain_append hc hts has hi ‹_› hj (fun k hk => by first | exact hn k hk | exact hd k hk) hei hz (beq_of hb.1) (blt_of hb.2) ho
        · trivial
      · trivial
    · trivial
  · rename_i t x hts has
    split
    · rename_i i hi
      split
      · rename_i hd
        exact chain_clear hc hts has hi hd ho
      · trivial
    · trivial
  · rename_i x has
    exact pure_sliceData hc has ho
  · rename_i t n' x n hts has
    split
    · rename_i i hi
      split
      · rename_i e hd
        split
        · rename_i ei hei
          split
          · exact ok_if fun h => chain_unsafeString hc hts has hi hd hei (beq_of h) ho
          · trivial
        · trivial
      · trivial
    · trivial
  · rename_i t u d x hts has
    split
    · rename_i i hi
      split
      · rename_i e hd
        split
        · rename_i ei hei
          exact chain_copy hc hts has hi hd hei ho
        · trivial
      · trivial
    · trivial
  · rename_i x y has
    exact pure_min hc has ho
  · rename_i x y has
    exact pure_max hc has ho
  · rename_i x y z has
    exact pure_max3 hc has ho
  · trivial

theorem opC_ok (P : Program) (o : Oper) : OpOK P o (opC P o.op) := by
  cases ho : o.op
  case move x => exact pure_move ho
  case assign x => exact pure_assign ho
  case pick c x y => exact pure_pick ho
  case alloc t =>
    simp only [opC]
    split
    · rename_i z hz
      exact ok_if fun h => new_alloc hz (blt_of h) ho
    · trivial
  case box t x => exact new_box ho
  case build t ps =>
    simp only [opC]
    split
    · rename_i i z hi hz
      split
      · rename_i fields hd
        split
        · rename_i pl hpl
          split
          · rename_i l hl
            exact pure_buildStruct hi hz hd hpl hl ho
          · trivial
        · trivial
      · rename_i n e hd
        split
        · rename_i ei hei
          split
          · rename_i l hl
            exact pure_buildArr hi hz hd hei hl ho
          · trivial
        · trivial
      · trivial
    · trivial
  case buildSlice t len ps =>
    simp only [opC]
    split
    · rename_i i hi
      split
      · rename_i e hd
        split
        · rename_i ei hei
          split
          · rename_i l hl
            refine ok_ite (fun h0 => ?_) (fun h0 => ?_)
            · exact new_buildSlice hi hd hei hl (.inl ⟨beq_of h0, rfl⟩) ho
            · split
              · rename_i z hz
                refine ok_if fun h => ?_
                simp only [Bool.and_eq_true] at h
                exact new_buildSlice hi hd hei hl (.inr ⟨nat_beq_no h0, ble_of h.1, z, hz, beq_of h.2, rfl⟩) ho
              · trivial
          · trivial
        · trivial
      · trivial
    · trivial
  case load t a =>
    simp only [opC]
    split
    · rename_i i hi
      exact read_load hi ho
    · trivial
  case store t a x =>
    simp only [opC]
    split
    · rename_i i hi
      exact chain_store hi ho
    · trivial
  case nilCheck x => exact pure_nilCheck ho
  case binOp op t x y t' =>
    simp only [opC]
    split
    · rename_i i hi
      split
      · rename_i k f hd hf
        exact pure_binInt hf ho
      · rename_i ms hd
        exact ok_if fun h => pure_ifNilR hi hd h ho
      · refine ok_unless fun h => ?_
        refine pure_binC (fun he j hj hagg => ?_) ho
        rw [hi] at hj
        cases hj
        rw [he, hagg] at h
        simpa using h
    · trivial
  case unOp op t x =>
    cases op
    case not => exact pure_not ho
    case neg => exact pure_neg ho
    all_goals trivial
  case convert s t x =>
    simp only [opC]
    split
    · rename_i i j hi hj
      split
      · rename_i hd hd'
        exact pure_convInt hi hj hd hd' ho
      · rename_i hd hd'
        exact pure_convStr hi hj hd hd' ho
      · rename_i u hd hd'
        split
        · rename_i ui hu
          exact ok_unless fun h => read_toUnsafe hi hd hj hd' hu (nat_beq_no h) ho
        · trivial
      · rename_i u hd hd'
        split
        · rename_i ui hu
          exact ok_unless fun h => read_fromUnsafe hi hd hj hd' hu (nat_beq_no h) ho
        · trivial
      · rename_i e hd hd'
        split
        · rename_i k hk
          split
          · rename_i hk'
            exact chain_strToBytes hi hj hd hd' hk hk' ho
          · trivial
        · trivial
      · rename_i e hd hd'
        split
        · rename_i k hk
          split
          · rename_i hk'
            exact read_bytesToStr hi hj hd hd' hk hk' ho
          · trivial
        · trivial
      · trivial
    · trivial
  case makeInterface t x =>
    simp only [opC]
    split
    · rename_i i hi
      split
      · trivial
      · rename_i hd
        exact pure_mkIface hi (fun ms h => hd ms h) ho
    · trivial
  case makeFunc f fi ca =>
    cases f
    case func f => exact pure_mkFunc ho
    all_goals trivial
  case makeMap t r =>
    cases r
    case none => exact new_makeMap ho
    case some => trivial
  case makeSlice t l c =>
    simp only [opC]
    split
    · rename_i i hi
      split
      · rename_i e hd
        split
        · rename_i ei hei
          refine ok_unless fun h0 => ?_
          split
          · rename_i z hz
            exact ok_if fun h => new_makeSlice hi hd hei hz (beq_of h) (nat_beq_no h0) ho
          · trivial
        · trivial
      · trivial
    · trivial
  case slice t x lo hi mx =>
    simp only [opC]
    split
    · rename_i i hi
      split
      · rename_i hd
        exact pure_sliceStr hi hd ho
      · rename_i e hd
        split
        · rename_i ei hei
          exact pure_sliceSl hi hd hei ho
        · trivial
      · rename_i n e hd
        split
        · rename_i ei hei
          exact pure_sliceArr hi hd hei ho
        · trivial
      · trivial
    · trivial
  case fieldAddr t x f =>
    simp only [opC]
    split
    · rename_i i hi
      split
      · rename_i fields hd
        split
        · rename_i fd hfd
          split
          · rename_i fi hfi
            exact ok_unless fun h => pure_fieldAddr hi hd hfd hfi (nat_beq_no h) ho
          · trivial
        · trivial
      · trivial
    · trivial
  case field t x f =>
    simp only [opC]
    split
    · rename_i i hi
      split
      · rename_i fields hd
        split
        · rename_i fd hfd
          split
          · rename_i fi hfi
            exact pure_field hi hd hfd hfi ho
          · trivial
        · trivial
      · trivial
    · trivial
  case indexAddr t x ix =>
    simp only [opC]
    split
    · rename_i i hi
      split
      · rename_i n e hd
        split
        · rename_i ei hei
          exact pure_indexAddrArr hi hd hei ho
        · trivial
      · rename_i e hd
        split
        · rename_i ei hei
          exact pure_indexAddrSl hi hd hei ho
        · trivial
      · trivial
    · trivial
  case index t x ix =>
    simp only [opC]
    split
    · rename_i i hi
      split
      · rename_i n e hd
        split
        · rename_i ei hei
          exact pure_indexArr hi hd hei ho
        · trivial
      · rename_i hd
        exact pure_indexStr hi hd ho
      · trivial
    · trivial
  case lookup t x k ok =>
    simp only [opC]
    split
    · rename_i i hi
      split
      · rename_i kt et hd
        split
        · rename_i ki z hki hz
          exact read_lookup hi hd hki hz ho
        · trivial
      · trivial
    · trivial
  case mapUpdate t m k x =>
    simp only [opC]
    split
    · rename_i i hi
      split
      · rename_i kt et hd
        split
        · rename_i ki hki
          exact chain_mapUpdate hi hd hki (.inl ho)
        · trivial
      · trivial
    · trivial
  case insert t m k x =>
    simp only [opC]
    split
    · rename_i i hi
      split
      · rename_i kt et hd
        split
        · rename_i ki hki
          exact chain_mapUpdate hi hd hki (.inr ho)
        · trivial
      · trivial
    · trivial
  case mapEntry t m k =>
    simp only [opC]
    split
    · rename_i i hi
      split
      · rename_i kt et hd
        split
        · rename_i ki z hki hz
          exact chain_mapEntry hi hd hki hz ho
        · trivial
      · trivial
    · trivial
  case entryStore t m s x => exact chain_entryStore ho
  case range t x =>
    simp only [opC]
    split
    · rename_i i hi
      split
      · rename_i hd
        exact new_rangeStr hi hd ho
      · rename_i hd
        exact chain_rangeMap hi hd ho
      · trivial
    · trivial
  case next it b =>
    cases b
    case true => exact chain_nextStr ho
    case false => exact chain_nextMap ho
  case entry it => exact read_entryMap ho
  case extract t i => exact pure_extract ho
  case call c =>
    simp only [opC]
    split
    · rename_i f hc
      exact chain_callC hc ho
    · rename_i b hc
      exact builtinC_ok hc ho
    · trivial
  case defer c =>
    simp only [opC]
    split
    · rename_i f hc has
      exact chain_defer hc has ho
    · trivial
  all_goals trivial

end
end Go.Ev

namespace Go.Ev

/-- What a call does, as the evaluator has it. -/
def CallOK (P : Program) (call : Call) : Prop :=
  ∀ (f : FuncId) (args : List CV) (S : St) (v : CV) (S' : St) (ρ : Ren) (w : World) (L : List Value), call f args S = .ok v S' → Rel ρ S w → Glob P ρ → reals ρ args = some L →
    ∀ (o : Oper) (a : Act) (next : Act → World → Prop) (Q : Exit → Act → World → Prop),
      (∀ ρ' w' V, Stp ρ S w ρ' S' w' → real ρ' v = some V → next (a.put o.dst V) w') → o.upon P a next Q ((callFunc f L.toArray).run P w)

section
variable {P : Program}

theorem chain_wp {o : Oper} {f : Tm → St → Option (ORes × St)} (hc : ChainOK P o f) {call : Call} (hcall : CallOK P call) {tm : Tm} {S S' : St} {v : CV} (hrun : callRes call (f tm S) = .ok v S')
    {ρ : Ren} {nt : Nat} {a : Act} {w : World} (hf : FrRel ρ nt tm a) (hg : Glob P ρ) (hr : Rel ρ S w) {K : Act → World → Prop} {Q : Exit → Act → World → Prop}
    (hK : ∀ ρ' w' V (a' : Act), a'.tmps = a.tmps → IdleExt P a.defers a'.defers → Stp ρ S w ρ' S' w' → real ρ' v = some V → K (a'.put o.dst V) w') : o.wp P a w K Q := by
  unfold Oper.wp
  cases hfs : f tm S with
  | none => rw [hfs] at hrun; simp [callRes] at hrun
  | some q =>
    obtain ⟨r, S1⟩ := q
    have := hc ρ nt tm a r S S1 w hf hg hr hfs
    rw [hfs] at hrun
    cases r with
    | val u =>
      obtain ⟨ρ', w', V, h1, h2, h3⟩ := this
      simp only [callRes, CRes.ok.injEq] at hrun
      obtain ⟨rfl, rfl⟩ := hrun
      rw [h3]
      exact hK ρ' w' V a rfl (.refl _) h1 h2
    | undef =>
      obtain ⟨ρ', w', h1, h3⟩ := this
      simp only [callRes, CRes.ok.injEq] at hrun
      obtain ⟨rfl, rfl⟩ := hrun
      rcases h3 with h3 | ⟨dd, hdd, h3⟩
      · rw [h3]
        exact hK ρ' w' undef a rfl (.refl _) h1 rfl
      · rw [h3]
        exact hK ρ' w' undef { a with defers := dd :: a.defers } rfl (.cons hdd) h1 rfl
    | call g args =>
      obtain ⟨rfl, L, hL, h3⟩ := this
      simp only [callRes] at hrun
      rw [h3]
      exact hcall g args _ v S' ρ w L hrun hr hg hL o a K Q (fun ρ' w' V h1 h2 => hK ρ' w' V a rfl (.refl _) h1 h2)

theorem pure_wp {o : Oper} {f : Tm → Option CV} (hc : PureOK P o f) {tm : Tm} {S : St} {v : CV} (hrun : f tm = some v)
    {ρ : Ren} {nt : Nat} {a : Act} {w : World} (hf : FrRel ρ nt tm a) (hg : Glob P ρ) (hr : Rel ρ S w) {K : Act → World → Prop} {Q : Exit → Act → World → Prop}
    (hK : ∀ ρ' w' V, Stp ρ S w ρ' S w' → real ρ' v = some V → K (a.put o.dst V) w') : o.wp P a w K Q := by
  unfold Oper.wp
  obtain ⟨V, h1, h2⟩ := hc ρ nt tm a v hf hg hrun
  rw [h2 w]
  exact hK ρ w V (Stp.refl hr) h1

theorem read_wp {o : Oper} {f : Tm → St → Option CV} (hc : ReadOK P o f) {tm : Tm} {S : St} {v : CV} (hrun : f tm S = some v)
    {ρ : Ren} {nt : Nat} {a : Act} {w : World} (hf : FrRel ρ nt tm a) (hg : Glob P ρ) (hr : Rel ρ S w) {K : Act → World → Prop} {Q : Exit → Act → World → Prop}
    (hK : ∀ ρ' w' V, Stp ρ S w ρ' S w' → real ρ' v = some V → K (a.put o.dst V) w') : o.wp P a w K Q := by
  unfold Oper.wp
  obtain ⟨V, h1, h2⟩ := hc ρ nt tm a v S w hf hg hr.has hrun
  rw [h2]
  exact hK ρ w V (Stp.refl hr) h1

theorem new_wp {o : Oper} {f : Tm → Option (CObj × (Nat → CV))} (hc : NewOK P o f) {tm : Tm} {S S' : St} {obj : CObj} {mk : Nat → CV} {b : Nat} (hrun : f tm = some (obj, mk)) (hal : alloc S obj = some (b, S'))
    {ρ : Ren} {nt : Nat} {a : Act} {w : World} (hf : FrRel ρ nt tm a) (hg : Glob P ρ) (hr : Rel ρ S w) {K : Act → World → Prop} {Q : Exit → Act → World → Prop}
    (hK : ∀ ρ' w' V, Stp ρ S w ρ' S' w' → real ρ' (mk b) = some V → K (a.put o.dst V) w') : o.wp P a w K Q := by
  unfold Oper.wp
  obtain ⟨O, hO, h2⟩ := hc ρ nt tm a obj mk hf hg hrun
  obtain ⟨V, h3, h4⟩ := h2 w
  obtain ⟨hp, nx, nk⟩ := S
  simp only [alloc] at hal
  cases hb : Nat.blt nx lim with
  | false => rw [hb] at hal; cases hal
  | true =>
    rw [hb, cond_true] at hal
    cases hal
    rw [h3]
    have hst := Stp.alloc (S := ⟨hp, _, nk⟩) (w' := { w with heap := w.heap.push O }) hr hO (blt_of hb) rfl rfl rfl rfl
    exact hK _ _ V hst (h4 _ _ (by simp [Ren.extb]))

/-! ### Guards -/

theorem yielded_of {ρ : Ren} {nt : Nat} {tm : Tm} {a : Act} (hf : FrRel ρ nt tm a) {ops : Array Oper} {j d : Nat} {oj : Oper} (hj : ops.toList[j]? = some oj) (hd : oj.dst = some d) {v : CV} (hv : (tmpO d).eval tm = some v) :
    yielded ops a.tmps j = (match v with | .bool b => some b | _ => none) := by
  rw [tmpO_eval] at hv
  split at hv
  · rename_i hlt
    obtain ⟨V, h1, h2⟩ := hf.val d v hlt hv
    have hj' : ops[j]? = some oj := by simpa using hj
    have h2' : a.tmps[(d : Nat)]? = some V := h2
    simp only [yielded, hj', Option.bind_some, hd]
    rw [h2']
    cases v <;> simp only [real, Option.some.injEq, Option.map_eq_some_iff, Option.bind_eq_some_iff] at h1
    all_goals (first | (subst h1; rfl) | (obtain ⟨_, _, rfl⟩ := h1; rfl) | (obtain ⟨a, _, rfl⟩ := h1; cases a <;> rfl) | (obtain ⟨_, _, _, _, rfl⟩ := h1; rfl))
  · cases hv

theorem wanted_of {ρ : Ren} {nt : Nat} {tm : Tm} {a : Act} (hf : FrRel ρ nt tm a) {ops : Array Oper} {o : Oper} {b : Bool} (hw : wantedC (guC ops.toList o) tm = some b) :
    Region.wanted o (yielded ops a.tmps) = b := by
  unfold guC at hw
  cases hg : o.guard with
  | none =>
    simp only [guardOf, hg] at hw
    simp only [wantedC, Option.some.injEq] at hw
    subst hw
    simp [Region.wanted, hg]
  | some p =>
    obtain ⟨j, want⟩ := p
    simp only [guardOf, hg] at hw
    cases hj : ops.toList[j]? with
    | none => rw [hj] at hw; simp [wantedC] at hw
    | some oj =>
      rw [hj] at hw
      simp only at hw
      cases hd : oj.dst with
      | none => rw [hd] at hw; simp [wantedC] at hw
      | some d =>
        rw [hd] at hw
        simp only [wantedC] at hw
        split at hw
        · rename_i c hv
          simp only [Option.some.injEq] at hw
          subst hw
          have := yielded_of hf hj hd hv
          simp only [Region.wanted, hg, this]
          cases c <;> cases want <;> rfl
        · rename_i v hn hv
          simp only [Option.some.injEq] at hw
          subst hw
          have := yielded_of hf hj hd hv
          simp only [Region.wanted, hg, this]
          cases v <;> first | rfl | exact (hn _ rfl).elim
        · cases hw

/-! ### The equations of runC -/

theorem runN_pure (R : Nat) (f : Tm → Option CV) (d : Dst) (next : CC) (call : Call) (tm : Tm) (S : St) :
    runN R (.pure f d next) call tm S = (match f tm with | none => .fail | some v => runN R next call (putD d v tm) S) := by
  show Option.rec (motive := fun _ => Res) _ _ (f tm) = _
  cases f tm <;> rfl
theorem runN_read (R : Nat) (f : Tm → St → Option CV) (d : Dst) (next : CC) (call : Call) (tm : Tm) (S : St) :
    runN R (.read f d next) call tm S = (match f tm S with | none => .fail | some v => runN R next call (putD d v tm) S) := by
  show Option.rec (motive := fun _ => Res) _ _ (f tm S) = _
  cases f tm S <;> rfl
theorem runN_new (R : Nat) (f : Tm → Option (CObj × (Nat → CV))) (d : Dst) (next : CC) (call : Call) (tm : Tm) (S : St) :
    runN R (.new f d next) call tm S = (match f tm with | none => .fail | some (o, mk) => (match alloc S o with | none => .fail | some (b, S) => runN R next call (putD d (mk b) tm) S)) := by
  show Option.rec (motive := fun _ => Res) _ _ (f tm) = _
  cases f tm with
  | none => rfl
  | some p =>
    obtain ⟨o, mk⟩ := p
    show Option.rec (motive := fun _ => Res) _ _ (alloc S o) = _
    simp only
    cases alloc S o with
    | none => rfl
    | some q => rfl
theorem runN_chain (R : Nat) (f : Tm → St → Option (ORes × St)) (d : Dst) (next : CC) (call : Call) (tm : Tm) (S : St) :
    runN R (.chain f d next) call tm S = (match callRes call (f tm S) with | .fail => .fail | .ok v S => runN R next call (putD d v tm) S) := by
  show CRes.rec (motive := fun _ => Res) _ _ (callRes call (f tm S)) = _
  cases callRes call (f tm S) <;> rfl
theorem runN_undef (R : Nat) (d : Dst) (next : CC) (call : Call) (tm : Tm) (S : St) : runN R (.undef d next) call tm S = runN R next call (putD d nothing tm) S := rfl
theorem runN_guard (R : Nat) (x : Opd) (want : Bool) (yes no : CC) (call : Call) (tm : Tm) (S : St) :
    runN R (.guard x want yes no) call tm S = (match wantedC (.on x want) tm with | none => .fail | some true => runN R yes call tm S | some false => runN R no call tm S) := by
  show (match x.eval tm with
      | some (.bool b) => bif b == want then runN R yes call tm S else runN R no call tm S
      | some _ => runN R no call tm S
      | none => Res.fail) = _
  have e : wantedC (.on x want) tm = (match x.eval tm with | some (.bool b) => some (b == want) | some _ => some false | none => none) := rfl
  rw [e]
  generalize x.eval tm = q
  cases q with
  | none => rfl
  | some v =>
    cases v with
    | bool b => cases b <;> cases want <;> rfl
    | _ => rfl
theorem runN_cond (R : Nat) (x : Opd) (yes no : CC) (call : Call) (tm : Tm) (S : St) :
    runN R (.cond x yes no) call tm S = (match x.eval tm with | some (.bool b) => (match b with | true => runN R yes call tm S | false => runN R no call tm S) | _ => .fail) := by
  show Option.rec (motive := fun _ => Res) _ _ (x.eval tm) = _
  cases x.eval tm with
  | none => rfl
  | some v =>
    cases v with
    | bool b => cases b <;> rfl
    | _ => rfl
theorem runN_block (R : Nat) (id : Nat) (body next : CC) (call : Call) (tm : Tm) (S : St) :
    runN R (.block id body next) call tm S = (match runN R body call tm S with
      | .fail => .fail
      | .normal tm S => runN R next call tm S
      | .exit i tm S => (match Nat.beq i id with | true => runN R next call tm S | false => .exit i tm S)
      | .ret tm S => .ret tm S) := by
  show Res.rec (motive := fun _ => Res) _ _ _ _ (runN R body call tm S) = _
  cases runN R body call tm S with
  | fail => rfl
  | normal tm S => rfl
  | exit i tm S =>
    show Bool.rec (motive := fun _ => Res) _ _ (Nat.beq i id) = _
    simp only
    cases Nat.beq i id <;> rfl
  | ret tm S => rfl

/-- n rounds of a loop at most. -/
noncomputable def roundsC (R : Nat) (body : CC) (call : Call) : Nat → Tm → St → Res
  | 0, _, _ => .fail
  | n + 1, tm, S => (match runN R body call tm S with
    | .fail => .fail
    | .normal tm S => roundsC R body call n tm S
    | .exit i tm S => .exit i tm S
    | .ret tm S => .ret tm S)

theorem runN_loop (R : Nat) (body : CC) (call : Call) (tm : Tm) (S : St) : runN R (.loop body) call tm S = roundsC R body call R tm S := by
  have key : ∀ (n : Nat) (tm : Tm) (S : St), Nat.rec (motive := fun _ => Tm → St → Res) (fun _ _ => .fail)
      (fun _ again tm S => Res.rec (motive := fun _ => Res) .fail (fun tm S => again tm S) (fun i tm S => .exit i tm S) (fun tm S => .ret tm S) (runN R body call tm S)) n tm S = roundsC R body call n tm S := by
    intro n
    induction n with
    | zero => intro tm S; rfl
    | succ n ih =>
      intro tm S
      show Res.rec (motive := fun _ => Res) _ _ _ _ (runN R body call tm S) = roundsC R body call (n + 1) tm S
      rw [roundsC]
      cases runN R body call tm S with
      | normal tm S => exact ih tm S
      | _ => rfl
  exact key R tm S

/-! ### Regions in their order -/

/-- Related to what was. -/
structure At (P : Program) (nt : Nat) (ρ : Ren) (tm : Tm) (S : St) (a : Act) (w : World) : Prop where
  rel : Rel ρ S w
  fr : FrRel ρ nt tm a
  glob : Glob P ρ

theorem At.step {nt : Nat} {ρ ρ' : Ren} {tm : Tm} {S S' : St} {a : Act} {w w' : World} (h : At P nt ρ tm S a w) (hs : Stp ρ S w ρ' S' w') {dst : Option Tmp} {d : Dst} (hd : dstOf nt dst = some d) {v : CV} {V : Value} (hv : real ρ' v = some V) :
    At P nt ρ' (putD d v tm) S' (a.put dst V) w' :=
  ⟨hs.rel, (h.fr.mono hs.ext).put hd hv, h.glob.mono hs.ext⟩

theorem FrRel.act {ρ : Ren} {nt : Nat} {tm : Tm} {a a' : Act} (h : FrRel ρ nt tm a) (ht : a'.tmps = a.tmps) : FrRel ρ nt tm a' :=
  ⟨by rw [ht]; exact h.size, fun t v h1 h2 => by rw [ht]; exact h.val t v h1 h2⟩

theorem At.act {nt : Nat} {ρ : Ren} {tm : Tm} {S : St} {a a' : Act} {w : World} (h : At P nt ρ tm S a w) (ht : a'.tmps = a.tmps) : At P nt ρ tm S a' w :=
  ⟨h.rel, ⟨by rw [ht]; exact h.fr.size, fun t v h1 h2 => by rw [ht]; exact h.fr.val t v h1 h2⟩, h.glob⟩

theorem ops_sound {call : Call} (hcall : CallOK P call) {nt : Nat} {ops : Array Oper} {R : Nat} {next : CC} {r : Res} (hr : r ≠ .fail) {K : Act → World → Prop} {Q : Exit → Act → World → Prop} :
    ∀ (l : List Oper) (i : Nat), ops.toList.drop i = l → ∀ (ρ : Ren) (tm : Tm) (S : St) (a : Act) (w : World), At P nt ρ tm S a w → runN R (opsCC P nt ops.toList l next) call tm S = r →
      (∀ ρ' tm' S' a' w', Stp ρ S w ρ' S' w' → At P nt ρ' tm' S' a' w' → IdleExt P a.defers a'.defers → runN R next call tm' S' = r → K a' w') →
      wpOps P ops (Exit.then K Q) (List.range' i l.length) a w
  | [], i, hl, ρ, tm, S, a, w, hat, hrun, hK => by
    simp only [List.length_nil, List.range'_zero, wpOps, Exit.then]
    exact hK ρ tm S a w (Stp.refl hat.rel) hat (.refl _) hrun
  | o :: l, i, hl, ρ, tm, S, a, w, hat, hrun, hK => by
    have ho : ops[i]? = some o := by
      have : ops.toList[i]? = some o := by
        have h := congrArg (fun m => m[0]?) hl
        simpa using h
      simpa using this
    have hl' : ops.toList.drop (i + 1) = l := by
      have h := congrArg (List.drop 1) hl
      simpa [List.drop_drop, Nat.add_comm] using h
    simp only [List.length_cons, List.range'_succ, wpOps, ho]
    simp only [opsCC] at hrun
    split at hrun
    · rename_i d hd
      -- the rest, after a step
      have rest' : ∀ (v : CV) (S1 : St), runN R (opsCC P nt ops.toList l next) call (putD d v tm) S1 = r → ∀ ρ' w' V (a1 : Act), a1.tmps = a.tmps → IdleExt P a.defers a1.defers → Stp ρ S w ρ' S1 w' → real ρ' v = some V → wpOps P ops (Exit.then K Q) (List.range' (i + 1) l.length) (a1.put o.dst V) w' := by
        intro v S1 hrun' ρ' w' V a1 ht1 hd1 hs hv
        refine ops_sound hcall hr l (i + 1) hl' ρ' _ S1 _ w' ((hat.act ht1).step hs hd hv) hrun' (fun ρ'' tm'' S'' a'' w'' h1 h2 h3 h4 => ?_)
        exact hK ρ'' tm'' S'' a'' w'' (hs.trans h1) h2 ((hd1.trans (IdleExt.of (put_defers _ _ _))).trans h3) h4
      have rest : ∀ (v : CV) (S1 : St), runN R (opsCC P nt ops.toList l next) call (putD d v tm) S1 = r → ∀ ρ' w' V, Stp ρ S w ρ' S1 w' → real ρ' v = some V → wpOps P ops (Exit.then K Q) (List.range' (i + 1) l.length) (a.put o.dst V) w' :=
        fun v S1 h ρ' w' V hs hv => rest' v S1 h ρ' w' V a rfl (.refl _) hs hv
      -- the operation itself
      have run : runN R (opCC (opC P o.op) d (opsCC P nt ops.toList l next)) call tm S = r → o.wp P a w (wpOps P ops (Exit.then K Q) (List.range' (i + 1) l.length)) (Exit.then K Q) := by
        intro hrun
        have hok := opC_ok P o
        cases hc : opC P o.op with
        | bad => rw [hc] at hrun; exact absurd hrun.symm hr
        | pure f =>
          rw [hc] at hrun hok
          simp only [opCC, runN_pure] at hrun
          split at hrun
          · exact absurd hrun.symm hr
          · rename_i v hv
            exact pure_wp hok hv hat.fr hat.glob hat.rel (rest v S hrun)
        | read f =>
          rw [hc] at hrun hok
          simp only [opCC, runN_read] at hrun
          split at hrun
          · exact absurd hrun.symm hr
          · rename_i v hv
            exact read_wp hok hv hat.fr hat.glob hat.rel (rest v S hrun)
        | new f =>
          rw [hc] at hrun hok
          simp only [opCC, runN_new] at hrun
          split at hrun
          · exact absurd hrun.symm hr
          · rename_i obj mk hv
            split at hrun
            · exact absurd hrun.symm hr
            · rename_i b S1 hal
              exact new_wp hok hv hal hat.fr hat.glob hat.rel (rest (mk b) S1 hrun)
        | chain f =>
          rw [hc] at hrun hok
          simp only [opCC, runN_chain] at hrun
          split at hrun
          · exact absurd hrun.symm hr
          · rename_i v S1 hv
            exact chain_wp hok hcall hv hat.fr hat.glob hat.rel (rest' v S1 hrun)
      -- whether it is wanted
      cases hg : guC ops.toList o with
      | bad => rw [hg] at hrun; exact absurd hrun.symm hr
      | free =>
        rw [hg] at hrun
        simp only [guCC] at hrun
        have := wanted_of hat.fr (ops := ops) (o := o) (b := true) (by rw [hg]; rfl)
        rw [this, if_pos rfl]
        exact .inl (run hrun)
      | on x want =>
        rw [hg] at hrun
        simp only [guCC, runN_guard] at hrun
        split at hrun
        · exact absurd hrun.symm hr
        · rename_i hw
          have := wanted_of hat.fr (ops := ops) (o := o) (b := true) (by rw [hg]; exact hw)
          rw [this, if_pos rfl]
          exact .inl (run hrun)
        · rename_i hw
          have := wanted_of hat.fr (ops := ops) (o := o) (b := false) (by rw [hg]; exact hw)
          rw [this]
          simp only [Bool.false_eq_true, if_false]
          rw [runN_undef] at hrun
          exact rest nothing S hrun ρ w undef (Stp.refl hat.rel) rfl
    · exact absurd hrun.symm hr

end
end Go.Ev
