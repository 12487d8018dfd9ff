/-
  Appends. The operation append. make of a slice; the string's iterator. A string made bytes.
-/
import Derived.Test.YtjhmlmiegkjncaaGreatDoorEvL
import Derived.ArgAppend
import Derived.Laws.RangeString
import Derived.Laws.IdiomStrings
set_option linter.all false

namespace Go.Ev

section
variable {P : Program} (w : World)

theorem run_append_in (t u ty e : TypeId) (i : TyE) (d : TypeDesc) (ht : P.underlying t = some (.slice e)) (hu : P.underlying u = some d) (hd : ∀ k, d ≠ .int k) (hi : tyOf P e = some i)
    (base : Option Addr) (sLen sCap : Nat) (X : Value) (n : Nat) (news : List Value) (hlen : (Builtin.lenOf X).run P w = .ok n w) (hf : (Builtin.firstCells i.size n X).run P w = .ok news.toArray w) (hroom : sLen + n ≤ sCap) :
    (Builtin.append_ #[t, u] ty #[.slice base sLen sCap, X]).run P w = match base with
      | none => .ok (.slice none (sLen + n) sCap) w
      | some a => ((storeCells (a.add (sLen * i.size)) news).run P w).andThen fun _ w' => .ok (.slice (some a) (sLen + n) sCap) w' := by
  have hsz := run_sizeOf' hi w
  cases base <;> simp [Builtin.append_, run_underlying ht, run_underlying hu, hsz, hd, hlen, hroom, hf]

theorem run_append_out (t u ty e : TypeId) (i : TyE) (d : TypeDesc) (z : Value) (ht : P.underlying t = some (.slice e)) (hu : P.underlying u = some d) (hd : ∀ k, d ≠ .int k) (hi : tyOf P e = some i) (hz : i.zero = some z)
    (base : Option Addr) (sLen sCap : Nat) (X : Value) (n : Nat) (olds news : List Value) (hlen : (Builtin.lenOf X).run P w = .ok n w) (hf : (Builtin.firstCells i.size n X).run P w.drew = .ok news.toArray w.drew)
    (hfo : (Builtin.firstCells i.size sLen (.slice base sLen sCap)).run P w.drew = .ok olds.toArray w.drew) (hg : sCap < sLen + n) (h63 : ((sLen + n : Nat) : Int) ≤ 9223372036854775807) (hfit : Builtin.nextslicecap (sLen + n) sCap * i.bytes ≤ 281474976710656) :
    (Builtin.append_ #[t, u] ty #[.slice base sLen sCap, X]).run P w =
      .ok (.slice (some ⟨w.heap.size, 0, none⟩) (sLen + n) (grownCap w (sLen + n) sCap e))
        (w.drew.alloc (.cells (olds.toArray ++ news.toArray ++ Builtin.zeroCells z.cells (grownCap w (sLen + n) sCap e - (sLen + n))) e)) := by
  obtain ⟨info, hi0, hi1, hi2, hi3, hi4⟩ := tyOf_some hi
  rw [← hi4] at hz
  rw [← hi2] at hf hfo
  rw [← hi3] at hfit
  have hn : ¬ (sLen + n ≤ sCap) := by omega
  have h63' : ¬ (9223372036854775807 < ((sLen : Int) + (n : Int))) := by omega
  have h48' : ¬ (281474976710656 < Builtin.nextslicecap (sLen + n) sCap * info.bytes) := by omega
  simp [Builtin.append_, run_underlying ht, run_underlying hu, sizeOf, typeInfo, zeroValue, hi0, hz, hd, hlen, hn, h63', h48', Question.forced, hf, hfo, newRow, grownCap]
  congr 2
  apply Array.ext'
  simp [List.append_assoc]
end

theorem allBytes_mem : ∀ (s : List Nat), allBytes s = true → ∀ n, n ∈ s → n < 256
  | [], _, n, hn => by cases hn
  | b :: s, h, n, hn => by
    simp only [allBytes, Bool.and_eq_true] at h
    rcases List.mem_cons.1 hn with rfl | hn
    · exact blt_of h.1
    · exact allBytes_mem s h.2 n hn

theorem bytesOf_map : ∀ (s : List Nat), bytesOf s = s.map fun n => CV.int .u8 (.ofNat n)
  | [] => rfl
  | b :: s => by simp [bytesOf, bytesOf_map s]

/-- The model's bytes of a text. -/
theorem str_cells (s : List Nat) (h : ∀ n, n ∈ s → n < 256) : ((strReal s).data.map fun b => Value.int .u8 b.toNat) = (s.map fun n => Value.int .u8 (.ofNat n)).toArray := by
  apply Array.ext'
  simp only [Array.toList_map, strReal_data, List.map_map]
  apply List.map_congr_left
  intro n hn
  have := h n hn
  simp [UInt8.toNat_ofNat', Nat.mod_eq_of_lt this]

theorem strReal_extract (s : List Nat) (n : Nat) : (strReal s).extract 0 n = strReal (s.take n) := by
  apply ByteArray.ext
  simp [strReal]

section
variable {P : Program} {ρ : Ren} {S : St} {w : World}

/-- What is appended. -/
theorem firstCells_run (h : Has ρ S w) {size n : Nat} {x : CV} {X : Value} {new : List CV} (hx : real ρ x = some X) (hl : lenOf x = some n) (hf : firstCells S size n x = some new) :
    ∃ news, reals ρ new = some news ∧ ∀ w' : World, w'.heap = w.heap → (Builtin.lenOf X).run P w' = .ok n w' ∧ (Builtin.firstCells size n X).run P w' = .ok news.toArray w' := by
  cases x <;> simp only [lenOf, reduceCtorEq, Option.some.injEq] at hl
  case str s =>
    subst hl
    simp only [firstCells, List.take_length] at hf
    cases hb : allBytes s with
    | false => rw [hb] at hf; cases hf
    | true =>
      rw [hb, cond_true] at hf
      cases hf
      simp only [real, Option.some.injEq] at hx
      subst hx
      rw [bytesOf_map]
      refine ⟨_, reals_bytes s, fun w' _ => ⟨by simp [Builtin.lenOf, strReal_size], ?_⟩⟩
      simp only [Builtin.firstCells, Sem.run_pure, Result.ok.injEq, and_true]
      rw [strReal_extract, List.take_length, str_cells s (allBytes_mem s hb)]
  case nils =>
    subst hl
    simp only [firstCells, Option.some.injEq] at hf
    subst hf
    simp only [real, Option.some.injEq] at hx
    subst hx
    exact ⟨[], rfl, fun w' _ => ⟨by simp [Builtin.lenOf], by simp [Builtin.firstCells]⟩⟩
  case slice b o len c =>
    subst hl
    simp only [real, Option.bind_eq_some_iff, Option.map_eq_some_iff] at hx
    obtain ⟨⟨B, D⟩, hb, C, hC, rfl⟩ := hx
    simp only [firstCells] at hf
    cases h0 : Nat.beq (len * size) 0 with
    | true =>
      rw [h0, cond_true] at hf
      cases hf
      have h0 := beq_of h0
      refine ⟨[], rfl, fun w' _ => ⟨by simp [Builtin.lenOf], ?_⟩⟩
      simp [Builtin.firstCells, h0, loadCells, loadCellsFrom]
    | false =>
      rw [h0, cond_false] at hf
      obtain ⟨B', D', L, _, e2, _, _, _⟩ := loadN_run (P := P) h hf
      refine ⟨L, e2, fun w' hw' => ⟨by simp [Builtin.lenOf], ?_⟩⟩
      obtain ⟨B', D', L', e1, e2', e3, e4, e5⟩ := loadN_run (P := P) (h.heap hw') hf
      rw [e2] at e2'
      cases e2'
      rw [hb] at e1
      cases e1
      simpa [Builtin.firstCells] using e5

/-- A longer row. -/
theorem grown_rel {cells : Tr CV} {sh hi id sz x ty : Nat} {L : List Value} {Z : Array Value} {e : TypeId} (hty : ty ≠ 0 → e + 1 = ty) (hL : L.length = hi)
    (hc : ∀ i, i < hi → ∃ v V, cells.get (i + sh) = some v ∧ real ρ v = some V ∧ L[i]? = some V) (hk : ρ.k id = some x) (hz : Z.size = x * sz) (hnz : sz ≠ 0) :
    ObjRel ρ 0 (.row cells sh hi true id sz ty) (.cells (L.toArray ++ Z) e) := by
  refine ⟨fun i hi' => ?_, .inr ⟨hnz, x, hk, fun j hj => ⟨?_, fun _ => by simp⟩⟩, hty⟩
  · obtain ⟨v, V, h1, h2, h3⟩ := hc i hi'
    refine ⟨v, V, h1, h2, ?_, fun _ => by simp⟩
    rw [Array.getElem?_append_left (by simp; omega)]
    simpa using h3
  · refine ⟨Z[j]'(by omega), ?_⟩
    rw [Array.getElem?_append_right (by simp; omega)]
    simp only [List.size_toArray]
    rw [show hi + 0 + j - L.length = j by omega, Array.getElem?_eq_getElem (by omega)]

/-- A new name for a block, a new one for a capacity. -/
def Ren.ext (ρ : Ren) (nx : Nat) (x : Nat × Nat) (k : Nat) (y : Nat) : Ren := ⟨fun i => if i = nx then some x else ρ.b i, fun i => if i = k then some y else ρ.k i, ρ.v⟩

theorem ext_le (h : Rel ρ S w) (x : Nat × Nat) (y : Nat) : ρ.Le (ρ.ext S.next x S.nk y) := by
  refine ⟨fun i z hz => ?_, fun i z hz => ?_, rfl⟩
  · have : i ≠ S.next := fun e => by
      have := h.fresh i (by omega)
      rw [hz] at this
      cases this
    simp [Ren.ext, this, hz]
  · have : i ≠ S.nk := fun e => by
      have := h.freshk i (by omega)
      rw [hz] at this
      cases this
    simp [Ren.ext, this, hz]

theorem row_has (h : Has ρ S w) {b : Nat} {c : Tr CV} {sh hi : Nat} {wr : Bool} {id sz ty : Nat} (hb : S.heap.get b = some (.row c sh hi wr id sz ty)) :
    ∃ B D cs t fz, ρ.b b = some (B, D) ∧ w.heap[B]? = some (.cells cs t fz) ∧
      (∀ i, i < hi → ∃ v V, c.get (i + sh) = some v ∧ real ρ v = some V ∧ cs[i + D]? = some V ∧ (wr = true → ¬ (fz.1 ≤ i + D ∧ i + D < fz.2))) ∧
      ((sz = 0 ∧ D = 0) ∨ (sz ≠ 0 ∧ ∃ x, ρ.k id = some x ∧ ∀ j, j < x * sz → (∃ V, cs[hi + D + j]? = some V) ∧ (wr = true → ¬ (fz.1 ≤ hi + D + j ∧ hi + D + j < fz.2)))) ∧ (ty ≠ 0 → t + 1 = ty) := by
  obtain ⟨B, D, O, h1, h2, h3⟩ := h b _ hb
  cases O with
  | cells cs t fz => exact ⟨B, D, cs, t, fz, h1, h2, h3⟩
  | _ => exact h3.elim

theorem getN_of (c : Tr CV) : ∀ (n i : Nat), (∀ j, j < n → ∃ v, c.get (i + j) = some v) → ∃ l, getN c i n = some l
  | 0, i, _ => ⟨[], rfl⟩
  | n + 1, i, h => by
    obtain ⟨v, hv⟩ := h 0 (by omega)
    obtain ⟨l, hl⟩ := getN_of c n (i + 1) (fun j hj => by rw [show i + 1 + j = i + (j + 1) by omega]; exact h (j + 1) (by omega))
    exact ⟨v :: l, by simp only [getN]; rw [show c.get i = some v from hv, hl]⟩

theorem cap_of_le {c : Cap} {n C : Nat} (h : capLe n c = true) (hC : ρ.cap c = some C) : n ≤ C := by
  cases c with
  | ex m => simp only [Ren.cap, Option.some.injEq] at hC; subst hC; exact ble_of h
  | sy id base =>
    simp only [Ren.cap, Option.map_eq_some_iff] at hC
    obtain ⟨x, _, rfl⟩ := hC
    have := ble_of h
    omega

theorem not_ble {n m : Nat} (h : Nat.ble n m = false) : m < n := by
  rcases Nat.lt_or_ge m n with h' | h'
  · exact h'
  · have := Nat.ble_eq_true_of_le h'
    rw [h] at this
    cases this
end

end Go.Ev

namespace Go.Ev

section
variable {P : Program} {o : Oper}

theorem chain_append {c : Go.Call} {t u : TypeId} {s x : Operand} {i j : TyE} {e : TypeId} {ei : TyE} {z : CV} (hc : c.callee = .builtin .append) (hts : c.argTypes.toList = [t, u]) (has : c.args.toList = [s, x])
    (ht : tyOf P t = some i) (hi : i.desc = .slice e) (hu : tyOf P u = some j) (hj : ∀ k, j.desc ≠ .int k) (he : tyOf P e = some ei) (hz : zeroOf P e = some z) (hzl : z.cells.length = ei.size) (hs0 : 0 < ei.size)
    (ho : o.op = .call c) : ChainOK P o (appendR ei.size ei.bytes e (opd P s) (opd P x)) := by
  intro ρ nt tm a r S S' w hf hg hr h
  have hts := types_two hts
  have has := args_two has
  have htu : P.underlying t = some (.slice e) := by obtain ⟨_, _, h2, _⟩ := tyOf_some ht; rw [h2, hi]
  have huu : P.underlying u = some j.desc := by obtain ⟨_, _, h2, _⟩ := tyOf_some hu; exact h2
  obtain ⟨zz, hzz, hzr⟩ : ∃ zz : Value, ei.zero = some zz ∧ zz.cells.size = ei.size := by
    unfold zeroOf at hz
    rw [he] at hz
    simp only at hz
    cases hq : ei.zero with
    | none => rw [hq] at hz; cases hz
    | some zz =>
      rw [hq] at hz
      simp only at hz
      have := cells_real (ofV_real (ρ := ρ) _ _ _ hz)
      have := reals_length this
      exact ⟨zz, rfl, by rw [← hzl, ← this, Array.length_toList]⟩
  obtain ⟨cs, hex⟩ := call_builtin (P := P) hc ho a w
  rw [hts, has] at hex
  have hex : (execOp a.eval o).run P w = ((Builtin.append_ #[t, u] o.type #[a.eval s, a.eval x]).run P w).andThen fun v w' => .ok (.value v) w' := by
    rw [hex]
    simp [builtin]
  rw [hex]
  unfold appendR at h
  split at h
  · rename_i sv xv hsv hxv
    have hsv := opd_real hf hg s sv hsv
    have hxv := opd_real hf hg x xv hxv
    split at h
    · -- nothing is appended
      rename_i hl
      obtain ⟨news, hn, hrun⟩ : ∃ news : List Value, news = [] ∧ ((Builtin.lenOf (a.eval x)).run P w = .ok 0 w ∧ (Builtin.firstCells ei.size 0 (a.eval x)).run P w = .ok news.toArray w) := by
        refine ⟨[], rfl, ?_⟩
        cases xv <;> simp only [lenOf, reduceCtorEq, Option.some.injEq] at hl
        · have : _ = [] := List.length_eq_zero_iff.1 hl
          subst this
          simp only [real, Option.some.injEq] at hxv
          rw [← hxv]
          simp [Builtin.lenOf, Builtin.firstCells, strReal]; rfl
        · simp only [real, Option.some.injEq] at hxv
          rw [← hxv]
          simp [Builtin.lenOf, Builtin.firstCells]
        · subst hl
          simp only [real, Option.bind_eq_some_iff, Option.map_eq_some_iff] at hxv
          obtain ⟨_, _, _, _, hxv⟩ := hxv
          rw [← hxv]
          simp [Builtin.lenOf, Builtin.firstCells, loadCells, loadCellsFrom]
      subst hn
      split at h
      · cases h
        simp only [real, Option.some.injEq] at hsv
        refine ⟨ρ, w, _, Stp.refl hr, rfl, ?_⟩
        rw [← hsv]
        rw [run_append_in w t u o.type e ei j.desc htu huu hj he none 0 0 (a.eval x) 0 [] hrun.1 hrun.2 (by omega)]
        rfl
      · rename_i b off l cap _
        cases hc : capLe l cap with
        | false => rw [hc] at h; cases h
        | true =>
          rw [hc, cond_true] at h
          cases h
          have hsv' := hsv
          simp only [real, Option.bind_eq_some_iff, Option.map_eq_some_iff] at hsv
          obtain ⟨⟨B, D⟩, hb, C, hC, hsv⟩ := hsv
          refine ⟨ρ, w, _, Stp.refl hr, hsv', ?_⟩
          rw [← hsv]
          rw [run_append_in w t u o.type e ei j.desc htu huu hj he _ l C (a.eval x) 0 [] hrun.1 hrun.2 (by have := cap_of_le hc hC; omega)]
          simp [storeCells]
      · cases h
    · rename_i n hn0 hl
      split at h
      · rename_i new hnew
        cases hcc : (Nat.blt (n * ei.bytes) lim && Nat.blt n lim && Nat.blt 0 ei.bytes && Nat.beq new.length (n * ei.size)) with
        | false => rw [hcc] at h; cases h
        | true =>
          rw [hcc, cond_true] at h
          simp only [Bool.and_eq_true] at hcc
          obtain ⟨⟨⟨hcb, hcn⟩, hc0⟩, hcl⟩ := hcc
          have hcb := blt_of hcb
          have hcn := blt_of hcn
          have hc0 := blt_of hc0
          have hcl := beq_of hcl
          have hpos : 0 < n := by
            rcases Nat.eq_zero_or_pos n with h0 | h0
            · subst h0; exact (hn0 rfl).elim
            · exact h0
          obtain ⟨news, hnr, hrun⟩ := firstCells_run (P := P) hr.has hxv hl hnew
          have hnl := reals_length hnr
          cases hac : appendC S ei.size ei.bytes e sv n new with
          | none => rw [hac] at h; simp [valO] at h
          | some q =>
            obtain ⟨v, S1⟩ := q
            rw [hac] at h
            simp only [valO, Option.some.injEq, Prod.mk.injEq] at h
            obtain ⟨rfl, rfl⟩ := h
            obtain ⟨hp0, nx, nk⟩ := S
            unfold appendC at hac
            split at hac
            · -- to nil
              simp only at hac
              cases hc2 : (Nat.blt nx lim && Nat.blt new.length lim) with
              | false => rw [hc2] at hac; cases hac
              | true =>
                rw [hc2, cond_true] at hac
                cases hac
                simp only [Bool.and_eq_true] at hc2
                have hnx := blt_of hc2.1
                have hnwl := blt_of hc2.2
                simp only [real, Option.some.injEq] at hsv
                rw [← hsv]
                have hge := grownCap_ge w (0 + n) 0 e
                have hb48 := growslice_fits (need := 0 + n) (old := 0) (bytes := ei.bytes) (by omega) (by unfold lim at hcb; rw [Nat.zero_add]; omega)
                rw [run_append_out w t u o.type e ei j.desc zz htu huu hj he hzz none 0 0 (a.eval x) n [] news (hrun w rfl).1 (hrun w.drew rfl).2 (by simp [Builtin.firstCells]) (by omega) (by unfold lim at hcn; omega) hb48]
                refine ⟨ρ.ext nx (w.heap.size, 0) nk (grownCap w (0 + n) 0 e - (0 + n)), w.drew.alloc _, _, ?_, ?_, rfl⟩
                · refine Stp.fresh (S := ⟨hp0, nx, nk⟩) hr (O := .cells ([].toArray ++ news.toArray ++ Builtin.zeroCells zz.cells (grownCap w (0 + n) 0 e - (0 + n))) e) (o := rowCap new nk ei.size (e + 1)) rfl rfl rfl rfl (ext_le hr _ _) (by simp [Ren.ext]) (fun i hi => by simp only [Ren.ext]; rw [if_neg hi])
                    (by simp) (fun i hi => ?_) ?_ ?_ (fun b hb o' ho' => ?_)
                  · have hi : nk + 1 ≤ i := hi
                    simp only [Ren.ext]
                    rw [if_neg (by omega)]
                    exact hr.freshk i (by simp; omega)
                  · have := grown_rel (ρ := ρ.ext nx (w.heap.size, 0) nk (grownCap w (0 + n) 0 e - (0 + n))) (cells := lay .leaf 0 new) (sh := 0) (hi := new.length) (id := nk) (sz := ei.size) (x := grownCap w (0 + n) 0 e - (0 + n)) (L := news)
                      (Z := Builtin.zeroCells zz.cells (grownCap w (0 + n) 0 e - (0 + n))) (e := e) (ty := e + 1) (fun _ => rfl) hnl (fun q hq => ?_) (by simp [Ren.ext]) (by rw [size_zeroCells, hzr]) (by omega)
                    · simpa [rowCap] using this
                    · have hgt := lay_get new .leaf 0 q (by unfold lim at hnwl; omega)
                      rw [if_pos ⟨Nat.zero_le _, by omega⟩, Nat.sub_zero] at hgt
                      have hq' : new[q]? = some new[q] := List.getElem?_eq_getElem hq
                      obtain ⟨V, hV, hV'⟩ := reals_get (reals_mono (ext_le hr (w.heap.size, 0) (grownCap w (0 + n) 0 e - (0 + n))) _ _ hnr) q _ hq'
                      exact ⟨_, V, by rw [Nat.add_zero, hgt, hq'], hV, hV'⟩
                  · exact Tr.get_set_eq _ _ _ _ (by unfold lim at hnx; simp [big]; omega)
                  · rw [Tr.get_set_ne _ _ _ _ _ (fun e => hb e.symm)] at ho'
                    exact ho'
                · simp only [real, Ren.ext, if_true, Option.bind_some, Ren.cap, Option.map_some, Option.some.injEq, Value.slice.injEq, Nat.zero_add, true_and]
                  rw [Nat.zero_add] at hge
                  omega
            · rename_i b off len cap _
              have hsv' := hsv
              simp only [real, Option.bind_eq_some_iff, Option.map_eq_some_iff] at hsv
              obtain ⟨⟨B, D⟩, hb, C, hC, hsv⟩ := hsv
              rw [← hsv]
              cases hcl2 : capLe (len + n) cap with
              | true =>
                rw [hcl2, cond_true] at hac
                cases hpl : plainCells new with
                | false => rw [hpl] at hac; cases hac
                | true =>
                  rw [hpl, cond_true] at hac
                  split at hac
                  · rename_i S2 hst
                    cases hac
                    obtain ⟨B', D', e1, e2, e3⟩ := storeN_run (P := P) hr hst hnr hpl
                    rw [hb] at e1
                    cases e1
                    refine ⟨ρ, _, .slice (some ⟨B, off + D, none⟩) (len + n) C, e3, by simp [real, hb, hC], ?_⟩
                    rw [run_append_in w t u o.type e ei j.desc htu huu hj he _ len C (a.eval x) n news (hrun w rfl).1 (hrun w rfl).2 (cap_of_le hcl2 hC)]
                    have e2 := e2 w rfl
                    have : (⟨B, off + D, none⟩ : Addr).add (len * ei.size) = ⟨B, off + len * ei.size + D, none⟩ := by
                      rw [Addr.add_lit]
                      simp only [Addr.mk.injEq, and_true, true_and]
                      omega
                    simp [this, e2]
                  · cases hac
              | false =>
                rw [hcl2, cond_false] at hac
                simp only at hac
                split at hac
                · rename_i cs0 sh hi0 wr id sz ty hbrow
                  cases hcc : (Nat.ble (off + len * ei.size) hi0 && Nat.blt (sh + off + (len + n) * ei.size) lim && Nat.blt b lim && Nat.blt nx lim && Nat.blt ((len + n) * ei.bytes) lim && Nat.blt (len + n) lim) with
                  | false => rw [hcc] at hac; cases hac
                  | true =>
                    rw [hcc, cond_true] at hac
                    simp only [Bool.and_eq_true] at hcc
                    obtain ⟨⟨⟨⟨⟨hk1, hk2⟩, hk3⟩, hk4⟩, hk5⟩, hk6⟩ := hcc
                    have hk1 := ble_of hk1
                    have hk2 := blt_of hk2
                    have hk3 := blt_of hk3
                    have hk4 := blt_of hk4
                    have hk5 := blt_of hk5
                    have hk6 := blt_of hk6
                    have hmul : (len + n) * ei.size = len * ei.size + n * ei.size := Nat.add_mul _ _ _
                    obtain ⟨B', D', csr, tt, fz, f1, f2, f3, f4, f5⟩ := row_has hr.has hbrow
                    rw [hb] at f1
                    cases f1
                    obtain ⟨ol, hol⟩ := getN_of cs0 (len * ei.size) (off + sh) (fun q hq => by
                      obtain ⟨v, V, g1, _⟩ := f3 (off + q) (by omega)
                      exact ⟨v, by rw [show off + sh + q = off + q + sh by omega]; exact g1⟩)
                    have hld : loadN ⟨hp0, nx, nk⟩ b off (len * ei.size) = some ol := by
                      simp only [loadN, hbrow]
                      rw [Nat.ble_eq_true_of_le hk1, cond_true]
                      exact hol
                    have hgol := getN_some hol
                    -- the cells of the longer row
                    have hrow : ∀ q, q < (len + n) * ei.size → ∃ v V, (lay cs0 (sh + off + len * ei.size) new).get (q + (sh + off)) = some v ∧ real ρ v = some V ∧
                        (q < len * ei.size → csr[off + q + D]? = some V ∧ ol[q]? = some v) ∧ (len * ei.size ≤ q → news[q - len * ei.size]? = some V) := by
                      intro q hq
                      have hgt := lay_get new cs0 (sh + off + len * ei.size) (q + (sh + off)) (by unfold lim at hk2; omega)
                      by_cases hin : q < len * ei.size
                      · rw [if_neg (by omega)] at hgt
                        obtain ⟨v, V, g1, g2, g3, _⟩ := f3 (off + q) (by omega)
                        refine ⟨v, V, by rw [hgt, show q + (sh + off) = off + q + sh by omega, g1], g2, fun _ => ⟨g3, ?_⟩, fun h => by omega⟩
                        have := hgol.2 q hin
                        rw [show off + sh + q = off + q + sh by omega, g1] at this
                        exact this.symm
                      · rw [if_pos (by omega), show q + (sh + off) - (sh + off + len * ei.size) = q - len * ei.size by omega] at hgt
                        have hlt : q - len * ei.size < new.length := by omega
                        have hq' : new[q - len * ei.size]? = some new[q - len * ei.size] := List.getElem?_eq_getElem hlt
                        obtain ⟨V, hV, hV'⟩ := reals_get hnr _ _ hq'
                        exact ⟨_, V, by rw [hgt, hq'], hV, fun h => by omega, fun _ => hV'⟩
                    have grown : ∀ ty' : Nat, (ty' ≠ 0 → e + 1 = ty') → C < len + n → ∀ heap' : Tr CObj, heap'.get nx = some (.row (lay cs0 (sh + off + len * ei.size) new) (sh + off) ((len + n) * ei.size) true nk ei.size ty') →
                        (∀ b', b' ≠ nx → ∀ o', heap'.get b' = some o' → hp0.get b' = some o') →
                        ∃ ρ' w' V, Stp ρ ⟨hp0, nx, nk⟩ w ρ' ⟨heap', nx + 1, nk + 1⟩ w' ∧ real ρ' (.slice nx 0 (len + n) (.sy nk (len + n))) = some V ∧
                          ((Builtin.append_ #[t, u] o.type #[.slice (some ⟨B, off + D, none⟩) len C, a.eval x]).run P w).andThen (fun v w' => Result.ok (Next.value v) w') = .ok (Next.value V) w' := by
                      intro ty' hty' hCl heap' hnew' hold
                      obtain ⟨B', D', L, g1, g2, g3, g4, g5⟩ := loadN_run (P := P) (hr.has.heap (w' := w.drew) rfl) hld
                      rw [hb] at g1
                      cases g1
                      have hb48 := growslice_fits (need := len + n) (old := C) (bytes := ei.bytes) hCl (by unfold lim at hk5; omega)
                      have hge := grownCap_ge w (len + n) C e
                      rw [run_append_out w t u o.type e ei j.desc zz htu huu hj he hzz _ len C (a.eval x) n L news (hrun w rfl).1 (hrun w.drew rfl).2 (by simpa [Builtin.firstCells] using g5) hCl (by unfold lim at hk6; omega) hb48]
                      refine ⟨ρ.ext nx (w.heap.size, 0) nk (grownCap w (len + n) C e - (len + n)), w.drew.alloc _, _, ?_, ?_, rfl⟩
                      · refine Stp.fresh (S := ⟨hp0, nx, nk⟩) hr rfl rfl rfl rfl (ext_le hr _ _) (by simp [Ren.ext]) (fun i hi => by simp only [Ren.ext]; rw [if_neg hi])
                          (by simp) (fun i hi => ?_) ?_ hnew' (fun b hb o' ho' => hold b hb o' ho')
                        · have hi : nk + 1 ≤ i := hi
                          simp only [Ren.ext]
                          rw [if_neg (by omega)]
                          exact hr.freshk i (by simp; omega)
                        · have hLn : (L ++ news).length = (len + n) * ei.size := by rw [List.length_append, g3, hnl, hcl, hmul]
                          have := grown_rel (ρ := ρ.ext nx (w.heap.size, 0) nk (grownCap w (len + n) C e - (len + n))) (cells := lay cs0 (sh + off + len * ei.size) new) (sh := sh + off) (hi := (len + n) * ei.size) (id := nk) (sz := ei.size)
                            (x := grownCap w (len + n) C e - (len + n)) (L := L ++ news) (Z := Builtin.zeroCells zz.cells (grownCap w (len + n) C e - (len + n))) (e := e) (ty := ty') hty' hLn (fun q hq => ?_) (by simp [Ren.ext]) (by rw [size_zeroCells, hzr]) (by omega)
                          · simpa using this
                          · obtain ⟨v, V, a1, a2, a3, a4⟩ := hrow q hq
                            refine ⟨v, V, a1, real_mono (ext_le hr _ _) _ _ a2, ?_⟩
                            by_cases hin : q < len * ei.size
                            · rw [List.getElem?_append_left (by omega)]
                              obtain ⟨U, hU, hU'⟩ := reals_get g2 q v (a3 hin).2
                              rw [a2] at hU
                              cases hU
                              exact hU'
                            · rw [List.getElem?_append_right (by omega), g3]
                              exact a4 (by omega)
                      · simp only [real, Ren.ext, if_true, Option.bind_some, Ren.cap, Option.map_some, Option.some.injEq, Value.slice.injEq, Nat.zero_add, true_and]
                        omega
                    cases cap with
                    | ex m =>
                      simp only [Option.some.injEq, Prod.mk.injEq] at hac
                      obtain ⟨rfl, rfl⟩ := hac
                      simp only [Ren.cap, Option.some.injEq] at hC
                      subst hC
                      exact grown (e + 1) (fun _ => rfl) (not_ble hcl2) _ (Tr.get_set_eq _ _ _ _ (by unfold lim at hk4; simp [big]; omega)) (fun b' hb' o' ho' => by
                        rw [Tr.get_set_ne _ _ _ _ _ (fun e => hb' e.symm)] at ho'
                        exact ho')
                    | sy id' base =>
                      simp only at hac
                      cases hcc : (wr && Nat.beq id id' && Nat.beq sz ei.size && Nat.beq (off + base * ei.size) hi0 && Nat.ble len base && plainCells new) with
                      | false => rw [hcc] at hac; cases hac
                      | true =>
                        rw [hcc, cond_true] at hac
                        simp only [Bool.and_eq_true] at hcc
                        obtain ⟨⟨⟨⟨⟨hwr, hid⟩, hsz⟩, hba⟩, hlb⟩, hpl⟩ := hcc
                        have hid := beq_of hid
                        have hsz := beq_of hsz
                        have hba := beq_of hba
                        have hlb := ble_of hlb
                        subst hid hsz
                        subst hwr
                        simp only [Option.some.injEq, Prod.mk.injEq] at hac
                        obtain ⟨rfl, rfl⟩ := hac
                        have hbnx : b ≠ nx := fun e0 => by
                          have := hr.fresh nx (Nat.le_refl _)
                          rw [← e0, hb] at this
                          cases this
                        have hheap : ∀ b', b' ≠ nx → ∀ o', ((hp0.set big b none).set big nx (some (CObj.row (lay cs0 (sh + off + len * ei.size) new) (sh + off) ((len + n) * ei.size) true nk ei.size (bif Nat.beq ty (e + 1) then ty else 0)))).get b' = some o' → hp0.get b' = some o' ∧ b' ≠ b := by
                          intro b' hb' o' ho'
                          rw [Tr.get_set_ne _ _ _ _ _ (fun e => hb' e.symm)] at ho'
                          by_cases ebb : b' = b
                          · subst ebb
                            rw [Tr.get_set_eq _ _ _ _ (by unfold lim at hk3; simp [big]; omega)] at ho'
                            cases ho'
                          · rw [Tr.get_set_ne _ _ _ _ _ (fun e => ebb e.symm)] at ho'
                            exact ⟨ho', ebb⟩
                        have hnewget : ((hp0.set big b none).set big nx (some (CObj.row (lay cs0 (sh + off + len * ei.size) new) (sh + off) ((len + n) * ei.size) true nk ei.size (bif Nat.beq ty (e + 1) then ty else 0)))).get nx = some (CObj.row (lay cs0 (sh + off + len * ei.size) new) (sh + off) ((len + n) * ei.size) true nk ei.size (bif Nat.beq ty (e + 1) then ty else 0)) :=
                          Tr.get_set_eq _ _ _ _ (by unfold lim at hk4; simp [big]; omega)
                        have hty0 : (bif Nat.beq ty (e + 1) then ty else 0) ≠ 0 → ty = e + 1 ∧ (bif Nat.beq ty (e + 1) then ty else 0) = ty := by
                          intro h0
                          cases hb : Nat.beq ty (e + 1) with
                          | true => exact ⟨beq_of hb, rfl⟩
                          | false => rw [hb] at h0; exact absurd rfl h0
                        by_cases hCl : C < len + n
                        · exact grown _ (fun h0 => by obtain ⟨g1, g2⟩ := hty0 h0; rw [g2, g1]) hCl _ hnewget (fun b' hb' o' ho' => (hheap b' hb' o' ho').1)
                        · -- there was room
                          rcases f4 with f4 | ⟨_, y, hy, f4⟩
                          · omega
                          have hC' : C = base + y := by
                            simp only [Ren.cap, hy, Option.map_some, Option.some.injEq] at hC
                            omega
                          have hCle : len + n ≤ C := by omega
                          have m1 : C * ei.size = base * ei.size + y * ei.size := by rw [hC', Nat.add_mul]
                          have m2 : (len + n) * ei.size ≤ C * ei.size := Nat.mul_le_mul_right _ hCle
                          have m3 : (C - (len + n)) * ei.size + (len + n) * ei.size = C * ei.size := by rw [← Nat.add_mul]; congr 1; omega
                          have hbl : base < len + n := not_ble hcl2
                          have m4 : base * ei.size ≤ (len + n) * ei.size := Nat.mul_le_mul_right _ (by omega)
                          -- every cell up to the capacity's end
                          have hall : ∀ q, q < C * ei.size → (∃ V, csr[off + q + D]? = some V) ∧ ¬ (fz.1 ≤ off + q + D ∧ off + q + D < fz.2) := by
                            intro q hq
                            by_cases hin : off + q < hi0
                            · obtain ⟨v, V, _, _, g3, g4⟩ := f3 (off + q) hin
                              exact ⟨⟨V, g3⟩, g4 rfl⟩
                            · obtain ⟨g3, g4⟩ := f4 (off + q - hi0) (by omega)
                              rw [show hi0 + D + (off + q - hi0) = off + q + D by omega] at g3 g4
                              exact ⟨g3, g4 rfl⟩
                          obtain ⟨cs', e1, e2, e3, e4⟩ := setCells_row news (off + len * ei.size + D) w csr f2
                          obtain ⟨p1, p2, p3⟩ := setCells_rest (B := B) news (off + len * ei.size + D) w
                          have hst : (storeCells ⟨B, off + len * ei.size + D, none⟩ news).run P w = .ok () (w.setCells B (off + len * ei.size + D) news) := by
                            have hcell : ∀ q, q < news.length → (w.cell? ⟨B, off + len * ei.size + D + 0 + q, none⟩).isSome = true ∧ w.frozen? ⟨B, off + len * ei.size + D + 0 + q, none⟩ = false := by
                              intro q hq
                              obtain ⟨⟨V, g1⟩, g2⟩ := hall (len * ei.size + q) (by omega)
                              have e5 : off + len * ei.size + D + 0 + q = off + (len * ei.size + q) + D := by omega
                              rw [e5]
                              refine ⟨by simp [World.cell?, f2, g1], ?_⟩
                              obtain ⟨lo, up⟩ := fz
                              simp only [World.frozen?, f2]
                              simp only [not_and] at g2
                              by_cases hl : lo ≤ off + (len * ei.size + q) + D
                              · have := g2 hl
                                simp [hl]; omega
                              · simp [hl]
                            have := run_storeCells_cells (P := P) B (off + len * ei.size + D) news 0 w (fun q hq => (hcell q hq).1) (fun q hq => (hcell q hq).2) (plain_one hpl hnr)
                            simpa using this
                          refine ⟨ρ.ext nx (B, D + off) nk (C - (len + n)), _, .slice (some ⟨B, off + D, none⟩) (len + n) C,
                            Stp.moved (S := ⟨hp0, nx, nk⟩) hr ⟨_, hbrow, rfl⟩ hb e1 (fun k hk => setCells_other hk news _ w) (setCells_size news _ w) p1 p2 p3 (ext_le hr _ _) (by simp [Ren.ext]; rfl) (fun i hi => by simp only [Ren.ext]; rw [if_neg hi])
                              (by simp) (fun i hi => ?_) ?_ hnewget hheap, ?_, ?_⟩
                          · have hi : nk + 1 ≤ i := hi
                            simp only [Ren.ext]
                            rw [if_neg (by omega)]
                            exact hr.freshk i (by simp; omega)
                          · refine ⟨fun q hq => ?_, .inr ⟨by omega, C - (len + n), by simp [Ren.ext], fun q hq => ?_⟩, fun h0 => by obtain ⟨g1, g2⟩ := hty0 h0; rw [g2]; exact f5 (by omega)⟩
                            · obtain ⟨v, V, a1, a2, a3, a4⟩ := hrow q hq
                              obtain ⟨g1, g2⟩ := hall q (by omega)
                              have e5 : q + (D + off) = off + q + D := by omega
                              refine ⟨v, V, a1, real_mono (ext_le hr _ _) _ _ a2, ?_, fun _ => by rw [e5]; exact g2⟩
                              rw [e5]
                              by_cases hin : q < len * ei.size
                              · rw [e3 _ (by omega)]
                                exact (a3 hin).1
                              · have hsz := (Array.getElem?_eq_some_iff.1 g1.choose_spec).1
                                have := e4 (q - len * ei.size) (by omega) (by omega)
                                rw [show off + len * ei.size + D + (q - len * ei.size) = off + q + D by omega, a4 (by omega)] at this
                                exact this
                            · obtain ⟨⟨V, g1⟩, g2⟩ := hall ((len + n) * ei.size + q) (by omega)
                              have e5 : (len + n) * ei.size + (D + off) + q = off + ((len + n) * ei.size + q) + D := by omega
                              rw [e5]
                              exact ⟨⟨V, by rw [e3 _ (by omega)]; exact g1⟩, fun _ => g2⟩
                          · simp only [real, Ren.ext, if_true, Option.bind_some, Ren.cap, Option.map_some, Option.some.injEq, Value.slice.injEq, Nat.zero_add, true_and, Addr.mk.injEq, and_true]
                            omega
                          · rw [run_append_in w t u o.type e ei j.desc htu huu hj he _ len C (a.eval x) n news (hrun w rfl).1 (hrun w rfl).2 hCle]
                            have : (⟨B, off + D, none⟩ : Addr).add (len * ei.size) = ⟨B, off + len * ei.size + D, none⟩ := by
                              rw [Addr.add_lit]
                              simp only [Addr.mk.injEq, and_true, true_and]
                              omega
                            simp [this, hst]
                · cases hac
            · cases hac
      · cases h
    · cases h
  · cases h

end
end Go.Ev

namespace Go.Ev

/-- A new name for a block. -/
def Ren.extb (ρ : Ren) (nx : Nat) (x : Nat × Nat) : Ren := ⟨fun i => if i = nx then some x else ρ.b i, ρ.k, ρ.v⟩

theorem extb_le {ρ : Ren} {S : St} {w : World} (h : Rel ρ S w) (x : Nat × Nat) : ρ.Le (ρ.extb S.next x) := by
  refine ⟨fun i z hz => ?_, fun i z hz => hz, rfl⟩
  have : i ≠ S.next := fun e => by
    have := h.fresh i (by omega)
    rw [hz] at this
    cases this
  simp [Ren.extb, this, hz]

theorem Stp.alloc {ρ : Ren} {S : St} {w w' : World} (h : Rel ρ S w) {o : CObj} {O : Obj} (ho : ObjRel ρ 0 o O) (hn : S.next < lim) (hh : w'.heap = w.heap.push O) (h1 : w'.os = w.os) (h2 : w'.tape = w.tape) (h3 : w'.output = w.output) :
    Stp ρ S w (ρ.extb S.next (w.heap.size, 0)) ⟨S.heap.set big S.next (some o), S.next + 1, S.nk⟩ w' := by
  refine Stp.fresh h hh h1 h2 h3 (extb_le h _) (by simp [Ren.extb]) (fun i hi => by simp only [Ren.extb]; rw [if_neg hi]) (Nat.le_refl _) (fun i hi => h.freshk i hi) (ho.mono (extb_le h _))
    (Tr.get_set_eq _ _ _ _ (by unfold lim at hn; simp [big]; omega)) (fun b hb o' ho' => ?_)
  rw [Tr.get_set_ne _ _ _ _ _ (fun e => hb e.symm)] at ho'
  exact ho'

section
variable {P : Program} {o : Oper}

theorem new_makeSlice {t : TypeId} {l c : Operand} {i : TyE} {e : TypeId} {ei : TyE} {z : CV} (ht : tyOf P t = some i) (hi : i.desc = .slice e) (he : tyOf P e = some ei) (hz : zeroOf P e = some z) (hzl : z.cells.length = ei.size) (hs0 : ei.size ≠ 0)
    (ho : o.op = .makeSlice t l c) : NewOK P o (mkSlice z.cells ei.bytes (opd P l) (opd P c)) := by
  intro ρ nt tm a obj mk hf hg h
  have htu : P.underlying t = some (.slice e) := by obtain ⟨_, _, h2, _⟩ := tyOf_some ht; rw [h2, hi]
  unfold mkSlice at h
  split at h
  · rename_i lv cv hlv hcv
    have hlv := opd_real hf hg l lv hlv
    have hcv := opd_real hf hg c cv hcv
    split at h
    · rename_i ln cn hln hcn
      obtain ⟨kl, rfl⟩ := asNat_some hln
      obtain ⟨kc, rfl⟩ := asNat_some hcn
      simp only [real, Option.some.injEq] at hlv hcv
      cases hcc : (Nat.ble ln cn && Nat.blt (cn * ei.bytes) lim && Nat.blt cn lim && Nat.blt (rep z.cells cn).length lim) with
      | false => rw [hcc] at h; cases h
      | true =>
        rw [hcc, cond_true] at h
        simp only [Bool.and_eq_true] at hcc
        obtain ⟨⟨⟨h1, h2⟩, h3⟩, h4⟩ := hcc
        have h1 := ble_of h1
        have h2 := blt_of h2
        have h3 := blt_of h3
        have h4 := blt_of h4
        cases h
        obtain ⟨zz, hzz, hzr⟩ : ∃ zz : Value, ei.zero = some zz ∧ reals ρ z.cells = some zz.cells.toList := by
          unfold zeroOf at hz
          rw [he] at hz
          simp only at hz
          cases hq : ei.zero with
          | none => rw [hq] at hz; cases hz
          | some zz =>
            rw [hq] at hz
            simp only at hz
            exact ⟨zz, rfl, cells_real (ofV_real (ρ := ρ) _ _ _ hz)⟩
        obtain ⟨info, i0, i1, i2, i3, i4⟩ := tyOf_some he
        have hbi : (info.bytes : Int) * (cn : Int) ≤ 281474976710656 := by
          rw [i3, Int.mul_comm]
          have : ((cn * ei.bytes : Nat) : Int) ≤ 281474976710656 := by unfold lim at h2; omega
          rwa [Int.natCast_mul] at this
        have hrun := fun w => run_make (P := P) w t e info zz htu i0 (by rw [i4, hzz]) kl kc (Int.ofNat ln) (Int.ofNat cn) (by simp) (by simpa using h1) (by simpa using hbi) (by unfold lim at h3; simp; omega)
        have hsz : zz.cells.size = ei.size := by
          have := reals_length hzr
          rw [← hzl, ← this, Array.length_toList]
        have hmade : madeCells zz.cells (cn * ei.size) = (repV zz.cells.toList cn).toArray := by
          have := zeros_eq zz.cells cn (by omega)
          rw [hsz] at this
          rw [← this]
          simp [madeCells, hsz]
        simp only [Int.ofNat_eq_natCast, Int.toNat_natCast] at hrun
        rw [i2] at hrun
        simp only [hmade] at hrun
        refine ⟨.cells (repV zz.cells.toList cn).toArray e, rowOf_rel (reals_rep hzr cn) h4 e, fun w => ⟨.slice (some ⟨w.heap.size, 0, none⟩) ln cn, ?_, fun ρ' b hb => by simp [real, hb, Ren.cap]⟩⟩
        simp only [execOp, ho, Sem.run_bind, ← hlv, ← hcv]
        simp only [Int.ofNat_eq_natCast]
        rw [hrun]
        rfl
    · cases h
  · cases h

theorem chain_nextStr {it : Operand} (ho : o.op = .next it true) : ChainOK P o (nextStr (opd P it)) := by
  intro ρ nt tm a r S S' w hf hg hr h
  obtain ⟨hp0, nx, nk⟩ := S
  unfold nextStr at h
  split at h
  · rename_i q h' nx' nk' hq hS
    cases hS
    have hq := opd_real hf hg it _ hq
    split at h
    · rename_i s pos hit
      obtain ⟨R, D, O, e1, e2, e3⟩ := hr.obj q _ hit
      cases O with
      | stringIter s' posR =>
        obtain ⟨rfl, rfl, rfl⟩ := e3
        simp only [real, e1, Option.map_some, Option.some.injEq, Nat.add_zero] at hq
        have hget : (getObj R).run P w = .ok (.stringIter (strReal s) posR) w := by simp [getObj, Sem.run, e2]
        split at h
        · rename_i hend
          cases h
          refine ⟨ρ, w, _, Stp.refl hr, rfl, ?_⟩
          have : ¬ posR < s.length := by
            intro hlt
            rw [List.getElem?_eq_getElem hlt] at hend
            cases hend
          simp [execOp, ho, Instr.next, ← hq, hget, strReal_size, this]
        · rename_i ch hch
          cases hcc : (Nat.blt ch 128 && Nat.blt q lim) with
          | false => rw [hcc] at h; cases h
          | true =>
            rw [hcc, cond_true] at h
            cases h
            simp only [Bool.and_eq_true] at hcc
            have hc1 := blt_of hcc.1
            have hlt := (List.getElem?_eq_some_iff.1 hch).1
            have hsz : posR < (strReal s).size := by rw [strReal_size]; exact hlt
            have hval : ((strReal s)[posR]'hsz).toNat = ch := by
              have : ((strReal s)[posR]'hsz) = UInt8.ofNat ch := by
                have h1 := (List.getElem?_eq_some_iff.1 hch).2
                simp only [strReal, ByteArray.getElem_eq_getElem_data]
                simp [h1]
              rw [this, UInt8.toNat_ofNat']
              omega
            have hdec := decode_ascii (strReal s) posR hsz (by rw [hval]; exact hc1)
            rw [hval] at hdec
            refine ⟨ρ, _, _, Stp.setObj hr hit e1 (blt_of hcc.2) e2 (O' := .stringIter (strReal s) (posR + 1)) ⟨rfl, rfl, rfl⟩, rfl, ?_⟩
            simp [execOp, ho, Instr.next, ← hq, hget, hsz, hdec, run_setIter e2, goInt]
      | _ => exact e3.elim
    · cases h
  · cases h

end
end Go.Ev

namespace Go.Ev

section
variable {P : Program} {ρ : Ren} {S : St} {w : World} {o : Oper}

/-- A longer row that bears a mark behind its cells. -/
theorem grown_rel_marked {cells : Tr CV} {sh hi id sz x : Nat} {L : List Value} {Z : Array Value} {e : TypeId} {fz : Nat × Nat} (hL : L.length = hi)
    (hc : ∀ i, i < hi → ∃ v V, cells.get (i + sh) = some v ∧ real ρ v = some V ∧ L[i]? = some V) (hk : ρ.k id = some x) (hz : Z.size = x * sz) (hnz : sz ≠ 0) (hf : L.length + Z.size ≤ fz.1) :
    ObjRel ρ 0 (.row cells sh hi true id sz 0) (.cells (L.toArray ++ Z) e fz) := by
  refine ⟨fun i hi' => ?_, .inr ⟨hnz, x, hk, fun j hj => ⟨?_, fun _ => by omega⟩⟩, fun h => absurd rfl h⟩
  · obtain ⟨v, V, h1, h2, h3⟩ := hc i hi'
    refine ⟨v, V, h1, h2, ?_, fun _ => by omega⟩
    rw [Array.getElem?_append_left (by simp; omega)]
    simpa using h3
  · refine ⟨Z[j]'(by omega), ?_⟩
    rw [Array.getElem?_append_right (by simp; omega)]
    simp only [List.size_toArray]
    rw [show hi + 0 + j - L.length = j by omega, Array.getElem?_eq_getElem (by omega)]

theorem chain_strToBytes {s d e : TypeId} {x : Operand} {i j k : TyE} (hs : tyOf P s = some i) (hd : tyOf P d = some j) (hi : i.desc = .string) (hj : j.desc = .slice e) (he : tyOf P e = some k) (hk : k.desc = .int .u8) (ho : o.op = .convert s d x) :
    ChainOK P o (strToBytes (opd P x)) := by
  intro ρ nt tm a r S S' w hf hg hr h
  have us := und_of hs
  have ud := und_of hd
  have ue := und_of he
  rw [hi] at us
  rw [hj] at ud
  rw [hk] at ue
  unfold strToBytes at h
  split at h
  · rename_i t hx
    have hX := opd_real hf hg x _ hx
    simp only [real, Option.some.injEq] at hX
    cases hcc : (Nat.blt t.length lim && allBytes t) with
    | false => rw [hcc] at h; cases h
    | true =>
      rw [hcc, cond_true] at h
      simp only [Bool.and_eq_true] at hcc
      have hl := blt_of hcc.1
      have hb := allBytes_mem t hcc.2
      obtain ⟨hp0, nx, nk⟩ := S
      simp only at h
      cases hnx : Nat.blt nx lim with
      | false => rw [hnx] at h; cases h
      | true =>
        rw [hnx, cond_true] at h
        cases h
        have hnx := blt_of hnx
        have hsz : (strReal t).size = t.length := strReal_size t
        have hge := grownCap_ge w t.length 0 e
        have hrun := run_bytes_of_string (P := P) w s d e (strReal t) us ud ue
        have hnr : reals ρ (bytesOf t) = some (t.map fun n => Value.int .u8 (.ofNat n)) := by
          rw [bytesOf_map]; exact reals_bytes t
        have hbr : bytesRow (strReal t) (grownCap w t.length 0 e) = (t.map fun n => Value.int .u8 (.ofNat n)).toArray ++ Array.replicate (grownCap w t.length 0 e - t.length) (.int .u8 0) := by
          unfold bytesRow
          rw [hsz, str_cells t hb]
        have hlen : (bytesOf t).length = t.length := by rw [bytesOf_map, List.length_map]
        rw [hsz] at hrun
        refine ⟨ρ.ext nx (w.heap.size, 0) nk (grownCap w t.length 0 e - t.length), w.drew.alloc (.cells (bytesRow (strReal t) (grownCap w t.length 0 e)) e ((bytesRow (strReal t) (grownCap w t.length 0 e)).size, (bytesRow (strReal t) (grownCap w t.length 0 e)).size + 1)), .slice (some ⟨w.heap.size, 0, none⟩) t.length (grownCap w t.length 0 e), ?_, ?_, ?_⟩
        rotate_left 2
        · simp only [execOp, ho, ← hX, Sem.run_bind, hrun, Result.andThen_ok, Sem.run_pure]
        · refine Stp.fresh (S := ⟨hp0, nx, nk⟩) hr (o := rowCap (bytesOf t) nk 1 0) rfl rfl rfl rfl (ext_le hr _ _) (by simp [Ren.ext]) (fun i hi => by simp only [Ren.ext]; rw [if_neg hi])
            (by simp) (fun i hi => ?_) ?_ ?_ (fun b hb o' ho' => ?_)
          · have hi : nk + 1 ≤ i := hi
            simp only [Ren.ext]
            rw [if_neg (by omega)]
            exact hr.freshk i (by simp; omega)
          · have := grown_rel_marked (ρ := ρ.ext nx (w.heap.size, 0) nk (grownCap w t.length 0 e - t.length)) (cells := lay .leaf 0 (bytesOf t)) (sh := 0) (hi := t.length) (id := nk) (sz := 1) (x := grownCap w t.length 0 e - t.length) (L := t.map fun n => Value.int .u8 (.ofNat n))
              (Z := Array.replicate (grownCap w t.length 0 e - t.length) (.int .u8 0)) (e := e) (fz := ((bytesRow (strReal t) (grownCap w t.length 0 e)).size, (bytesRow (strReal t) (grownCap w t.length 0 e)).size + 1)) (by simp) (fun q hq => ?_) (by simp [Ren.ext]) (by simp) (by omega) (by rw [hbr]; simp)
            · rw [hbr] at this ⊢
              simpa [rowCap, hlen] using this
            · have hgt := lay_get (bytesOf t) .leaf 0 q (by rw [hlen]; unfold lim at hl; omega)
              rw [if_pos ⟨Nat.zero_le _, by omega⟩, Nat.sub_zero] at hgt
              have hq' : (bytesOf t)[q]? = some ((bytesOf t)[q]'(by omega)) := List.getElem?_eq_getElem _
              obtain ⟨V, hV, hV'⟩ := reals_get (reals_mono (ext_le hr (w.heap.size, 0) (grownCap w t.length 0 e - t.length)) _ _ hnr) q _ hq'
              exact ⟨_, V, by rw [Nat.add_zero, hgt, hq'], hV, hV'⟩
          · exact Tr.get_set_eq _ _ _ _ (by unfold lim at hnx; simp [big]; omega)
          · rw [Tr.get_set_ne _ _ _ _ _ (fun e => hb e.symm)] at ho'
            exact ho'
        · simp only [real, Ren.ext, if_true, Option.bind_some, Ren.cap, Option.map_some, Option.some.injEq, Value.slice.injEq, Nat.zero_add, true_and]
          omega
  · cases h

end
end Go.Ev
