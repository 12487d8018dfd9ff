/-
  A new block behind what was; maps whose entries' numbers rise. The extern internal/bytealg.IndexByteString. The externs internal/abi.NoEscape and internal/bytealg.CountString. A function told by hand: a copy of a map, made entry by entry in an order that nobody knows.
-/
import Derived.Test.YtpapmpmjnhcheaaGreatDoorEvS
import Derived.Below
import Derived.Test.YtpapmpmjnhcheaaGreatDoorEvQ
import Derived.Laws.Externs
import Derived.Lib.Bytealg
import Derived.Test.YtpapmpmjnhcheaaGreatDoorEvV
import Derived.Test.YtpapmpmjnhcheaaGreatDoorEvL
import Derived.Maps.Range
set_option linter.all false

namespace Go.Ev
open Go.RowKit

/-- A new row, somewhere behind what was. -/
theorem Stp.behind {ρ : Ren} {S : St} {w w' : World} (h : Rel ρ S w) (hb : Below w.heap.size w w') {g x : Nat} {O : Obj} {o : CObj} (hg : w.heap.size ≤ g) (hO : w'.heap[g]? = some O) (ho : ObjRel (ρ.ext S.next (g, 0) S.nk x) 0 o O) (hn : S.next < lim) :
    Stp ρ S w (ρ.ext S.next (g, 0) S.nk x) ⟨S.heap.set big S.next (some o), S.next + 1, S.nk + 1⟩ w' := by
  have hle := ext_le h (g, 0) x
  have hbo : ∀ i, i ≠ S.next → (ρ.ext S.next (g, 0) S.nk x).b i = ρ.b i := fun i hi => by simp [Ren.ext, hi]
  have hbn : (ρ.ext S.next (g, 0) S.nk x).b S.next = some (g, 0) := by simp [Ren.ext]
  have hbig : S.next + 1 < 2 ^ big := by unfold lim at hn; simp [big]; omega
  have hold : ∀ b o', (S.heap.set big S.next (some o)).get b = some o' → b ≠ S.next → S.heap.get b = some o' := fun b o' hb' hne => by
    rw [Tr.get_set_ne _ _ _ _ _ (fun e => hne e.symm)] at hb'
    exact hb'
  refine ⟨hle, ⟨?_, ?_, ?_, ?_⟩, by simp, by simp, ?_, hb.size, ?_, hb.os, hb.tape, hb.output, fun b hb' => hbo b (by omega), ?_⟩
  · intro b o' hb'
    by_cases e : b = S.next
    · subst e
      have hb' : (S.heap.set big S.next (some o)).get S.next = some o' := hb'
      rw [Tr.get_set_eq _ _ _ _ hbig] at hb'
      cases hb'
      exact ⟨g, 0, O, hbn, hO, ho⟩
    · have h1 := hold b o' hb' e
      obtain ⟨B, D, O', e1, e2, e3⟩ := h.obj b o' h1
      exact ⟨B, D, O', hle.b _ _ e1, by rw [hb.block B (h.lt ⟨o', h1⟩ e1)]; exact e2, e3.mono hle⟩
  · rintro b b' B D D' ⟨o1, hb1⟩ ⟨o2, hb2⟩ hw e1 e2
    by_cases i1 : b = S.next <;> by_cases i2 : b' = S.next
    · rw [i1, i2]
    · subst i1
      rw [hbn] at e1
      cases e1
      rw [hbo _ i2] at e2
      have := h.lt ⟨o2, hold b' o2 hb2 i2⟩ e2
      omega
    · subst i2
      rw [hbn] at e2
      cases e2
      rw [hbo _ i1] at e1
      have := h.lt ⟨o1, hold b o1 hb1 i1⟩ e1
      omega
    · rw [hbo _ i1] at e1
      rw [hbo _ i2] at e2
      exact h.inj b b' B D D' ⟨o1, hold b o1 hb1 i1⟩ ⟨o2, hold b' o2 hb2 i2⟩ (hw.imp (fun ⟨o, g, g'⟩ => ⟨o, hold b o g i1, g'⟩) (fun ⟨o, g, g'⟩ => ⟨o, hold b' o g i2, g'⟩)) e1 e2
  · intro b hb'
    have hb' : S.next + 1 ≤ b := hb'
    rw [hbo b (by omega)]
    exact h.fresh b (by omega)
  · intro i hi
    have hi : S.nk + 1 ≤ i := hi
    simp only [Ren.ext]
    rw [if_neg (by omega)]
    exact h.freshk i (by omega)
  · intro y hy _
    exact hb.block y hy
  · rintro b B D ⟨o1, hb1⟩ e1 hlt
    by_cases i1 : b = S.next
    · subst i1
      rw [hbn] at e1
      cases e1
      omega
    · rw [hbo _ i1] at e1
      exact ⟨b, D, ⟨o1, hold b o1 hb1 i1⟩, e1⟩
  · rintro b B D ⟨o1, hb1, hw⟩ e1 hlt
    by_cases i1 : b = S.next
    · subst i1
      rw [hbn] at e1
      cases e1
      omega
    · rw [hbo _ i1] at e1
      exact ⟨b, D, ⟨o1, hold b o1 hb1 i1, hw⟩, e1⟩

noncomputable section
/-- The numbers rise, and are below n. -/
def bornC : Nat → List (CV × CV × Nat) → Nat → Bool
  | _, [], _ => true
  | lo, (_, _, b) :: es, n => Nat.ble lo b && Nat.blt b n && bornC (b + 1) es n

end

theorem born_real {ρ : Ren} : ∀ (es : List (CV × CV × Nat)) (l : List (Value × Value × Nat)) (lo n : Nat), Ents ρ es l → bornC lo es n = true → (l.map (·.2.2)).Pairwise (· < ·) ∧ ∀ x ∈ l, lo ≤ x.2.2 ∧ x.2.2 < n
  | [], l, lo, n, h, _ => by
    have : l = [] := List.length_eq_zero_iff.1 h.1
    subst this
    exact ⟨List.Pairwise.nil, fun x hx => (List.not_mem_nil hx).elim⟩
  | (k, v, b) :: es, l, lo, n, h, hb => by
    obtain ⟨e', l', rfl, a1, a2, a3, he'⟩ := h.tail
    simp only [bornC, Bool.and_eq_true] at hb
    obtain ⟨i1, i2⟩ := born_real es l' (b + 1) n he' hb.2
    have h1 := ble_of hb.1.1
    have h2 := blt_of hb.1.2
    simp only at a3
    refine ⟨?_, fun x hx => ?_⟩
    · rw [List.map_cons]
      refine List.pairwise_cons.2 ⟨fun y hy => ?_, i1⟩
      obtain ⟨x, hx, rfl⟩ := List.mem_map.1 hy
      have := (i2 x hx).1
      omega
    · rcases List.mem_cons.1 hx with rfl | hx
      · omega
      · have := i2 x hx
        omega

theorem Stp.below {ρ : Ren} {S : St} {w w' : World} (h : Rel ρ S w) (hb : Below w.heap.size w w') : Stp ρ S w ρ S w' := by
  refine ⟨.refl ρ, ⟨fun b o hbo => ?_, h.inj, h.fresh, h.freshk⟩, Nat.le_refl _, Nat.le_refl _, fun y hy _ => hb.block y hy, hb.size, fun b _ D hb' e _ => ⟨b, D, hb', e⟩, hb.os, hb.tape, hb.output, fun _ _ => rfl, fun b _ D hb' e _ => ⟨b, D, hb', e⟩⟩
  obtain ⟨B, D, O, e1, e2, e3⟩ := h.obj b o hbo
  exact ⟨B, D, O, e1, by rw [hb.block B (h.lt ⟨o, hbo⟩ e1)]; exact e2, e3⟩

end Go.Ev

namespace Go.Ev

/-- The first place of a byte, from place i on. -/
def firstByte (c : Nat) : Nat → List Nat → Option Int
  | _, [] => some (-1)
  | i, b :: s => bif Nat.beq b c then some (.ofNat i) else bif Nat.blt b 256 then firstByte c (i + 1) s else none

def indexBytePrim (args : List CV) (S : St) : CRes :=
  match args with
  | [.str s, .int .u8 (.ofNat c)] => bif Nat.blt c 256 then (match firstByte c 0 s with
    | some i => .ok (.int .i64 i) S
    | none => .fail) else .fail
  | _ => .fail

theorem firstByte_spec {c : Nat} (hc : c < 256) : ∀ (s : List Nat) (i : Nat) (r : Int), firstByte c i s = some r →
    (∃ j, j < s.length ∧ r = ((i + j : Nat) : Int) ∧ (s.map UInt8.ofNat)[j]? = some (UInt8.ofNat c) ∧ ∀ k : Nat, k < j → (s.map UInt8.ofNat)[k]? ≠ some (UInt8.ofNat c)) ∨ (r = -1 ∧ ∀ k : Nat, (s.map UInt8.ofNat)[k]? ≠ some (UInt8.ofNat c))
  | [], i, r, h => by
    simp only [firstByte, Option.some.injEq] at h
    exact .inr ⟨h.symm, fun k => by simp⟩
  | b :: s, i, r, h => by
    simp only [firstByte] at h
    cases hb : Nat.beq b c with
    | true =>
      rw [hb, cond_true] at h
      cases h
      obtain rfl := beq_of hb
      exact .inl ⟨0, by simp, by simp, by simp, fun k hk => by omega⟩
    | false =>
      rw [hb, cond_false] at h
      cases hl : Nat.blt b 256 with
      | false => rw [hl] at h; cases h
      | true =>
        rw [hl, cond_true] at h
        have hne : b ≠ c := fun e => by rw [beq_yes e] at hb; cases hb
        have hne' : UInt8.ofNat b ≠ UInt8.ofNat c := fun e => hne (ofNat_inj (blt_of hl) hc e)
        rcases firstByte_spec hc s (i + 1) r h with ⟨j, h1, h2, h3, h4⟩ | ⟨h1, h2⟩
        · refine .inl ⟨j + 1, by simp; omega, by rw [h2]; congr 1; omega, by simpa using h3, fun k hk => ?_⟩
          cases k with
          | zero => simpa using hne'
          | succ k => simpa using h4 k (by omega)
        · refine .inr ⟨h1, fun k => ?_⟩
          cases k with
          | zero => simpa using hne'
          | succ k => simpa using h2 k

theorem getBang_strReal (s : List Nat) (i : Nat) (h : i < s.length) : some ((strReal s)[i]!) = (s.map UInt8.ofNat)[i]? := by
  have hs : i < (strReal s).size := by rw [strReal_size]; exact h
  rw [getElem!_pos (strReal s) i hs]
  have : (strReal s)[i] = (strReal s).data[i]'hs := rfl
  rw [this]
  simp [strReal, h]

theorem firstIdx_eq {c : Nat} (hc : c < 256) {s : List Nat} {r : Int} (h : firstByte c 0 s = some r) : firstIdx (strReal s) (Int.ofNat c).toNat.toUInt8 = r := by
  have e : (Int.ofNat c).toNat.toUInt8 = UInt8.ofNat c := rfl
  have key : ∀ i, i < s.length → ((strReal s)[i]! == UInt8.ofNat c) = ((s.map UInt8.ofNat)[i]? == some (UInt8.ofNat c)) := by
    intro i hi
    rw [← getBang_strReal s i hi]
    simp
  rw [e]
  unfold firstIdx
  rcases firstByte_spec hc s 0 r h with ⟨j, h1, h2, h3, h4⟩ | ⟨h1, h2⟩
  · have : (List.range (strReal s).size).find? (fun i => (strReal s)[i]! == UInt8.ofNat c) = some j := by
      rw [List.find?_range_eq_some]
      refine ⟨by rw [key j h1, h3]; simp, by rw [strReal_size]; simpa using h1, fun k hk => ?_⟩
      rw [key k (by omega)]
      simpa using h4 k hk
    rw [this, h2]
    simp
  · have : (List.range (strReal s).size).find? (fun i => (strReal s)[i]! == UInt8.ofNat c) = none := by
      rw [List.find?_range_eq_none]
      intro i hi
      rw [strReal_size] at hi
      rw [key i hi]
      simpa using h2 i
    rw [this, h1]

theorem indexByte_prim {P : Program} {f : FuncId} {fn : Func} (hf : P.funcs[f]? = some fn) (hname : (fn.name == "runtime.NumGoroutine") = false) (hb : fn.body.isNone = true) (hn : Extern.findNext fn = none)
    (he : Extern.find fn = some Extern.BytealgIndexByte.indexByte) :
    ∀ (args : List CV) (S : St) (v : CV) (S' : St) (ρ : Ren) (w : World) (L : List Value), indexBytePrim args S = .ok v S' → Rel ρ S w → Glob P ρ → reals ρ args = some L →
    ∀ (o : Oper) (a : Act) (next : Act → World → Prop) (Q : Exit → Act → World → Prop),
      (∀ ρ' w' V, Stp ρ S w ρ' S' w' → real ρ' v = some V → next (a.put o.dst V) w') → o.upon P a next Q ((callFunc f L.toArray).run P w) := by
  intro args S v S' ρ w L h hr hg hL o a next Q hK
  unfold indexBytePrim at h
  split at h
  · rename_i s c
    cases hc : Nat.blt c 256 with
    | false => rw [hc] at h; cases h
    | true =>
      rw [hc, cond_true] at h
      split at h
      · rename_i i hi
        cases h
        simp only [reals, real, Option.bind_some, Option.map_some, Option.some.injEq] at hL
        subst hL
        rw [run_callFunc_extern hf hname hb hn he, run_indexByte_string, firstIdx_eq (blt_of hc) hi]
        exact hK ρ w _ (Stp.refl hr) rfl
      · cases h
  · cases h

end Go.Ev

namespace Go.Ev

def noEscapePrim (args : List CV) (S : St) : CRes :=
  match args with
  | [v] => .ok v S
  | _ => .fail

theorem noEscape_prim {P : Program} {f : FuncId} {fn : Func} (hf : P.funcs[f]? = some fn) (hname : (fn.name == "runtime.NumGoroutine") = false) (hb : fn.body.isNone = true) (hn : Extern.findNext fn = none)
    (he : Extern.find fn = some Extern.AbiNoEscape.same) :
    ∀ (args : List CV) (S : St) (v : CV) (S' : St) (ρ : Ren) (w : World) (L : List Value), noEscapePrim args S = .ok v S' → Rel ρ S w → Glob P ρ → reals ρ args = some L →
    ∀ (o : Oper) (a : Act) (next : Act → World → Prop) (Q : Exit → Act → World → Prop),
      (∀ ρ' w' V, Stp ρ S w ρ' S' w' → real ρ' v = some V → next (a.put o.dst V) w') → o.upon P a next Q ((callFunc f L.toArray).run P w) := by
  intro args S v S' ρ w L h hr hg hL o a next Q hK
  unfold noEscapePrim at h
  split at h
  · rename_i x
    cases h
    simp only [reals, Option.bind_eq_some_iff, Option.map_some, Option.some.injEq] at hL
    obtain ⟨X, hX, rfl⟩ := hL
    have hrun : (Extern.AbiNoEscape.same [X].toArray).run P w = .ok X w := rfl
    rw [run_callFunc_extern hf hname hb hn he, hrun]
    exact hK ρ w X (Stp.refl hr) hX
  · cases h

/-- How often a byte occurs. -/
def countBytes (c : Nat) : List Nat → Option Nat
  | [] => some 0
  | b :: s => (match countBytes c s with
    | some n => bif Nat.beq b c then some (n + 1) else bif Nat.blt b 256 then some n else none
    | none => none)

def countStringPrim (args : List CV) (S : St) : CRes :=
  match args with
  | [.str s, .int .u8 (.ofNat c)] => bif Nat.blt c 256 then (match countBytes c s with
    | some n => .ok (.int .i64 (.ofNat n)) S
    | none => .fail) else .fail
  | _ => .fail

theorem countBytes_spec {c : Nat} (hc : c < 256) : ∀ (s : List Nat) (n : Nat), countBytes c s = some n → (s.map UInt8.ofNat).count (UInt8.ofNat c) = n
  | [], n, h => by simp only [countBytes, Option.some.injEq] at h; subst h; rfl
  | b :: s, n, h => by
    simp only [countBytes] at h
    split at h
    · rename_i m hm
      have ih := countBytes_spec hc s m hm
      cases hb : Nat.beq b c with
      | true =>
        rw [hb, cond_true] at h
        cases h
        obtain rfl := beq_of hb
        rw [List.map_cons, List.count_cons_self, ih]
      | false =>
        rw [hb, cond_false] at h
        cases hl : Nat.blt b 256 with
        | false => rw [hl] at h; cases h
        | true =>
          rw [hl, cond_true] at h
          cases h
          have hne : b ≠ c := fun e => by rw [beq_yes e] at hb; cases hb
          have hne' : UInt8.ofNat b ≠ UInt8.ofNat c := fun e => hne (ofNat_inj (blt_of hl) hc e)
          rw [List.map_cons, List.count_cons_of_ne (by first | exact hne' | exact hne'.symm), ih]
    · cases h

theorem countString_prim {P : Program} {f : FuncId} {fn : Func} (hf : P.funcs[f]? = some fn) (hname : (fn.name == "runtime.NumGoroutine") = false) (hb : fn.body.isNone = true) (hn : Extern.findNext fn = none)
    (he : Extern.find fn = some Extern.BytealgCount.count) :
    ∀ (args : List CV) (S : St) (v : CV) (S' : St) (ρ : Ren) (w : World) (L : List Value), countStringPrim args S = .ok v S' → Rel ρ S w → Glob P ρ → reals ρ args = some L →
    ∀ (o : Oper) (a : Act) (next : Act → World → Prop) (Q : Exit → Act → World → Prop),
      (∀ ρ' w' V, Stp ρ S w ρ' S' w' → real ρ' v = some V → next (a.put o.dst V) w') → o.upon P a next Q ((callFunc f L.toArray).run P w) := by
  intro args S v S' ρ w L h hr hg hL o a next Q hK
  unfold countStringPrim at h
  split at h
  · rename_i s c
    cases hc : Nat.blt c 256 with
    | false => rw [hc] at h; cases h
    | true =>
      rw [hc, cond_true] at h
      split at h
      · rename_i n hi
        cases h
        simp only [reals, real, Option.bind_some, Option.map_some, Option.some.injEq] at hL
        subst hL
        have hcnt : Go.Lib.countByte (strReal s).data.toList (Int.ofNat c).toNat.toUInt8 = n := by
          rw [strReal_data]
          exact countBytes_spec (blt_of hc) s n hi
        rw [run_callFunc_extern hf hname hb hn he, Go.Lib.run_countString, hcnt]
        exact hK ρ w _ (Stp.refl hr) rfl
      · cases h
  · cases h

end Go.Ev

namespace Go.Ev
open Go.RowKit Go.Maps Go.MapKept
open Go.WideElems (Fit rd rg pl rd_key rd_val rg_of rd_mk)

/-- How an element reads: as itself, if it is an aggregate of so many cells. -/
def asHeld (size : Nat) (v : Value) : Option (DataW Value × List MemPlace) :=
  match v with
  | .agg cs => if cs.size = size ∧ cs.toList.all (·.oneCell') = true then some (.held (.agg cs), []) else none
  | _ => none

theorem asHeld_inv {size : Nat} {v : Value} {y : DataW Value × List MemPlace} (h : asHeld size v = some y) : ∃ cs : Array Value, v = .agg cs ∧ cs.size = size ∧ (∀ x ∈ cs.toList, x.oneCell' = true) ∧ y = (.held v, []) := by
  unfold asHeld at h
  split at h
  · rename_i cs
    split at h
    · rename_i hc
      cases h
      exact ⟨cs, rfl, hc.1, List.all_eq_true.1 hc.2, rfl⟩
    · cases h
  · cases h

/-- What is known of the copying function. -/
def CopiedHas (P : Program) (f : FuncId) (kt : TypeId) (size : Nat) : Prop :=
  ∀ (b n : Nat) (D0 : DataW Value) (W : World), W.ownsMap P kt (asHeld size) b n D0 → Maps.size D0 ≤ maxLen →
    Calls P f #[.map (some b)] W fun e w' => e = .returned (.map (some W.heap.size)) ∧ w'.ownsMap P kt (asHeld size) W.heap.size (Maps.size D0) D0 ∧ Below W.heap.size W w'

/-- Whole numbers as keys, in their range. -/
noncomputable def intKey : CV → Bool
  | .int .i64 (.ofNat n) => Nat.blt n 9223372036854775808
  | .int .i64 (.negSucc n) => Nat.blt n 9223372036854775808
  | _ => false
noncomputable def intKeys : List (CV × CV × Nat) → Bool
  | [] => true
  | e :: es => intKey e.1 && intKeys es

/-- Aggregates of a size as elements. -/
noncomputable def aggVals (size : Nat) : List (CV × CV × Nat) → Bool
  | [] => true
  | (_, .agg l, _) :: es => Nat.beq l.length size && plainCells l && aggVals size es
  | _ => false

noncomputable def copiedPrim (size : Nat) (args : List CV) (S : St) : CRes :=
  match args, S with
  | [.map r], ⟨h, nx, nk⟩ => (match h.get r with
    | some (.map es clock) => bif keysApart es && intKeys es && aggVals size es && bornC 0 es clock && Nat.blt es.length 1000 && Nat.blt nx lim then .ok (.map nx) ⟨h.set big nx (some (.mapU es)), nx + 1, nk + 1⟩ else .fail
    | _ => .fail)
  | _, _ => .fail

def litV : Lit → Value
  | .int k n => .int k n
  | _ => .nilFunc
def heldV : DataW Value → Value
  | .held v => v
  | _ => .nilFunc

theorem intKey_spec {k : CV} (h : intKey k = true) : ∃ n : Int, k = .int .i64 n ∧ (Lit.int .i64 n).wf = true := by
  unfold intKey at h
  split at h
  · have h1 := blt_of h
    refine ⟨_, rfl, ?_⟩
    simp [Lit.wf, IntKind.min, IntKind.max, IntKind.signed, IntKind.bits]
    omega
  · have h1 := blt_of h
    refine ⟨_, rfl, ?_⟩
    simp [Lit.wf, IntKind.min, IntKind.max, IntKind.signed, IntKind.bits]
    omega
  · cases h

theorem intKeys_spec : ∀ (es : List (CV × CV × Nat)), intKeys es = true → ∀ e, e ∈ es → ∃ n : Int, e.1 = .int .i64 n ∧ (Lit.int .i64 n).wf = true
  | [], _, e, he => by cases he
  | x :: es, h, e, he => by
    simp only [intKeys, Bool.and_eq_true] at h
    rcases List.mem_cons.1 he with rfl | he
    · exact intKey_spec h.1
    · exact intKeys_spec es h.2 e he

theorem aggVals_spec {size : Nat} : ∀ (es : List (CV × CV × Nat)), aggVals size es = true → ∀ e, e ∈ es → ∃ l, e.2.1 = .agg l ∧ l.length = size ∧ plainCells l = true
  | [], _, e, he => by cases he
  | (k, v, b) :: es, h, e, he => by
    cases v <;> simp only [aggVals, Bool.false_eq_true] at h
    rename_i l
    simp only [Bool.and_eq_true] at h
    rcases List.mem_cons.1 he with rfl | he
    · exact ⟨l, rfl, beq_of h.1.1, h.1.2⟩
    · exact aggVals_spec es h.2 e he

theorem keyOf_litV {P : Program} {kt : TypeId} (hk : P.underlying kt = some (.int .i64)) {v : Value} {l : Lit} (h : keyOf P kt v = some l) : v = litV l := by
  simp only [keyOf, hk, mapKey] at h
  cases v <;> simp at h
  obtain ⟨⟨rfl, _⟩, rfl⟩ := h
  rfl

theorem keys_apart {ρ : Ren} : ∀ (es : List (CV × CV × Nat)) (l : List (Value × Value × Nat)), Ents ρ es l → keysApart es = true → intKeys es = true → l.Pairwise (fun x y => x.1 ≠ y.1)
  | [], l, h, _, _ => by
    have : l = [] := List.length_eq_zero_iff.1 h.1
    subst this
    exact List.Pairwise.nil
  | (k, v, b) :: es, l, h, ha, hi => by
    have hall := intKeys_spec _ hi
    obtain ⟨e', l', rfl, a1, a2, a3, he'⟩ := h.tail
    simp only [keysApart, Bool.and_eq_true] at ha
    have hi' : intKeys es = true := by
      simp only [intKeys, Bool.and_eq_true] at hi
      exact hi.2
    refine List.Pairwise.cons (fun y hy => ?_) (keys_apart es l' he' ha.2 hi')
    obtain ⟨i, hi2⟩ := List.mem_iff_getElem?.1 hy
    have hlt : i < es.length := by rw [← he'.1]; exact (List.getElem?_eq_some_iff.1 hi2).1
    have hei : es[i]? = some es[i] := List.getElem?_eq_getElem hlt
    obtain ⟨x, c1, c2, _, _⟩ := he'.2 i _ hei
    rw [hi2] at c1
    cases c1
    obtain ⟨n, g1, _⟩ := hall (k, v, b) List.mem_cons_self
    obtain ⟨m, g2, _⟩ := hall es[i] (List.mem_cons_of_mem _ (List.getElem_mem hlt))
    have hq := List.all_eq_true.1 ha.1 es[i] (List.getElem_mem hlt)
    simp only at g1
    rw [g1, g2] at hq
    simp only [keyEq, if_true] at hq
    rw [intEq_eq] at hq
    simp only at a1
    rw [g1] at a1
    rw [g2] at c2
    simp only [real, Option.some.injEq] at a1 c2
    rw [← a1, ← c2]
    intro e
    simp only [Value.int.injEq, true_and] at e
    subst e
    simp at hq

theorem copied_prim {P : Program} {f : FuncId} {kt : TypeId} {size : Nat} (hk : P.underlying kt = some (.int .i64)) (he : ∀ args w, (callFunc f args).run P w = .ok (.enter f args) w)
    (hs : CopiedHas P f kt size) : PrimOK P f (copiedPrim size) := by
  intro args S v S' ρ w L h hr hg hL o a next Q hK
  obtain ⟨hp, nx, nk⟩ := S
  unfold copiedPrim at h
  split at h
  · rename_i r h0 nx0 nk0 hS
    cases hS
    split at h
    · rename_i es clock hmap
      cases hc : (keysApart es && intKeys es && aggVals size es && bornC 0 es clock && Nat.blt es.length 1000 && Nat.blt nx lim) with
      | false => rw [hc] at h; cases h
      | true =>
        rw [hc, cond_true] at h
        cases h
        simp only [Bool.and_eq_true] at hc
        obtain ⟨⟨⟨⟨⟨c1, c2⟩, c3⟩, c4⟩, c5⟩, c6⟩ := hc
        have c5 := blt_of c5
        have c6 := blt_of c6
        obtain ⟨R, l, e1, e2, e3⟩ := map_obj hr.has hmap
        obtain ⟨b1, b2⟩ := born_real es l 0 clock e3 c4
        simp only [reals, real, e1, Option.map_some, Option.bind_some, Option.some.injEq] at hL
        subst hL
        have hlen := e3.1
        have hap := keys_apart es l e3 c1 c2
        -- the entries' keys and elements
        have ent : ∀ e' ∈ l, ∃ n : Int, e'.1 = .int .i64 n ∧ (Lit.int .i64 n).wf = true ∧ ∃ cs : Array Value, e'.2.1 = .agg cs ∧ cs.size = size ∧ cs.toList.all (·.oneCell') = true := by
          intro e' he'
          obtain ⟨i, hi⟩ := List.mem_iff_getElem?.1 he'
          have hlt : i < es.length := by rw [← hlen]; exact (List.getElem?_eq_some_iff.1 hi).1
          have hei : es[i]? = some es[i] := List.getElem?_eq_getElem hlt
          obtain ⟨x, a1, a2, a3, _⟩ := e3.2 i _ hei
          rw [hi] at a1
          cases a1
          obtain ⟨n, g1, g2⟩ := intKeys_spec es c2 _ (List.getElem_mem hlt)
          obtain ⟨cl, g3, g4, g5⟩ := aggVals_spec es c3 _ (List.getElem_mem hlt)
          rw [g1] at a2
          simp only [real, Option.some.injEq] at a2
          rw [g3] at a3
          simp only [real, Option.map_eq_some_iff] at a3
          obtain ⟨L0, a4, a5⟩ := a3
          exact ⟨n, a2.symm, g2, L0.toArray, a5.symm, by rw [List.size_toArray, reals_length a4, g4], List.all_eq_true.2 (plain_one g5 a4)⟩
        have rdk : ∀ e' ∈ l, ∃ kl, rd P kt (asHeld size) (entryOf e') = some (kl, .held e'.2.1) ∧ litV kl = e'.1 := by
          intro e' he'
          obtain ⟨n, g1, g2, cs, g3, g4, g5⟩ := ent e' he'
          refine ⟨.int .i64 n, ?_, g1.symm⟩
          refine rd_mk (yv := (.held e'.2.1, [])) ?_ (by rw [g3]; simp only [asHeld]; rw [if_pos ⟨g4, g5⟩])
          show keyOf P kt e'.1 = _
          rw [g1]
          exact keyOf_int_mk hk g2
        -- the map, as the kit reads it
        have hown : w.ownsMap P kt (asHeld size) R l.length (.map (((l.map entryOf).map (rg P kt (asHeld size))).foldr DataW.insert [])) := by
          refine ⟨(l.map entryOf).toArray, clock, e2, ⟨by simp [maxLen]; omega, ⟨fun x hx => ?_, ?_, ?_⟩, fun x hx => ?_⟩, by simp, by simp⟩
          · obtain ⟨e, he1, rfl⟩ := List.mem_map.1 (show x ∈ l.map entryOf from hx)
            exact (b2 e he1).2
          · have : (l.map entryOf).toArray.toList.map (·.born) = l.map (·.2.2) := by simp [entryOf]
            rw [this]
            exact b1.imp (fun h => Nat.ne_of_lt h)
          · have : (l.map entryOf).toArray.toList.map (·.key) = l.map (·.1) := by simp [entryOf]
            rw [this]
            exact List.pairwise_map.2 hap
          · obtain ⟨e, he1, rfl⟩ := List.mem_map.1 (show x ∈ l.map entryOf from hx)
            obtain ⟨kl, h1, _⟩ := rdk e he1
            exact ⟨_, h1⟩
        rw [he]
        rw [Oper.upon_enter]
        have hsz := hown.size_le
        refine Calls.mono (hs R l.length _ w hown (by simp only [maxLen]; omega)) (fun e' w' hq => ?_)
        obtain ⟨rfl, ⟨es', clock', q1, q2, _, q3⟩, q4⟩ := hq
        -- the same entries, in some order
        have hperm : (es'.toList.map fun e => (e.key, e.val)).Perm (l.map fun e => (e.1, e.2.1)) := by
          have p1 : (es'.toList.map (rg P kt (asHeld size))).Perm ((l.map entryOf).map (rg P kt (asHeld size))) := by
            have q3 : ((l.map entryOf).map (rg P kt (asHeld size))).foldr DataW.insert [] = (es'.toList.map (rg P kt (asHeld size))).foldr DataW.insert [] := by
              simpa using q3
            exact (Go.WideShapes.sorted_perm _).symm.trans (q3 ▸ Go.WideShapes.sorted_perm _)
          have p2 := p1.map (fun p : Lit × DataW Value => (litV p.1, heldV p.2))
          have m1 : (es'.toList.map (rg P kt (asHeld size))).map (fun p : Lit × DataW Value => (litV p.1, heldV p.2)) = es'.toList.map fun e => (e.key, e.val) := by
            rw [List.map_map]
            refine List.map_congr_left fun x hx => ?_
            obtain ⟨y, hy⟩ := q2.reads x hx
            obtain ⟨z, hz, hz2⟩ := rd_val hy
            obtain ⟨_, _, _, _, hz⟩ := asHeld_inv hz
            have hkey := keyOf_litV hk (rd_key hy)
            simp only [Function.comp, rg_of hy, hz2, hz, heldV, ← hkey]
          have m2 : ((l.map entryOf).map (rg P kt (asHeld size))).map (fun p : Lit × DataW Value => (litV p.1, heldV p.2)) = l.map fun e => (e.1, e.2.1) := by
            rw [List.map_map, List.map_map]
            refine List.map_congr_left fun x hx => ?_
            obtain ⟨kl, h1, h2⟩ := rdk x hx
            simp only [Function.comp, rg_of h1, heldV, h2]
          rw [m1, m2] at p2
          exact p2
        have hst := Stp.behind (S := ⟨hp, nx, nk⟩) hr q4 (x := 0) (Nat.le_refl _) q1 (o := .mapU es) ?_ c6
        · exact hK _ w' _ hst (by simp [real, Ren.ext])
        · refine ⟨rfl, c1, l.map fun e => (e.1, e.2.1), hperm, by simp [hlen], fun i e hi => ?_⟩
          obtain ⟨x, a1, a2, a3, _⟩ := e3.2 i e hi
          exact ⟨(x.1, x.2.1), by simp [a1], real_mono (ext_le hr _ _) _ _ a2, real_mono (ext_le hr _ _) _ _ a3⟩
    · cases h
  · cases h

end Go.Ev
