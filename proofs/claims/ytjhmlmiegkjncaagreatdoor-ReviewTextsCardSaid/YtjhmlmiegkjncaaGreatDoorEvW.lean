/-
  A new block behind what was; maps whose entries' numbers rise. The extern internal/bytealg.IndexByteString. The externs internal/abi.NoEscape and internal/bytealg.CountString.
-/
import Derived.Test.YtjhmlmiegkjncaaGreatDoorEvS
import Derived.Below
import Derived.Test.YtjhmlmiegkjncaaGreatDoorEvQ
import Derived.Laws.Externs
import Derived.Lib.Bytealg
set_option linter.all false

namespace Go.Ev
open Go.RowKit

/-- A new row, somewhere behind what was. -/
theorem Stp.behind {ρ : Ren} {S : St} {w w' : World} (h : Rel ρ S w) (hb : Below w.heap.size w w') {g x : Nat} {O : Obj} {o : CObj} (hg : w.heap.size ≤ g) (hO : w'.heap[g]? = some O) (ho : ObjRel (ρ.ext S.next (g, 0) S.nk x) 0 o O) (hn : S.next < lim) :
    Stp ρ S w (ρ.ext S.next (g, 0) S.nk x) ⟨S.heap.set big S.next (some o), S.next + 1, S.nk + 1⟩ w' := by
  have hle := ext_le h (g, 0) x
  have hbo : ∀ i, i ≠ S.next → (ρ.ext S.next (g, 0) S.nk x).b i = ρ.b i := fun i hi => by simp [Ren.ext, hi]
  have hbn : (ρ.ext S.next (g, 0) S.nk x).b S.next = some (g, 0) := by simp [Ren.ext]
  have hbig : S.next + 1 < 2 ^ big := by unfold lim at hn; simp [big]; omega
  have hold : ∀ b o', (S.heap.set big S.next (some o)).get b = some o' → b ≠ S.next → S.heap.get b = some o' := fun b o' hb' hne => by
    rw [Tr.get_set_ne _ _ _ _ _ (fun e => hne e.symm)] at hb'
    exact hb'
  refine ⟨hle, ⟨?_, ?_, ?_, ?_⟩, by simp, by simp, ?_, hb.size, ?_, hb.os, hb.tape, hb.output, fun b hb' => hbo b (by omega), ?_⟩
  · intro b o' hb'
    by_cases e : b = S.next
    · subst e
      have hb' : (S.heap.set big S.next (some o)).get S.next = some o' := hb'
      rw [Tr.get_set_eq _ _ _ _ hbig] at hb'
      cases hb'
      exact ⟨g, 0, O, hbn, hO, ho⟩
    · have h1 := hold b o' hb' e
      obtain ⟨B, D, O', e1, e2, e3⟩ := h.obj b o' h1
      exact ⟨B, D, O', hle.b _ _ e1, by rw [hb.block B (h.lt ⟨o', h1⟩ e1)]; exact e2, e3.mono hle⟩
  · rintro b b' B D D' ⟨o1, hb1⟩ ⟨o2, hb2⟩ hw e1 e2
    by_cases i1 : b = S.next <;> by_cases i2 : b' = S.next
    · rw [i1, i2]
    · subst i1
      rw [hbn] at e1
      cases e1
      rw [hbo _ i2] at e2
      have := h.lt ⟨o2, hold b' o2 hb2 i2⟩ e2
      omega
    · subst i2
      rw [hbn] at e2
      cases e2
      rw [hbo _ i1] at e1
      have := h.lt ⟨o1, hold b o1 hb1 i1⟩ e1
      omega
    · rw [hbo _ i1] at e1
      rw [hbo _ i2] at e2
      exact h.inj b b' B D D' ⟨o1, hold b o1 hb1 i1⟩ ⟨o2, hold b' o2 hb2 i2⟩ (hw.imp (fun ⟨o, g, g'⟩ => ⟨o, hold b o g i1, g'⟩) (fun ⟨o, g, g'⟩ => ⟨o, hold b' o g i2, g'⟩)) e1 e2
  · intro b hb'
    have hb' : S.next + 1 ≤ b := hb'
    rw [hbo b (by omega)]
    exact h.fresh b (by omega)
  · intro i hi
    have hi : S.nk + 1 ≤ i := hi
    simp only [Ren.ext]
    rw [if_neg (by omega)]
    exact h.freshk i (by omega)
  · intro y hy _
    exact hb.block y hy
  · rintro b B D ⟨o1, hb1⟩ e1 hlt
    by_cases i1 : b = S.next
    · subst i1
      rw [hbn] at e1
      cases e1
      omega
    · rw [hbo _ i1] at e1
      exact ⟨b, D, ⟨o1, hold b o1 hb1 i1⟩, e1⟩
  · rintro b B D ⟨o1, hb1, hw⟩ e1 hlt
    by_cases i1 : b = S.next
    · subst i1
      rw [hbn] at e1
      cases e1
      omega
    · rw [hbo _ i1] at e1
      exact ⟨b, D, ⟨o1, hold b o1 hb1 i1, hw⟩, e1⟩

noncomputable section
/-- The numbers rise, and are below n. -/
def bornC : Nat → List (CV × CV × Nat) → Nat → Bool
  | _, [], _ => true
  | lo, (_, _, b) :: es, n => Nat.ble lo b && Nat.blt b n && bornC (b + 1) es n

end

theorem born_real {ρ : Ren} : ∀ (es : List (CV × CV × Nat)) (l : List (Value × Value × Nat)) (lo n : Nat), Ents ρ es l → bornC lo es n = true → (l.map (·.2.2)).Pairwise (· < ·) ∧ ∀ x ∈ l, lo ≤ x.2.2 ∧ x.2.2 < n
  | [], l, lo, n, h, _ => by
    have : l = [] := List.length_eq_zero_iff.1 h.1
    subst this
    exact ⟨List.Pairwise.nil, fun x hx => (List.not_mem_nil hx).elim⟩
  | (k, v, b) :: es, l, lo, n, h, hb => by
    obtain ⟨e', l', rfl, a1, a2, a3, he'⟩ := h.tail
    simp only [bornC, Bool.and_eq_true] at hb
    obtain ⟨i1, i2⟩ := born_real es l' (b + 1) n he' hb.2
    have h1 := ble_of hb.1.1
    have h2 := blt_of hb.1.2
    simp only at a3
    refine ⟨?_, fun x hx => ?_⟩
    · rw [List.map_cons]
      refine List.pairwise_cons.2 ⟨fun y hy => ?_, i1⟩
      obtain ⟨x, hx, rfl⟩ := List.mem_map.1 hy
      have := (i2 x hx).1
      omega
    · rcases List.mem_cons.1 hx with rfl | hx
      · omega
      · have := i2 x hx
        omega

theorem Stp.below {ρ : Ren} {S : St} {w w' : World} (h : Rel ρ S w) (hb : Below w.heap.size w w') : Stp ρ S w ρ S w' := by
  refine ⟨.refl ρ, ⟨fun b o hbo => ?_, h.inj, h.fresh, h.freshk⟩, Nat.le_refl _, Nat.le_refl _, fun y hy _ => hb.block y hy, hb.size, fun b _ D hb' e _ => ⟨b, D, hb', e⟩, hb.os, hb.tape, hb.output, fun _ _ => rfl, fun b _ D hb' e _ => ⟨b, D, hb', e⟩⟩
  obtain ⟨B, D, O, e1, e2, e3⟩ := h.obj b o hbo
  exact ⟨B, D, O, e1, by rw [hb.block B (h.lt ⟨o, hbo⟩ e1)]; exact e2, e3⟩

end Go.Ev

namespace Go.Ev

/-- The first place of a byte, from place i on. -/
def firstByte (c : Nat) : Nat → List Nat → Option Int
  | _, [] => some (-1)
  | i, b :: s => bif Nat.beq b c then some (.ofNat i) else bif Nat.blt b 256 then firstByte c (i + 1) s else none

def indexBytePrim (args : List CV) (S : St) : CRes :=
  match args with
  | [.str s, .int .u8 (.ofNat c)] => bif Nat.blt c 256 then (match firstByte c 0 s with
    | some i => .ok (.int .i64 i) S
    | none => .fail) else .fail
  | _ => .fail

theorem firstByte_spec {c : Nat} (hc : c < 256) : ∀ (s : List Nat) (i : Nat) (r : Int), firstByte c i s = some r →
    (∃ j, j < s.length ∧ r = ((i + j : Nat) : Int) ∧ (s.map UInt8.ofNat)[j]? = some (UInt8.ofNat c) ∧ ∀ k : Nat, k < j → (s.map UInt8.ofNat)[k]? ≠ some (UInt8.ofNat c)) ∨ (r = -1 ∧ ∀ k : Nat, (s.map UInt8.ofNat)[k]? ≠ some (UInt8.ofNat c))
  | [], i, r, h => by
    simp only [firstByte, Option.some.injEq] at h
    exact .inr ⟨h.symm, fun k => by simp⟩
  | b :: s, i, r, h => by
    simp only [firstByte] at h
    cases hb : Nat.beq b c with
    | true =>
      rw [hb, cond_true] at h
      cases h
      obtain rfl := beq_of hb
      exact .inl ⟨0, by simp, by simp, by simp, fun k hk => by omega⟩
    | false =>
      rw [hb, cond_false] at h
      cases hl : Nat.blt b 256 with
      | false => rw [hl] at h; cases h
      | true =>
        rw [hl, cond_true] at h
        have hne : b ≠ c := fun e => by rw [beq_yes e] at hb; cases hb
        have hne' : UInt8.ofNat b ≠ UInt8.ofNat c := fun e => hne (ofNat_inj (blt_of hl) hc e)
        rcases firstByte_spec hc s (i + 1) r h with ⟨j, h1, h2, h3, h4⟩ | ⟨h1, h2⟩
        · refine .inl ⟨j + 1, by simp; omega, by rw [h2]; congr 1; omega, by simpa using h3, fun k hk => ?_⟩
          cases k with
          | zero => simpa using hne'
          | succ k => simpa using h4 k (by omega)
        · refine .inr ⟨h1, fun k => ?_⟩
          cases k with
          | zero => simpa using hne'
          | succ k => simpa using h2 k

theorem getBang_strReal (s : List Nat) (i : Nat) (h : i < s.length) : some ((strReal s)[i]!) = (s.map UInt8.ofNat)[i]? := by
  have hs : i < (strReal s).size := by rw [strReal_size]; exact h
  rw [getElem!_pos (strReal s) i hs]
  have : (strReal s)[i] = (strReal s).data[i]'hs := rfl
  rw [this]
  simp [strReal, h]

theorem firstIdx_eq {c : Nat} (hc : c < 256) {s : List Nat} {r : Int} (h : firstByte c 0 s = some r) : firstIdx (strReal s) (Int.ofNat c).toNat.toUInt8 = r := by
  have e : (Int.ofNat c).toNat.toUInt8 = UInt8.ofNat c := rfl
  have key : ∀ i, i < s.length → ((strReal s)[i]! == UInt8.ofNat c) = ((s.map UInt8.ofNat)[i]? == some (UInt8.ofNat c)) := by
    intro i hi
    rw [← getBang_strReal s i hi]
    simp
  rw [e]
  unfold firstIdx
  rcases firstByte_spec hc s 0 r h with ⟨j, h1, h2, h3, h4⟩ | ⟨h1, h2⟩
  · have : (List.range (strReal s).size).find? (fun i => (strReal s)[i]! == UInt8.ofNat c) = some j := by
      rw [List.find?_range_eq_some]
      refine ⟨by rw [key j h1, h3]; simp, by rw [strReal_size]; simpa using h1, fun k hk => ?_⟩
      rw [key k (by omega)]
      simpa using h4 k hk
    rw [this, h2]
    simp
  · have : (List.range (strReal s).size).find? (fun i => (strReal s)[i]! == UInt8.ofNat c) = none := by
      rw [List.find?_range_eq_none]
      intro i hi
      rw [strReal_size] at hi
      rw [key i hi]
      simpa using h2 i
    rw [this, h1]

theorem indexByte_prim {P : Program} {f : FuncId} {fn : Func} (hf : P.funcs[f]? = some fn) (hname : (fn.name == "runtime.NumGoroutine") = false) (hb : fn.body.isNone = true) (hn : Extern.findNext fn = none)
    (he : Extern.find fn = some Extern.BytealgIndexByte.indexByte) :
    ∀ (args : List CV) (S : St) (v : CV) (S' : St) (ρ : Ren) (w : World) (L : List Value), indexBytePrim args S = .ok v S' → Rel ρ S w → Glob P ρ → reals ρ args = some L →
    ∀ (o : Oper) (a : Act) (next : Act → World → Prop) (Q : Exit → Act → World → Prop),
      (∀ ρ' w' V, Stp ρ S w ρ' S' w' → real ρ' v = some V → next (a.put o.dst V) w') → o.upon P a next Q ((callFunc f L.toArray).run P w) := by
  intro args S v S' ρ w L h hr hg hL o a next Q hK
  unfold indexBytePrim at h
  split at h
  · rename_i s c
    cases hc : Nat.blt c 256 with
    | false => rw [hc] at h; cases h
    | true =>
      rw [hc, cond_true] at h
      split at h
      · rename_i i hi
        cases h
        simp only [reals, real, Option.bind_some, Option.map_some, Option.some.injEq] at hL
        subst hL
        rw [run_callFunc_extern hf hname hb hn he, run_indexByte_string, firstIdx_eq (blt_of hc) hi]
        exact hK ρ w _ (Stp.refl hr) rfl
      · cases h
  · cases h

end Go.Ev

namespace Go.Ev

def noEscapePrim (args : List CV) (S : St) : CRes :=
  match args with
  | [v] => .ok v S
  | _ => .fail

theorem noEscape_prim {P : Program} {f : FuncId} {fn : Func} (hf : P.funcs[f]? = some fn) (hname : (fn.name == "runtime.NumGoroutine") = false) (hb : fn.body.isNone = true) (hn : Extern.findNext fn = none)
    (he : Extern.find fn = some Extern.AbiNoEscape.same) :
    ∀ (args : List CV) (S : St) (v : CV) (S' : St) (ρ : Ren) (w : World) (L : List Value), noEscapePrim args S = .ok v S' → Rel ρ S w → Glob P ρ → reals ρ args = some L →
    ∀ (o : Oper) (a : Act) (next : Act → World → Prop) (Q : Exit → Act → World → Prop),
      (∀ ρ' w' V, Stp ρ S w ρ' S' w' → real ρ' v = some V → next (a.put o.dst V) w') → o.upon P a next Q ((callFunc f L.toArray).run P w) := by
  intro args S v S' ρ w L h hr hg hL o a next Q hK
  unfold noEscapePrim at h
  split at h
  · rename_i x
    cases h
    simp only [reals, Option.bind_eq_some_iff, Option.map_some, Option.some.injEq] at hL
    obtain ⟨X, hX, rfl⟩ := hL
    have hrun : (Extern.AbiNoEscape.same [X].toArray).run P w = .ok X w := rfl
    rw [run_callFunc_extern hf hname hb hn he, hrun]
    exact hK ρ w X (Stp.refl hr) hX
  · cases h

/-- How often a byte occurs. -/
def countBytes (c : Nat) : List Nat → Option Nat
  | [] => some 0
  | b :: s => (match countBytes c s with
    | some n => bif Nat.beq b c then some (n + 1) else bif Nat.blt b 256 then some n else none
    | none => none)

def countStringPrim (args : List CV) (S : St) : CRes :=
  match args with
  | [.str s, .int .u8 (.ofNat c)] => bif Nat.blt c 256 then (match countBytes c s with
    | some n => .ok (.int .i64 (.ofNat n)) S
    | none => .fail) else .fail
  | _ => .fail

theorem countBytes_spec {c : Nat} (hc : c < 256) : ∀ (s : List Nat) (n : Nat), countBytes c s = some n → (s.map UInt8.ofNat).count (UInt8.ofNat c) = n
  | [], n, h => by simp only [countBytes, Option.some.injEq] at h; subst h; rfl
  | b :: s, n, h => by
    simp only [countBytes] at h
    split at h
    · rename_i m hm
      have ih := countBytes_spec hc s m hm
      cases hb : Nat.beq b c with
      | true =>
        rw [hb, cond_true] at h
        cases h
        obtain rfl := beq_of hb
        rw [List.map_cons, List.count_cons_self, ih]
      | false =>
        rw [hb, cond_false] at h
        cases hl : Nat.blt b 256 with
        | false => rw [hl] at h; cases h
        | true =>
          rw [hl, cond_true] at h
          cases h
          have hne : b ≠ c := fun e => by rw [beq_yes e] at hb; cases hb
          have hne' : UInt8.ofNat b ≠ UInt8.ofNat c := fun e => hne (ofNat_inj (blt_of hl) hc e)
          rw [List.map_cons, List.count_cons_of_ne (by first | exact hne' | exact hne'.symm), ih]
    · cases h

theorem countString_prim {P : Program} {f : FuncId} {fn : Func} (hf : P.funcs[f]? = some fn) (hname : (fn.name == "runtime.NumGoroutine") = false) (hb : fn.body.isNone = true) (hn : Extern.findNext fn = none)
    (he : Extern.find fn = some Extern.BytealgCount.count) :
    ∀ (args : List CV) (S : St) (v : CV) (S' : St) (ρ : Ren) (w : World) (L : List Value), countStringPrim args S = .ok v S' → Rel ρ S w → Glob P ρ → reals ρ args = some L →
    ∀ (o : Oper) (a : Act) (next : Act → World → Prop) (Q : Exit → Act → World → Prop),
      (∀ ρ' w' V, Stp ρ S w ρ' S' w' → real ρ' v = some V → next (a.put o.dst V) w') → o.upon P a next Q ((callFunc f L.toArray).run P w) := by
  intro args S v S' ρ w L h hr hg hL o a next Q hK
  unfold countStringPrim at h
  split at h
  · rename_i s c
    cases hc : Nat.blt c 256 with
    | false => rw [hc] at h; cases h
    | true =>
      rw [hc, cond_true] at h
      split at h
      · rename_i n hi
        cases h
        simp only [reals, real, Option.bind_some, Option.map_some, Option.some.injEq] at hL
        subst hL
        have hcnt : Go.Lib.countByte (strReal s).data.toList (Int.ofNat c).toNat.toUInt8 = n := by
          rw [strReal_data]
          exact countBytes_spec (blt_of hc) s n hi
        rw [run_callFunc_extern hf hname hb hn he, Go.Lib.run_countString, hcnt]
        exact hK ρ w _ (Stp.refl hr) rfl
      · cases h
  · cases h

end Go.Ev
