/-
  A function told by hand: slices.Sorted of a map's keys.
-/
import Derived.Test.YtjaaedbbmgjppaaGreatDoorEvT
import Derived.Sort.KeysCollected
import Derived.Below
import Derived.StringKeys
import Derived.Sort.Walk0
set_option linter.all false

namespace Go.Ev
open Go.RowKit Go.Maps Go.MapKept Go.Sort
open Go.Proofs (encStr)
open Go.WideElems (Fit rd rg pl)

/-- A new row, somewhere behind what was. -/
theorem Stp.behind {ρ : Ren} {S : St} {w w' : World} (h : Rel ρ S w) (hb : Below w.heap.size w w') {g x : Nat} {O : Obj} {o : CObj} (hg : w.heap.size ≤ g) (hO : w'.heap[g]? = some O) (ho : ObjRel (ρ.ext S.next (g, 0) S.nk x) 0 o O) (hn : S.next < lim) :
    Stp ρ S w (ρ.ext S.next (g, 0) S.nk x) ⟨S.heap.set big S.next (some o), S.next + 1, S.nk + 1⟩ w' := by
  have hle := ext_le h (g, 0) x
  have hbo : ∀ i, i ≠ S.next → (ρ.ext S.next (g, 0) S.nk x).b i = ρ.b i := fun i hi => by simp [Ren.ext, hi]
  have hbn : (ρ.ext S.next (g, 0) S.nk x).b S.next = some (g, 0) := by simp [Ren.ext]
  have hbig : S.next + 1 < 2 ^ big := by unfold lim at hn; simp [big]; omega
  have hold : ∀ b o', (S.heap.set big S.next (some o)).get b = some o' → b ≠ S.next → S.heap.get b = some o' := fun b o' hb' hne => by
    rw [Tr.get_set_ne _ _ _ _ _ (fun e => hne e.symm)] at hb'
    exact hb'
  refine ⟨hle, ⟨?_, ?_, ?_, ?_⟩, by simp, by simp, ?_, hb.size, ?_, hb.os, hb.tape, hb.output, fun b hb' => hbo b (by omega)⟩
  · intro b o' hb'
    by_cases e : b = S.next
    · subst e
      have hb' : (S.heap.set big S.next (some o)).get S.next = some o' := hb'
      rw [Tr.get_set_eq _ _ _ _ hbig] at hb'
      cases hb'
      exact ⟨g, 0, O, hbn, hO, ho⟩
    · have h1 := hold b o' hb' e
      obtain ⟨B, D, O', e1, e2, e3⟩ := h.obj b o' h1
      exact ⟨B, D, O', hle.b _ _ e1, by rw [hb.block B (h.lt ⟨o', h1⟩ e1)]; exact e2, e3.mono hle⟩
  · rintro b b' B D D' ⟨o1, hb1⟩ ⟨o2, hb2⟩ e1 e2
    by_cases i1 : b = S.next <;> by_cases i2 : b' = S.next
    · rw [i1, i2]
    · subst i1
      rw [hbn] at e1
      cases e1
      rw [hbo _ i2] at e2
      have := h.lt ⟨o2, hold b' o2 hb2 i2⟩ e2
      omega
    · subst i2
      rw [hbn] at e2
      cases e2
      rw [hbo _ i1] at e1
      have := h.lt ⟨o1, hold b o1 hb1 i1⟩ e1
      omega
    · rw [hbo _ i1] at e1
      rw [hbo _ i2] at e2
      exact h.inj b b' B D D' ⟨o1, hold b o1 hb1 i1⟩ ⟨o2, hold b' o2 hb2 i2⟩ e1 e2
  · intro b hb'
    have hb' : S.next + 1 ≤ b := hb'
    rw [hbo b (by omega)]
    exact h.fresh b (by omega)
  · intro i hi
    have hi : S.nk + 1 ≤ i := hi
    simp only [Ren.ext]
    rw [if_neg (by omega)]
    exact h.freshk i (by omega)
  · intro y hy _
    exact hb.block y hy
  · rintro b B D ⟨o1, hb1⟩ e1 hlt
    by_cases i1 : b = S.next
    · subst i1
      rw [hbn] at e1
      cases e1
      omega
    · rw [hbo _ i1] at e1
      exact ⟨b, D, ⟨o1, hold b o1 hb1 i1⟩, e1⟩

noncomputable section

/-- The keys of a map, all of them strings of bytes; the numbers of the entries. -/
def strKeysC : List (CV × CV × Nat) → Option (List (List Nat))
  | [] => some []
  | (.str s, _, _) :: es => bif allBytes s && Nat.blt s.length lim then (match strKeysC es with
    | some l => some (s :: l)
    | none => none) else none
  | _ => none

def insC (x : List Nat) : List (List Nat) → List (List Nat)
  | [] => [x]
  | y :: l => match strLt x y with
    | some true => x :: y :: l
    | _ => y :: insC x l
def sortC : List (List Nat) → List (List Nat)
  | [] => []
  | x :: l => insC x (sortC l)

/-- Each one before the next. -/
def risingC : List (List Nat) → Bool
  | a :: b :: l => (match strLt a b with | some true => true | _ => false) && risingC (b :: l)
  | _ => true

/-- The numbers rise, and are below n. -/
def bornC : Nat → List (CV × CV × Nat) → Nat → Bool
  | _, [], _ => true
  | lo, (_, _, b) :: es, n => Nat.ble lo b && Nat.blt b n && bornC (b + 1) es n

def strsC : List (List Nat) → List CV
  | [] => []
  | s :: l => .str s :: strsC l

/-- slices.Sorted(maps.Keys(m)): 'it' is the number of the keys' iterator. -/
def sortedPrim (it : FuncId) (args : List CV) (S : St) : CRes :=
  match args with
  | [.func f [] [.ptr p 0]] => bif Nat.beq f it then (match S with
    | ⟨h, nx, nk⟩ => match h.get p with
      | some (.row c sh hi _ _ sz) => bif Nat.beq sz 0 && Nat.blt 0 hi && Nat.blt nx lim then (match c.get sh with
        | some (.map r) => (match h.get r with
          | some (.map es clock) => (match strKeysC es with
            | some ks => (match sortC ks with
              | [] => .ok .nils S
              | l => bif risingC l && bornC 0 es clock && Nat.blt l.length 1000 then
                  .ok (.slice nx 0 l.length (.sy nk l.length)) ⟨h.set big nx (some (rowCap (strsC l) nk 1)), nx + 1, nk + 1⟩ else .fail)
            | none => .fail)
          | _ => .fail)
        | _ => .fail) else .fail
      | _ => .fail) else .fail
  | _ => .fail
end

theorem insC_perm (x : List Nat) : ∀ l, (insC x l).Perm (x :: l)
  | [] => List.Perm.refl _
  | y :: l => by
    simp only [insC]
    split
    · exact List.Perm.refl _
    · exact ((insC_perm x l).cons y).trans (List.Perm.swap x y l)

theorem sortC_perm : ∀ l, (sortC l).Perm l
  | [] => List.Perm.refl _
  | x :: l => (insC_perm x _).trans ((sortC_perm l).cons x)

theorem allB_mem {l : List (List Nat)} (h : ∀ s ∈ l, allBytes s = true) : ∀ s ∈ l, ∀ n ∈ s, n < 256 := fun s hs => allBytes_mem s (h s hs)

def bts (s : List Nat) : List UInt8 := s.map UInt8.ofNat

theorem rising_lt : ∀ (l : List (List Nat)), risingC l = true → (l.map bts).Pairwise (· < ·)
  | [], _ => List.Pairwise.nil
  | [a], _ => by simp
  | a :: b :: l, h => by
    simp only [risingC, Bool.and_eq_true] at h
    have ih := rising_lt (b :: l) h.2
    have hab : bts a < bts b := by
      cases hs : strLt a b with
      | none => rw [hs] at h; simp at h
      | some r =>
        cases r with
        | false => rw [hs] at h; simp at h
        | true =>
          have := strLt_eq a b true hs
          rw [Go.Proofs.bytesLess_eq] at this
          exact of_decide_eq_true this
    rw [List.map_cons]
    refine List.pairwise_cons.2 ⟨fun x hx => ?_, ih⟩
    rw [List.map_cons, List.mem_cons] at hx
    rcases hx with rfl | hx
    · exact hab
    · exact List.lt_trans hab ((List.pairwise_cons.1 ih).1 x hx)

theorem insert_perm {H : Type} (x : Lit × DataW H) : ∀ l, (DataW.insert x l).Perm (x :: l)
  | [] => List.Perm.refl _
  | y :: l => by
    simp only [DataW.insert]
    split
    · exact List.Perm.refl _
    · exact ((insert_perm x l).cons y).trans (List.Perm.swap x y l)

theorem foldr_insert_perm {H : Type} : ∀ (l : List (Lit × DataW H)), (l.foldr DataW.insert []).Perm l
  | [] => List.Perm.refl _
  | x :: l => (insert_perm x _).trans ((foldr_insert_perm l).cons x)

theorem strsC_reals {ρ : Ren} : ∀ (l : List (List Nat)), reals ρ (strsC l) = some (l.map fun s => Value.string (strReal s))
  | [] => rfl
  | s :: l => reals_cons rfl (strsC_reals l)

theorem strsC_length : ∀ (l : List (List Nat)), (strsC l).length = l.length
  | [] => rfl
  | s :: l => by simp [strsC, strsC_length l]

/-- The real keys. -/
theorem keys_real {ρ : Ren} : ∀ (es : List (CV × CV × Nat)) (l : List (Value × Value × Nat)) (ks : List (List Nat)), Ents ρ es l → strKeysC es = some ks → l.map (·.1) = ks.map (fun s => Value.string (strReal s)) ∧ (∀ s ∈ ks, s.length < lim)
  | [], l, ks, h, hk => by
    have : l = [] := List.length_eq_zero_iff.1 h.1
    subst this
    simp only [strKeysC, Option.some.injEq] at hk
    subst hk
    exact ⟨rfl, fun s hs => (List.not_mem_nil hs).elim⟩
  | (k, v, b) :: es, l, ks, h, hk => by
    obtain ⟨e', l', rfl, a1, a2, a3, he'⟩ := h.tail
    cases k <;> simp only [strKeysC, reduceCtorEq] at hk
    rename_i s
    cases hc : (allBytes s && Nat.blt s.length lim) with
    | false => rw [hc] at hk; cases hk
    | true =>
      rw [hc, cond_true] at hk
      split at hk
      · rename_i ks' hks
        cases hk
        simp only [Bool.and_eq_true] at hc
        obtain ⟨i1, i2⟩ := keys_real es l' ks' he' hks
        simp only [real, Option.some.injEq] at a1
        refine ⟨by simp [i1, a1], fun s' hs' => ?_⟩
        rcases List.mem_cons.1 hs' with rfl | hs'
        · exact blt_of hc.2
        · exact i2 s' hs'
      · cases hk

theorem born_real {ρ : Ren} : ∀ (es : List (CV × CV × Nat)) (l : List (Value × Value × Nat)) (lo n : Nat), Ents ρ es l → bornC lo es n = true → (l.map (·.2.2)).Pairwise (· < ·) ∧ ∀ x ∈ l, lo ≤ x.2.2 ∧ x.2.2 < n
  | [], l, lo, n, h, _ => by
    have : l = [] := List.length_eq_zero_iff.1 h.1
    subst this
    exact ⟨List.Pairwise.nil, fun x hx => (List.not_mem_nil hx).elim⟩
  | (k, v, b) :: es, l, lo, n, h, hb => by
    obtain ⟨e', l', rfl, a1, a2, a3, he'⟩ := h.tail
    simp only [bornC, Bool.and_eq_true] at hb
    obtain ⟨i1, i2⟩ := born_real es l' (b + 1) n he' hb.2
    have h1 := ble_of hb.1.1
    have h2 := blt_of hb.1.2
    simp only at a3
    refine ⟨?_, fun x hx => ?_⟩
    · rw [List.map_cons]
      refine List.pairwise_cons.2 ⟨fun y hy => ?_, i1⟩
      obtain ⟨x, hx, rfl⟩ := List.mem_map.1 hy
      have := (i2 x hx).1
      omega
    · rcases List.mem_cons.1 hx with rfl | hx
      · omega
      · have := i2 x hx
        omega

theorem Stp.below {ρ : Ren} {S : St} {w w' : World} (h : Rel ρ S w) (hb : Below w.heap.size w w') : Stp ρ S w ρ S w' := by
  refine ⟨.refl ρ, ⟨fun b o hbo => ?_, h.inj, h.fresh, h.freshk⟩, Nat.le_refl _, Nat.le_refl _, fun y hy _ => hb.block y hy, hb.size, fun b _ D hb' e _ => ⟨b, D, hb', e⟩, hb.os, hb.tape, hb.output, fun _ _ => rfl⟩
  obtain ⟨B, D, O, e1, e2, e3⟩ := h.obj b o hbo
  exact ⟨B, D, O, e1, by rw [hb.block B (h.lt ⟨o, hbo⟩ e1)]; exact e2, e3⟩

/-- What is known of slices.Sorted at a map's keys. -/
def SortedHas (P : Program) (f it : FuncId) (kt : TypeId) : Prop :=
  ∀ (Bm b nn : Nat) (D0 : DataW Unit) (W : World), Bm < W.heap.size → W.cell? ⟨Bm, 0, none⟩ = some (.map (some b)) → W.ownsMap P kt (fun _ => some (.nil, [])) b nn D0 → Maps.size D0 ≤ maxLen → Maps.size D0 * 16 ≤ 140737488355328 →
    Calls P f #[.func (.func it) #[] #[.pointer (some ⟨Bm, 0, none⟩)]] W fun e w' => ∃ (v : Value) (ss : List (List UInt8)), e = .returned v ∧ ss.Perm (strKeys D0) ∧
      w'.ownsRow W.heap.size kt 1 v ss.length ((ss.mergeSort leB).map encStr) ∧ (v = .slice none 0 0 ↔ ss = []) ∧ Below W.heap.size W w'

theorem sorted_prim {P : Program} {f it : FuncId} {kt : TypeId} (hk : P.underlying kt = some .string) (he : ∀ args w, (callFunc f args).run P w = .ok (.enter f args) w) (hs : SortedHas P f it kt) :
    ∀ (args : List CV) (S : St) (v : CV) (S' : St) (ρ : Ren) (w : World) (L : List Value), sortedPrim it args S = .ok v S' → Rel ρ S w → Glob P ρ → reals ρ args = some L →
    ∀ (o : Oper) (a : Act) (next : Act → World → Prop) (Q : Exit → Act → World → Prop),
      (∀ ρ' w' V, Stp ρ S w ρ' S' w' → real ρ' v = some V → next (a.put o.dst V) w') → o.upon P a next Q ((callFunc f L.toArray).run P w) := by
  intro args S v S' ρ w L h hr hg hL o a next Q hK
  obtain ⟨hp, nx, nk⟩ := S
  unfold sortedPrim at h
  split at h
  · rename_i g p
    cases hgi : Nat.beq g it with
    | false => rw [hgi] at h; cases h
    | true =>
      rw [hgi, cond_true] at h
      have hgi : g = it := beq_of hgi
      subst hgi
      simp only at h
      split at h
      · rename_i c sh hi wr id sz hrow
        cases hc : (Nat.beq sz 0 && Nat.blt 0 hi && Nat.blt nx lim) with
        | false => rw [hc] at h; cases h
        | true =>
          rw [hc, cond_true] at h
          simp only [Bool.and_eq_true] at hc
          obtain ⟨⟨hsz, hhi⟩, hnx⟩ := hc
          have hsz := beq_of hsz
          have hhi := blt_of hhi
          have hnx := blt_of hnx
          subst hsz
          split at h
          · rename_i r hcell
            split at h
            · rename_i es clock hmap
              split at h
              · rename_i ks hks
                -- the closure's cell
                obtain ⟨B, D, cs, t, fz, f1, f2, f3, f4⟩ := row_has hr.has hrow
                have hD : D = 0 := by
                  rcases f4 with f4 | ⟨f4, _⟩
                  · exact f4.2
                  · exact (f4 rfl).elim
                subst hD
                obtain ⟨u, V, g1, g2, g3, _⟩ := f3 0 hhi
                rw [Nat.zero_add, hcell] at g1
                cases g1
                obtain ⟨R, l, e1, e2, e3⟩ := map_obj hr.has hmap
                simp only [real, e1, Option.map_some, Option.some.injEq] at g2
                subst g2
                have hcell' : w.cell? ⟨B, 0, none⟩ = some (.map (some R)) := by simpa [World.cell?, f2] using g3
                have hBlt : B < w.heap.size := (Array.getElem?_eq_some_iff.1 f2).1
                obtain ⟨k1, k2⟩ := keys_real es l ks e3 hks
                have hperm := sortC_perm ks
                have hllen : l.length = ks.length := by
                  have := congrArg List.length k1
                  simpa using this
                -- the arguments
                simp only [reals, real, f1, Option.map_some, Option.bind_some, Option.some.injEq, Nat.add_zero] at hL
                subst hL
                -- what the map's datum has as keys
                have keyF : ∀ e ∈ l, ∃ s : List Nat, s ∈ ks ∧ e.1 = Value.string (strReal s) := by
                  intro e hel
                  have : e.1 ∈ l.map (·.1) := List.mem_map_of_mem hel
                  rw [k1] at this
                  obtain ⟨s, hs1, hs2⟩ := List.mem_map.1 this
                  exact ⟨s, hs1, hs2.symm⟩
                have rdk : ∀ e ∈ l, ∀ s : List Nat, s ∈ ks → e.1 = Value.string (strReal s) → Go.WideElems.rd P kt (fun _ => some ((.nil : DataW Unit), [])) (entryOf e) = some (.string (bts s), .nil) := by
                  intro e _ s hs1 hs2
                  refine Go.WideElems.rd_mk (yv := (.nil, [])) ?_ rfl
                  show keyOf P kt e.1 = _
                  rw [hs2, Go.WideMaps.keyOf_string_mk hk (by rw [strReal_size]; have := k2 s hs1; unfold lim at this; simp only [maxLen]; omega)]
                  rw [strReal_data]
                  rfl
                have keysP : ∀ (m : List (Value × Value × Nat)) (q : List (List Nat)), (∀ e ∈ m, e ∈ l) → (∀ s ∈ q, s ∈ ks) → m.map (·.1) = q.map (fun s => Value.string (strReal s)) →
                    ((m.map entryOf).map (Go.WideElems.rg P kt (fun _ => some ((.nil : DataW Unit), [])))).map (fun x => strOf x.1) = q.map bts := by
                  intro m
                  induction m with
                  | nil => intro q _ _ hq; cases q <;> simp at hq ⊢
                  | cons e m ih =>
                    intro q hm hq hmq
                    cases q with
                    | nil => simp at hmq
                    | cons s q =>
                      simp only [List.map_cons, List.cons.injEq] at hmq
                      have := Go.WideElems.rg_of (rdk e (hm e (by simp)) s (hq s (by simp)) hmq.1)
                      simp only [List.map_cons, this]
                      rw [ih q (fun x hx => hm x (by simp [hx])) (fun x hx => hq x (by simp [hx])) hmq.2]
                      rfl
                have fitNeeds : risingC (sortC ks) = true → bornC 0 es clock = true → ks.length < 1000 → w.ownsMap P kt (fun _ => some ((.nil : DataW Unit), [])) R l.length (.map (((l.map entryOf).map (Go.WideElems.rg P kt (fun _ => some ((.nil : DataW Unit), [])))).foldr DataW.insert [])) := by
                  intro h1 h2 h3
                  obtain ⟨b1, b2⟩ := born_real es l 0 clock e3 h2
                  refine ⟨(l.map entryOf).toArray, clock, e2, ⟨by simp [maxLen]; omega, ⟨fun x hx => ?_, ?_, ?_⟩, fun x hx => ?_⟩, by simp, by simp⟩
                  · obtain ⟨e, he1, rfl⟩ := List.mem_map.1 (show x ∈ l.map entryOf from hx)
                    exact (b2 e he1).2
                  · have : (l.map entryOf).toArray.toList.map (·.born) = l.map (·.2.2) := by simp [entryOf]
                    rw [this]
                    exact b1.imp (fun h => Nat.ne_of_lt h)
                  · have : (l.map entryOf).toArray.toList.map (·.key) = (ks.map bts).map encStr := by
                      have : (l.map entryOf).toArray.toList.map (·.key) = l.map (·.1) := by simp [entryOf]
                      rw [this, k1]
                      simp only [List.map_map]
                      rfl
                    rw [this]
                    have hnd : (ks.map bts).Nodup := by
                      have h4 := rising_lt _ h1
                      have h5 : ((sortC ks).map bts).Nodup := h4.imp (fun h e => by subst e; exact List.lt_irrefl _ h)
                      exact ((hperm.map bts).nodup_iff).1 h5
                    exact List.pairwise_map.2 (hnd.imp (fun hne e => hne (encStr_inj e)))
                  · obtain ⟨e, he1, rfl⟩ := List.mem_map.1 (show x ∈ l.map entryOf from hx)
                    obtain ⟨s, hs1, hs2⟩ := keyF e he1
                    exact ⟨_, rdk e he1 s hs1 hs2⟩
                have hD0 : ∀ ss : List (List UInt8), ss.Perm (strKeys (.map (((l.map entryOf).map (Go.WideElems.rg P kt (fun _ => some ((.nil : DataW Unit), [])))).foldr DataW.insert []))) → ss.Perm ((sortC ks).map bts) := by
                  intro ss hss
                  refine hss.trans ?_
                  have h1 := (foldr_insert_perm ((l.map entryOf).map (Go.WideElems.rg P kt (fun _ => some ((.nil : DataW Unit), []))))).map (fun x => strOf x.1)
                  rw [keysP l ks (fun _ h => h) (fun _ h => h) k1] at h1
                  exact h1.trans (hperm.map bts).symm
                rw [he]
                rw [Oper.upon_enter]
                split at h
                · -- no key
                  rename_i hnil
                  cases h
                  have hks0 : ks = [] := by
                    have := hperm.length_eq
                    rw [hnil] at this
                    exact List.length_eq_zero_iff.1 this.symm
                  subst hks0
                  have hes : es = [] := by
                    have h1 := e3.1
                    rw [hllen] at h1
                    exact List.length_eq_zero_iff.1 (by simpa using h1.symm)
                  have hown := fitNeeds rfl (by rw [hes]; rfl) (by simp)
                  have hsz := hown.size_le
                  rw [hllen] at hsz
                  simp only [List.length_nil] at hsz
                  refine Calls.mono (hs B R l.length _ w hBlt hcell' hown (by simp only [maxLen]; omega) (by omega)) (fun e' w' hq => ?_)
                  obtain ⟨v, ss, rfl, q1, q2, q3, q4⟩ := hq
                  have hss := hD0 ss q1
                  rw [hnil] at hss
                  have hss : ss = [] := List.Perm.eq_nil (by simpa using hss)
                  rw [q3.2 hss]
                  exact hK ρ w' _ (Stp.below hr q4) rfl
                · rename_i hnn
                  cases hcc : (risingC (sortC ks) && bornC 0 es clock && Nat.blt (sortC ks).length 1000) with
                  | false => rw [hcc] at h; cases h
                  | true =>
                    rw [hcc, cond_true] at h
                    cases h
                    simp only [Bool.and_eq_true] at hcc
                    obtain ⟨⟨hris, hborn⟩, hlt⟩ := hcc
                    have hlt := blt_of hlt
                    have hkl := hperm.length_eq
                    have hown := fitNeeds hris hborn (by omega)
                    have hsz := hown.size_le
                    refine Calls.mono (hs B R l.length _ w hBlt hcell' hown (by simp only [maxLen]; omega) (by omega)) (fun e' w' hq => ?_)
                    obtain ⟨v, ss, rfl, q1, q2, q3, q4⟩ := hq
                    have hss := hD0 ss q1
                    have hsorted : ss.mergeSort leB = (sortC ks).map bts := by
                      have tr : ∀ a b c : List UInt8, leB a b = true → leB b c = true → leB a c = true := fun a b c h1 h2 => by simp only [leB, decide_eq_true_eq] at *; exact List.le_trans h1 h2
                      have to : ∀ a b : List UInt8, (leB a b || leB b a) = true := fun a b => by simp only [leB, Bool.or_eq_true, decide_eq_true_eq]; exact List.le_total a b
                      refine List.Perm.eq_of_pairwise (le := fun a b => leB a b = true) (fun a b _ _ h1 h2 => ?_) (List.pairwise_mergeSort tr to ss) ((rising_lt _ hris).imp (fun h => by simp only [leB, decide_eq_true_eq]; exact List.le_of_lt h)) ((List.mergeSort_perm ss leB).trans hss)
                      simp only [leB, decide_eq_true_eq] at h1 h2
                      exact List.le_antisymm h1 h2
                    have hslen : ss.length = (sortC ks).length := by rw [hss.length_eq, List.length_map]
                    rw [hsorted, hslen] at q2
                    rcases q2.2 with ⟨_, q5⟩ | ⟨gb, cap, cur, rfl, r1, r2, r3, r4, r5, r6⟩
                    · exact (hnn (List.length_eq_zero_iff.1 q5)).elim
                    · have hst := Stp.behind (S := ⟨hp, nx, nk⟩) hr q4 (x := cap - (sortC ks).length) r1 r2 (o := rowCap (strsC (sortC ks)) nk 1) ?_ hnx
                      · refine hK _ w' _ hst ?_
                        simp only [real, Ren.ext, if_true, Option.bind_some, Ren.cap, Option.map_some, Option.some.injEq, Value.slice.injEq, Nat.zero_add, true_and]
                        omega
                      · have hlenS := strsC_length (sortC ks)
                        have hcap : (ρ.ext nx (gb, 0) nk (cap - (sortC ks).length)).k nk = some (cap - (sortC ks).length) := by simp [Ren.ext]
                        refine ⟨fun i hi => ?_, .inr ⟨by omega, _, hcap, fun j hj => ⟨?_, fun _ => by simp⟩⟩⟩
                        · have hi' : i < (sortC ks).length := by omega
                          have hgt := lay_get (strsC (sortC ks)) .leaf 0 i (by omega)
                          rw [if_pos ⟨Nat.zero_le _, by omega⟩, Nat.sub_zero] at hgt
                          have hq' : (strsC (sortC ks))[i]? = some (strsC (sortC ks))[i] := List.getElem?_eq_getElem hi
                          obtain ⟨V, hV, hV'⟩ := reals_get (strsC_reals (ρ := ρ.ext nx (gb, 0) nk (cap - (sortC ks).length)) (sortC ks)) i _ hq'
                          refine ⟨_, V, by rw [Nat.add_zero, hgt, hq'], hV, ?_, fun _ => by simp⟩
                          have h6 := congrArg (fun m => m[i]?) r6
                          simp only [Nat.mul_one] at h6
                          rw [List.getElem?_take_of_lt hi'] at h6
                          have h7 : ((sortC ks).map bts).map encStr = (sortC ks).map (fun s => Value.string (strReal s)) := by
                            rw [List.map_map]
                            rfl
                          rw [h7, hV'] at h6
                          simpa using h6
                        · have hsz2 : cur.size = cap := by simpa using r5
                          rw [hlenS]
                          exact ⟨cur[(sortC ks).length + 0 + j]'(by omega), Array.getElem?_eq_getElem _⟩
              · cases h
            · cases h
          · cases h
      · cases h
  · cases h

end Go.Ev
