/-
  Drawn regions: what their making-ready says. Drawn regions: whatever the order, what the evaluator has is what comes about. Drawn regions are sound.
-/
import Derived.Test.YtjhmlmiegkjncaaGreatDoorEvQ
set_option linter.all false

namespace Go.Ev

section
variable {P : Program}

theorem dopsOf_spec {nt : Nat} {all : List Oper} {pres ch : List Nat} : ∀ (l : List Oper) (i : Nat) (ms : List Nat) (ds : List DOp), dopsOf P nt all pres ch i l ms = some ds →
    ds.length = l.length ∧ ∀ k o, l[k]? = some o → ∃ d, ds[k]? = some d ∧ ms[k]? = some d.pre ∧ d.i = i + k ∧ d.g = guC all o ∧ d.c = opC P o.op ∧ dstOf nt o.dst = some d.dst ∧ d.keep = keepOf pres ch (i + k)
  | [], i, [], ds, h => by
    simp only [dopsOf, Option.some.injEq] at h
    subst h
    exact ⟨rfl, fun k o hk => by simp at hk⟩
  | [], i, _ :: _, ds, h => by simp [dopsOf] at h
  | _ :: _, i, [], ds, h => by simp [dopsOf] at h
  | o :: l, i, m :: ms, ds, h => by
    simp only [dopsOf] at h
    split at h
    · rename_i dst ds' h1 h2
      cases h
      obtain ⟨g1, g2⟩ := dopsOf_spec l (i + 1) ms ds' h2
      refine ⟨by simp [g1], fun k o' hk => ?_⟩
      cases k with
      | zero =>
        simp only [List.getElem?_cons_zero, Option.some.injEq] at hk
        subst hk
        exact ⟨⟨i, guC all o, opC P o.op, dst, m, keepOf pres ch i⟩, rfl, rfl, rfl, rfl, rfl, h1, rfl⟩
      | succ k =>
        obtain ⟨d, a1, a2, a3, a4⟩ := g2 k o' (by simpa using hk)
        refine ⟨d, by simpa using a1, by simpa using a2, by omega, ?_⟩
        rw [show i + (k + 1) = i + 1 + k by omega]
        exact a4
    · cases h

theorem chainsOf_spec : ∀ (l : List Oper) (i : Nat), (chainsOf P i l).Pairwise (· < ·) ∧ ∀ c, c ∈ chainsOf P i l ↔ ∃ k o, l[k]? = some o ∧ c = i + k ∧ isChain (opC P o.op) = true
  | [], i => ⟨List.Pairwise.nil, fun c => ⟨fun h => (List.not_mem_nil h).elim, fun ⟨k, o, h, _⟩ => by simp at h⟩⟩
  | o :: l, i => by
    obtain ⟨h1, h2⟩ := chainsOf_spec l (i + 1)
    have tail : ∀ c, (∃ k o', (o :: l)[k]? = some o' ∧ c = i + k ∧ isChain (opC P o'.op) = true) ↔ ((c = i ∧ isChain (opC P o.op) = true) ∨ ∃ k o', l[k]? = some o' ∧ c = i + 1 + k ∧ isChain (opC P o'.op) = true) := by
      intro c
      constructor
      · rintro ⟨k, o', a, b, e⟩
        cases k with
        | zero =>
          simp only [List.getElem?_cons_zero, Option.some.injEq] at a
          subst a
          exact .inl ⟨by omega, e⟩
        | succ k => exact .inr ⟨k, o', by simpa using a, by omega, e⟩
      · rintro (⟨rfl, e⟩ | ⟨k, o', a, b, e⟩)
        · exact ⟨0, o, rfl, rfl, e⟩
        · exact ⟨k + 1, o', by simpa using a, by omega, e⟩
    simp only [chainsOf]
    cases hc : isChain (opC P o.op) with
    | true =>
      rw [cond_true]
      refine ⟨List.pairwise_cons.2 ⟨fun c hcm => ?_, h1⟩, fun c => ?_⟩
      · obtain ⟨k, _, _, e, _⟩ := (h2 c).1 hcm
        omega
      · rw [tail, List.mem_cons, h2, hc]
        simp
    | false =>
      rw [cond_false]
      refine ⟨h1, fun c => ?_⟩
      rw [tail, h2, hc]
      simp

theorem chainOk_spec {pres : List Nat} : ∀ (ch : List Nat), ch.Pairwise (· < ·) → chainOk pres ch = true → ∀ c c', c ∈ ch → c' ∈ ch → c < c' → bit ((pres[c']?).getD 0) c = true
  | [], hp, h, c, c', hc, hc', hlt => (List.not_mem_nil hc).elim
  | i :: l, hp, h, c, c', hc, hc', hlt => by
    simp only [chainOk, Bool.and_eq_true, List.all_eq_true] at h
    obtain ⟨h1, h2⟩ := List.pairwise_cons.1 hp
    rcases List.mem_cons.1 hc with e | m
    · rcases List.mem_cons.1 hc' with e' | m'
      · omega
      · rw [e]
        exact h.1 c' m'
    · rcases List.mem_cons.1 hc' with e' | m'
      · have := h1 c m
        omega
      · exact chainOk_spec l h2 h.2 c c' m m' hlt

theorem edgesOk_spec : ∀ (l : List Oper) (i : Nat), edgesOk i l = true → ∀ k o, l[k]? = some o → ∀ e ∈ o.after.toList, Region.binds .any e = true → e.on < i + k
  | [], i, h, k, o', hk, e, he, hb => by simp at hk
  | o :: l, i, h, k, o', hk, e, he, hb => by
    simp only [edgesOk, Bool.and_eq_true, List.all_eq_true] at h
    cases k with
    | zero =>
      simp only [List.getElem?_cons_zero, Option.some.injEq] at hk
      subst hk
      have := h.1 e he
      rw [hb] at this
      have := blt_of (by simpa using this)
      omega
    | succ k =>
      have := edgesOk_spec l (i + 1) h.2 k o' (by simpa using hk) e he hb
      omega

theorem smallDst_spec : ∀ (l : List Oper), smallDst l = true → ∀ o ∈ l, ∀ t : Nat, o.dst = some t → t < lim
  | [], h, o', ho, t, ht => (List.not_mem_nil ho).elim
  | o :: l, h, o', ho, t, ht => by
    simp only [smallDst, Bool.and_eq_true] at h
    rcases List.mem_cons.1 ho with rfl | ho
    · rw [ht] at h
      exact blt_of h.1
    · exact smallDst_spec l h.2 o' ho t ht

theorem writersT_spec : ∀ (l : List Oper) (i : Nat) (t : Tr (List Nat)), smallDst l = true → ∀ d : Nat,
    (∀ x, x ∈ (t.get d).getD [] → x ∈ ((writersT t i l).get d).getD []) ∧ ∀ k o, l[k]? = some o → o.dst = some d → i + k ∈ ((writersT t i l).get d).getD []
  | [], i, t, _, d => ⟨fun x hx => hx, fun k o h => by simp at h⟩
  | o :: l, i, t, hs, d => by
    have hs' : smallDst l = true := by simp only [smallDst, Bool.and_eq_true] at hs; exact hs.2
    simp only [writersT]
    -- what the first one adds
    have first : ∀ t1, t1 = (match o.dst with | some e => t.set big e (some (i :: (t.get e).getD [])) | none => t) → (∀ x, x ∈ (t.get d).getD [] → x ∈ (t1.get d).getD []) ∧ (o.dst = some d → i ∈ (t1.get d).getD []) := by
      intro t1 ht1
      subst ht1
      cases ho : o.dst with
      | none => exact ⟨fun x hx => hx, fun h => by cases h⟩
      | some e =>
        have hlt : e < lim := smallDst_spec (o :: l) hs o (by simp) e ho
        by_cases hed : e = d
        · subst hed
          simp only
          rw [Tr.get_set_eq _ _ _ _ (Nat.lt_of_lt_of_le (Nat.add_lt_add_right hlt 1) (by unfold lim big; decide))]
          exact ⟨fun x hx => by simp [hx], fun _ => by simp⟩
        · simp only
          rw [Tr.get_set_ne _ _ _ _ _ hed]
          exact ⟨fun x hx => hx, fun h => by cases h; exact (hed rfl).elim⟩
    obtain ⟨f1, f2⟩ := first _ rfl
    obtain ⟨g1, g2⟩ := writersT_spec l (i + 1) (match o.dst with | some e => t.set big e (some (i :: (t.get e).getD [])) | none => t) hs' d
    refine ⟨fun x hx => g1 x (f1 x hx), fun k o' hk hd => ?_⟩
    cases k with
    | zero =>
      simp only [List.getElem?_cons_zero, Option.some.injEq] at hk
      subst hk
      exact g1 i (f2 hd)
    | succ k =>
      have := g2 k o' (by simpa using hk) hd
      rwa [show i + 1 + k = i + (k + 1) by omega] at this

theorem namesOk1_spec {t : Tr (List Nat)} {pres : List Nat} {j : Nat} : ∀ (l : List Tmp), namesOk1 t pres j l = true → ∀ d ∈ l, ∀ i ∈ (t.get d).getD [], i = j ∨ ordered pres i j = true
  | [], h, d, hd, i, hi => (List.not_mem_nil hd).elim
  | d' :: l, h, d, hd, i, hi => by
    simp only [namesOk1, Bool.and_eq_true, List.all_eq_true, Bool.or_eq_true] at h
    rcases List.mem_cons.1 hd with rfl | hd
    · rcases h.1 i hi with h1 | h1
      · exact .inl (beq_of h1)
      · exact .inr h1
    · exact namesOk1_spec l h.2 d hd i hi

theorem namesOkL_spec {all : List Oper} {t : Tr (List Nat)} {pres : List Nat} : ∀ (l : List Oper) (j : Nat), namesOkL all t pres j l = true → ∀ k o, l[k]? = some o → namesOk1 t pres (j + k) (namesOf all o) = true
  | [], j, h, k, o', hk => by simp at hk
  | o :: l, j, h, k, o', hk => by
    simp only [namesOkL, Bool.and_eq_true] at h
    cases k with
    | zero =>
      simp only [List.getElem?_cons_zero, Option.some.injEq] at hk
      subst hk
      exact h.1
    | succ k =>
      have := namesOkL_spec l (j + 1) h.2 k o' (by simpa using hk)
      rwa [show j + 1 + k = j + (k + 1) by omega] at this

/-- What a region that was made ready bears. -/
structure Ready (P : Program) (nt : Nat) (all : List Oper) (d : Nat → DOp) : Prop where
  idx : ∀ i, i < all.length → (d i).i = i
  op : ∀ i o, all[i]? = some o → (d i).g = guC all o ∧ (d i).c = opC P o.op ∧ dstOf nt o.dst = some (d i).dst
  edge : ∀ i o, all[i]? = some o → ∀ j, bit (d i).pre j = true → ∃ e ∈ o.after.toList, Region.binds .any e = true ∧ e.on < i ∧ (e.on = j ∨ bit (d e.on).pre j = true)
  on : ∀ i o, all[i]? = some o → ∀ e ∈ o.after.toList, Region.binds .any e = true → e.on < i
  low : ∀ c, c < all.length → ∀ j, bit (d c).pre j = true → j < c
  chain : ∀ c c', c < c' → c' < all.length → isChain (d c).c = true → isChain (d c').c = true → bit (d c').pre c = true
  name : ∀ i j oi oj, all[i]? = some oi → all[j]? = some oj → ∀ t : Nat, oi.dst = some t → t ∈ namesOf all oj → i = j ∨ (i < j ∧ bit (d j).pre i = true) ∨ (j < i ∧ bit (d i).pre j = true)
  keep : ∀ i, i < all.length → (∃ c, c < all.length ∧ i < c ∧ isChain (d c).c = true ∧ bit (d c).pre i = false) → (d i).keep = true

theorem drawOf_ready {nt : Nat} {all : List Oper} {ds : List DOp} (h : drawWith P nt all (predsL [] all) (chainsOf P 0 all) = some ds) :
    ∃ d : Nat → DOp, ds.length = all.length ∧ (∀ i e, ds[i]? = some e → e = d i) ∧ Ready P nt all d := by
  unfold drawWith at h
  cases hok : (namesOk all (predsL [] all) && chainOk (predsL [] all) (chainsOf P 0 all) && edgesOk 0 all && noSelect all) with
  | false => rw [hok] at h; cases h
  | true =>
    rw [hok, cond_true] at h
    simp only [Bool.and_eq_true] at hok
    obtain ⟨⟨⟨hn, hc⟩, he⟩, _⟩ := hok
    · have hds := h
      obtain ⟨g1, g2⟩ := dopsOf_spec all 0 (predsL [] all) ds hds
      obtain ⟨rr, p1, p2, p3⟩ := predsL_spec all []
      simp only [List.nil_append] at p1
      have plen : (predsL [] all).length = all.length := by rw [p1, p2]
      refine ⟨fun i => (ds[i]?).getD ⟨0, .bad, .bad, .none, 0, false⟩, g1, fun i e he => by simp [he], ?_⟩
      -- the masks
      have pre : ∀ i, i < all.length → ((predsL [] all)[i]?).getD 0 = ((ds[i]?).getD ⟨0, .bad, .bad, .none, 0, false⟩).pre := by
        intro i hi
        obtain ⟨d, a1, a2, _⟩ := g2 i all[i] (List.getElem?_eq_getElem hi)
        rw [a1, a2]
        rfl
      have edge : ∀ i o, all[i]? = some o → ∀ j, bit ((ds[i]?).getD ⟨0, .bad, .bad, .none, 0, false⟩).pre j = true → ∃ e ∈ o.after.toList, Region.binds .any e = true ∧ e.on < i ∧ (e.on = j ∨ bit ((ds[e.on]?).getD ⟨0, .bad, .bad, .none, 0, false⟩).pre j = true) := by
        intro i o ho j hb
        obtain ⟨d, a1, a2, _⟩ := g2 i o ho
        rw [a1] at hb
        simp only [Option.getD_some] at hb
        have hm := p3 i o ho d.pre (by simpa using a2)
        rw [hm] at hb
        obtain ⟨e, e1, e2, e3⟩ := edgesM_bit _ _ j hb
        have hlt := edgesOk_spec all 0 he i o ho e e1 e2
        refine ⟨e, e1, e2, by omega, ?_⟩
        rcases e3 with e3 | e3
        · exact .inl e3
        · right
          have hi : i < all.length := (List.getElem?_eq_some_iff.1 ho).1
          rw [List.getElem?_take_of_lt (by simp; omega)] at e3
          rw [pre e.on (by omega)] at e3
          exact e3
      have low : ∀ c, c < all.length → ∀ j, bit ((ds[c]?).getD ⟨0, .bad, .bad, .none, 0, false⟩).pre j = true → j < c := by
        intro c
        induction c using Nat.strongRecOn with
        | _ c ih =>
          intro hc j hb
          obtain ⟨e, e1, e2, e3, e4⟩ := edge c all[c] (List.getElem?_eq_getElem hc) j hb
          rcases e4 with e4 | e4
          · omega
          · have := ih e.on e3 (by omega) j e4
            omega
      have isc : ∀ c, c < all.length → isChain ((ds[c]?).getD ⟨0, .bad, .bad, .none, 0, false⟩).c = true → c ∈ chainsOf P 0 all := by
        intro c hc hb
        obtain ⟨d, a1, a2, a3, a4, a5, a6⟩ := g2 c all[c] (List.getElem?_eq_getElem hc)
        rw [a1] at hb
        simp only [Option.getD_some] at hb
        rw [a5] at hb
        exact ((chainsOf_spec all 0).2 c).2 ⟨c, all[c], List.getElem?_eq_getElem hc, by omega, hb⟩
      refine ⟨fun i hi => ?_, fun i o ho => ?_, edge, fun i o ho e e1 e2 => by have := edgesOk_spec all 0 he i o ho e e1 e2; omega, low, fun c c' h1 h2 h3 h4 => ?_, fun i j oi oj hi hj t ht hm => ?_, fun i hi ⟨c, c1, c2, c3, c4⟩ => ?_⟩
      · obtain ⟨d, a1, a2, a3, _⟩ := g2 i all[i] (List.getElem?_eq_getElem hi)
        rw [a1]
        simp only [Option.getD_some]
        omega
      · obtain ⟨d, a1, a2, a3, a4, a5, a6, _⟩ := g2 i o ho
        rw [a1]
        exact ⟨a4, a5, a6⟩
      · have := chainOk_spec _ (chainsOf_spec all 0).1 hc c c' (isc c (by omega) h3) (isc c' h2 h4) h1
        rwa [pre c' h2] at this
      · unfold namesOk at hn
        simp only [Bool.and_eq_true] at hn
        have hw := (writersT_spec all 0 .leaf hn.1 t).2 i oi hi ht
        have h1 := namesOk1_spec _ (namesOkL_spec all 0 hn.2 j oj hj) t hm (0 + i) hw
        simp only [Nat.zero_add] at h1
        have hil : i < all.length := (List.getElem?_eq_some_iff.1 hi).1
        have hjl : j < all.length := (List.getElem?_eq_some_iff.1 hj).1
        rcases h1 with h1 | h1
        · exact .inl h1
        · unfold ordered at h1
          cases hlt : Nat.blt i j with
          | true =>
            rw [hlt, cond_true, pre j hjl] at h1
            exact .inr (.inl ⟨blt_of hlt, h1⟩)
          | false =>
            rw [hlt, cond_false, pre i hil] at h1
            exact .inr (.inr ⟨low i hil j h1, h1⟩)
      · obtain ⟨d, a1, a2, a3, a4, a5, a6, a7⟩ := g2 i all[i] (List.getElem?_eq_getElem hi)
        rw [a1]
        simp only [Option.getD_some]
        rw [a7]
        unfold keepOf
        rw [List.any_eq_true]
        refine ⟨c, isc c c1 c3, ?_⟩
        rw [pre c c1, Nat.zero_add, c4]
        simpa [Nat.blt_eq] using c2

end
end Go.Ev

namespace Go.Ev

open Classical in
/-- What a name holds when the operations D are done. -/
noncomputable def val (dst : Nat → Option Nat) (v : Nat → CV) (tm0 : Tm) (D : Nat → Prop) (t : Nat) : Nat → Option CV
  | 0 => getT t tm0
  | i + 1 => if D i ∧ dst i = some t then some (v i) else val dst v tm0 D t i

section
variable {dst : Nat → Option Nat} {v : Nat → CV} {tm0 : Tm}

theorem val_congr {D D' : Nat → Prop} {t : Nat} : ∀ (i : Nat), (∀ j, j < i → dst j = some t → (D j ↔ D' j)) → val dst v tm0 D t i = val dst v tm0 D' t i
  | 0, _ => rfl
  | i + 1, h => by
    simp only [val]
    rw [val_congr i (fun j hj => h j (by omega))]
    by_cases hd : dst i = some t
    · have := h i (by omega) hd
      by_cases hD : D i
      · rw [if_pos ⟨hD, hd⟩, if_pos ⟨this.1 hD, hd⟩]
      · rw [if_neg (fun x => hD x.1), if_neg (fun x => hD (this.2 x.1))]
    · rw [if_neg (fun x => hd x.2), if_neg (fun x => hd x.2)]

theorem val_skip {D : Nat → Prop} {t i : Nat} : ∀ (n : Nat), i ≤ n → (∀ j, i ≤ j → j < n → dst j = some t → ¬ D j) → val dst v tm0 D t n = val dst v tm0 D t i
  | 0, h, _ => by
    have : i = 0 := by omega
    subst this; rfl
  | n + 1, h, hn => by
    by_cases e : i = n + 1
    · subst e; rfl
    · simp only [val]
      rw [if_neg (fun x => hn n (by omega) (by omega) x.2 x.1)]
      exact val_skip n (by omega) (fun j h1 h2 => hn j h1 (by omega))
end

/-- The name that an operation writes. -/
def dstAt (all : List Oper) (i : Nat) : Option Nat := (all[i]?).bind (·.dst)

section
variable {P : Program} {base : Nat} {call : Call} {nt n : Nat} {all : List Oper} {d : Nat → DOp} {X : Nat → DSt} {v : Nat → CV}

theorem trace_tm (R : Ready P nt all d) (t : Trace base call n d X v) (hn : n = all.length) : ∀ i, i ≤ n → ∀ x, x < 256 → getT x (X i).tm = val (dstAt all) v (X 0).tm (fun _ => True) x i
  | 0, _, x, _ => rfl
  | i + 1, hi, x, hx => by
    have ih := trace_tm R t hn i (by omega) x hx
    have hil : i < all.length := by omega
    have ho : all[i]? = some all[i] := List.getElem?_eq_getElem hil
    obtain ⟨_, _, hd⟩ := R.op i _ ho
    have htm : (X (i + 1)).tm = putD (d i).dst (v i) (X i).tm := by
      rcases stepD_inv (t.step i (by omega)) with ⟨_, hv, e⟩ | ⟨hw, ⟨f, hc, hf, e⟩ | ⟨f, hc, hf, ha, e⟩ | ⟨f, o, mk, hc, hf, hv, e⟩ | ⟨f, S, hc, hf, ha, e⟩⟩
      · rw [e, hv]
      all_goals rw [e]
    rw [htm]
    simp only [val, true_and]
    have hda : dstAt all i = all[i].dst := by simp [dstAt, ho]
    rw [hda]
    rcases dstOf_some hd with ⟨h1, h2⟩ | ⟨e, h1, h2, h3, h4⟩
    · rw [h2, h1, if_neg (by simp)]
      exact ih
    · rw [h4, h1]
      by_cases hex : e = x
      · subst hex
        rw [if_pos rfl, getT_setT_eq _ _ _ h3]
      · rw [if_neg (fun h => hex (Option.some.inj h)), getT_setT_ne _ _ _ _ h3 hx hex]
        exact ih

/-- A state of the evaluator's for the operations D: the chain's, with the new blocks beside. -/
structure IsT (base n : Nat) (d : Nat → DOp) (X : Nat → DSt) (v : Nat → CV) (D : Nat → Prop) (m : Nat) (T : St) : Prop where
  next : T.next = (X m).S.next
  nk : T.nk = (X m).S.nk
  get : ∀ b o, T.heap.get b = some o ↔ (X m).S.heap.get b = some o ∨ ∃ j, j < n ∧ D j ∧ NO base d X v j o ∧ Un d X m j ∧ b = base + j
  apart : ∀ j o, j < n → D j → NO base d X v j o → Un d X m j → (X m).S.heap.get (base + j) = none

/-- Where it is in the chain does not matter where there is nothing between. -/
theorem IsT.move (t : Trace base call n d X v) {D : Nat → Prop} {m m' : Nat} {T : St} (h : IsT base n d X v D m T) (hm : m ≤ n) (hm' : m' ≤ n)
    (h1 : ∀ c, m ≤ c → c < m' → isChain (d c).c = false ∨ ¬ Wan d X c) (h2 : ∀ c, m' ≤ c → c < m → isChain (d c).c = false ∨ ¬ Wan d X c) : IsT base n d X v D m' T := by
  have hS : (X m').S = (X m).S := by
    rcases Nat.le_total m m' with h | h
    · exact (t.still m' h hm' h1).symm
    · exact t.still m h hm h2
  have hU : ∀ j, Un d X m' j ↔ Un d X m j := by
    intro j
    constructor
    · intro u c hc hcc hcw
      rcases Nat.lt_or_ge c m' with h | h
      · exact u c h hcc hcw
      · rcases h2 c h hc with e | e
        · rw [hcc] at e; cases e
        · exact (e hcw).elim
    · intro u c hc hcc hcw
      rcases Nat.lt_or_ge c m with h | h
      · exact u c h hcc hcw
      · rcases h1 c h hc with e | e
        · rw [hcc] at e; cases e
        · exact (e hcw).elim
  refine ⟨by rw [hS]; exact h.next, by rw [hS]; exact h.nk, fun b o => ?_, fun j o a b c e => by rw [hS]; exact h.apart j o a b c ((hU j).1 e)⟩
  rw [hS, h.get b o]
  constructor
  · rintro (h | ⟨j, a1, a2, a3, a4, a5⟩)
    · exact .inl h
    · exact .inr ⟨j, a1, a2, a3, (hU j).2 a4, a5⟩
  · rintro (h | ⟨j, a1, a2, a3, a4, a5⟩)
    · exact .inl h
    · exact .inr ⟨j, a1, a2, a3, (hU j).1 a4, a5⟩

/-- Nothing new is done. -/
theorem IsT.same {D D' : Nat → Prop} {m : Nat} {T : St} (h : IsT base n d X v D m T) (hD : ∀ j o, NO base d X v j o → (D j ↔ D' j)) : IsT base n d X v D' m T := by
  refine ⟨h.next, h.nk, fun b o => ?_, fun j o a b c e => h.apart j o a ((hD j o c).2 b) c e⟩
  rw [h.get b o]
  constructor
  · rintro (h | ⟨j, a1, a2, a3, a4, a5⟩)
    · exact .inl h
    · exact .inr ⟨j, a1, (hD j o a3).1 a2, a3, a4, a5⟩
  · rintro (h | ⟨j, a1, a2, a3, a4, a5⟩)
    · exact .inl h
    · exact .inr ⟨j, a1, (hD j o a3).2 a2, a3, a4, a5⟩

/-- The part of it that an operation of the evaluator's looks at. -/
theorem IsT.part {D : Nat → Prop} {m i : Nat} {T : St} (h : IsT base n d X v D m T) {p : List (Nat × Nat × CObj)} (hp : Mine base n d X v m i p) (hpre : ∀ j, bit (d i).pre j = true → D j) : Sub (addAll p (X m).S) T := by
  obtain ⟨h1, h2⟩ := addAll_nn p (X m).S
  refine ⟨fun b o hb => ?_, by rw [h1, h.next], by rw [h2, h.nk]⟩
  obtain ⟨g1, g2⟩ := addAll_get p (X m).S hp.1 b
  by_cases he : ∃ e ∈ p, e.2.1 = b
  · obtain ⟨e, he, heb⟩ := he
    rw [g1 e he heb] at hb
    cases hb
    obtain ⟨a1, a2, a3, a4, a5⟩ := hp.2 e he
    exact (h.get b _).2 (.inr ⟨e.1, a1, hpre _ a5, a3, a4, by omega⟩)
  · rw [g2 (fun e he' heb => he ⟨e, he', heb⟩)] at hb
    exact (h.get b o).2 (.inl hb)

/-- What holds when the operations D are done. -/
structure Inv (P : Program) (base n nt : Nat) (all : List Oper) (d : Nat → DOp) (X : Nat → DSt) (v : Nat → CV) (ρ0 : Ren) (S0 : St) (w0 : World) (dfs : List Deferred) (D : Nat → Prop) (a : Act) (w : World) (ρ : Ren) (m : Nat) (T : St) (tm : Tm) : Prop where
  bound : ∀ i, D i → i < n
  closed : ∀ i, D i → ∀ j, bit (d i).pre j = true → D j
  le : m ≤ n
  pos : ∀ c, c < n → isChain (d c).c = true → (D c ↔ c < m)
  isT : IsT base n d X v D m T
  stp : StpB base ρ0 S0 w0 ρ T w
  fr : FrRel ρ nt tm a
  name : ∀ x, x < 256 → getT x tm = val (dstAt all) v (X 0).tm D x n
  free : ∀ j, j < n → ¬ D j → ρ.b (base + j) = none
  dfs : IdleExt P dfs a.defers

theorem inv_step (R : Ready P nt all d) (t : Trace base call n d X v) (hn : n = all.length) (hcall : CallOK P call) {ops : Array Oper} (hall : ops.toList = all) {ρ0 : Ren} {S0 : St} {w0 : World} (hg0 : Glob P ρ0) (hS0 : base + n ≤ S0.next) (hlim : base + n < lim)
    {dfs : List Deferred} {D : Nat → Prop} {a : Act} {w : World} {ρ : Ren} {m : Nat} {T : St} {tm : Tm} (inv : Inv P base n nt all d X v ρ0 S0 w0 dfs D a w ρ m T tm) {i : Nat} (hi : i < n) (hDi : ¬ D i) (hpre : ∀ j, bit (d i).pre j = true → D j)
    {K' : Act → World → Prop} {Q' : Exit → Act → World → Prop} (hK : ∀ a' w' ρ' m' T' tm', Inv P base n nt all d X v ρ0 S0 w0 dfs (fun j => D j ∨ j = i) a' w' ρ' m' T' tm' → K' a' w') : wpOp P ops Q' i K' a w := by
  have hil : i < all.length := by omega
  obtain ⟨o, ho⟩ : ∃ o, all[i]? = some o := ⟨all[i], List.getElem?_eq_getElem hil⟩
  have ho' : ops[i]? = some o := by rw [← hall] at ho; simpa using ho
  obtain ⟨hgu, hco, hdst⟩ := R.op i o ho
  have hglob : Glob P ρ := hg0.mono inv.stp.ext
  have hrel : Rel ρ T w := inv.stp.rel
  -- operations of the chain that wait, and those that are done
  have notafter : ∀ c, D c → bit (d c).pre i = false := by
    intro c hc
    cases hb : bit (d c).pre i with
    | false => rfl
    | true => exact (hDi (inv.closed c hc i hb)).elim
  -- the names that it looks at hold what the evaluator has
  have agree : ∀ x, x ∈ namesOf all o → x < 256 → getT x tm = getT x (X i).tm := by
    intro x hx hlt
    rw [inv.name x hlt, trace_tm R t hn i (by omega) x hlt]
    have hw : ∀ j, j < n → dstAt all j = some x → j ≠ i → (j < i ∧ bit (d i).pre j = true) ∨ (i < j ∧ bit (d j).pre i = true) := by
      intro j hj hdj hji
      have hoj : all[j]? = some all[j] := List.getElem?_eq_getElem (by omega)
      have hdj' : all[j].dst = some x := by simpa [dstAt, hoj] using hdj
      rcases R.name j i all[j] o hoj ho x hdj' hx with e | e | e
      · exact (hji e).elim
      · exact .inl e
      · exact .inr e
    rw [val_skip (i := i) n (by omega) (fun j h1 h2 h3 hD => ?_)]
    · refine val_congr i (fun j hj hdj => ⟨fun _ => trivial, fun _ => ?_⟩)
      rcases hw j (by omega) hdj (by omega) with ⟨_, e⟩ | ⟨e, _⟩
      · exact hpre j e
      · omega
    · by_cases e : j = i
      · subst e; exact hDi hD
      · rcases hw j h2 h3 e with ⟨e', _⟩ | ⟨_, e'⟩
        · omega
        · exact hDi (inv.closed j hD i e')
  have hag : Agree P o.op tm (X i).tm := by
    intro x hx
    cases x with
    | tmp y =>
      show (tmpO y).eval tm = (tmpO y).eval (X i).tm
      rw [tmpO_eval, tmpO_eval]
      split
      · rename_i hlt
        refine agree y ?_ hlt
        simp only [namesOf, List.mem_append]
        right
        rw [List.mem_filterMap]
        exact ⟨.tmp y, hx, rfl⟩
      · rfl
    | const c =>
      show (opd P (.const c)).eval tm = (opd P (.const c)).eval (X i).tm
      simp only [opd]
      cases ofV depth0 c <;> rfl
    | global g =>
      show (opd P (.global g)).eval tm = (opd P (.global g)).eval (X i).tm
      simp only [opd]
      cases Nat.blt g P.globals.size <;> rfl
    | func f => rfl
  have hwant : wantedC (guC all o) tm = wantedC (guC all o) (X i).tm := by
    unfold guC
    cases hgo : guardOf all o with
    | none => rfl
    | some q =>
      cases q with
      | none => rfl
      | some q =>
        obtain ⟨y, want⟩ := q
        have : (tmpO y).eval tm = (tmpO y).eval (X i).tm := by
          rw [tmpO_eval, tmpO_eval]
          split
          · rename_i hlt
            refine agree y ?_ hlt
            simp only [namesOf, List.mem_append]
            left; right
            rw [hgo]
            simp
          · rfl
        simp only [wantedC, this]
  have hsame := opC_same o.op hag
  have hok := opC_ok P o
  rw [← hco] at hsame hok
  -- the end of every case
  have fin' : ∀ (ρ' : Ren) (m' : Nat) (T' : St) (w' : World) (V : Value) (a1 : Act), a1.tmps = a.tmps → IdleExt P a.defers a1.defers → m' ≤ n → (∀ c, c < n → isChain (d c).c = true → ((D c ∨ c = i) ↔ c < m')) → IsT base n d X v (fun j => D j ∨ j = i) m' T' → StpB base ρ0 S0 w0 ρ' T' w' → ρ.Le ρ' →
      real ρ' (v i) = some V → (∀ j, j < n → ¬ (D j ∨ j = i) → ρ'.b (base + j) = none) → K' (a1.put o.dst V) w' := by
    intro ρ' m' T' w' V a1 ha1 hd1 h1 h2 h3 h4 h5 h6 h7
    refine hK _ _ ρ' m' T' (putD (d i).dst (v i) tm) ⟨?_, ?_, h1, h2, h3, h4, ((inv.fr.mono h5).act ha1).put hdst h6, ?_, h7, (inv.dfs.trans hd1).trans (.of (put_defers _ _ _))⟩
    · rintro j (h | rfl)
      · exact inv.bound j h
      · exact hi
    · rintro j (h | rfl) k hk
      · exact .inl (inv.closed j h k hk)
      · exact .inl (hpre k hk)
    · intro x hx
      have hda : dstAt all i = o.dst := by simp [dstAt, ho]
      rcases dstOf_some hdst with ⟨e1, e2⟩ | ⟨e, e1, e2, e3, e4⟩
      · rw [e2, inv.name x hx]
        refine val_congr n (fun j hj hdj => ⟨fun h => .inl h, fun h => ?_⟩)
        rcases h with h | rfl
        · exact h
        · rw [hda, e1] at hdj
          cases hdj
      · rw [e4]
        by_cases hex : e = x
        · subst hex
          rw [getT_setT_eq _ _ _ e3]
          rw [val_skip (i := i + 1) n (by omega) (fun j h1 h2 h3 hD => ?_)]
          · simp only [val]
            rw [if_pos ⟨.inr rfl, by rw [hda, e1]⟩]
          · rcases hD with hD | hD
            · have hoj : all[j]? = some all[j] := List.getElem?_eq_getElem (by omega)
              have hdj' : all[j].dst = some e := by simpa [dstAt, hoj] using h3
              have hmem : e ∈ namesOf all o := by
                simp only [namesOf, List.mem_append]
                left; left
                rw [e1]
                simp
              rcases R.name j i all[j] o hoj ho e hdj' hmem with h | h | h
              · omega
              · omega
              · exact hDi (inv.closed j hD i h.2)
            · omega
        · rw [getT_setT_ne _ _ _ _ e3 hx hex, inv.name x hx]
          refine val_congr n (fun j hj hdj => ⟨fun h => .inl h, fun h => ?_⟩)
          rcases h with h | rfl
          · exact h
          · rw [hda, e1] at hdj
            cases hdj
            exact (hex rfl).elim
  have fin : ∀ (ρ' : Ren) (m' : Nat) (T' : St) (w' : World) (V : Value), m' ≤ n → (∀ c, c < n → isChain (d c).c = true → ((D c ∨ c = i) ↔ c < m')) → IsT base n d X v (fun j => D j ∨ j = i) m' T' → StpB base ρ0 S0 w0 ρ' T' w' → ρ.Le ρ' →
      real ρ' (v i) = some V → (∀ j, j < n → ¬ (D j ∨ j = i) → ρ'.b (base + j) = none) → K' (a.put o.dst V) w' :=
    fun ρ' m' T' w' V h1 h2 h3 h4 h5 h6 h7 => fin' ρ' m' T' w' V a rfl (.refl _) h1 h2 h3 h4 h5 h6 h7
  -- where it is no operation of the chain
  have posN : isChain (d i).c = false → ∀ c, c < n → isChain (d c).c = true → ((D c ∨ c = i) ↔ c < m) := by
    intro hnc c hc hcc
    rw [← inv.pos c hc hcc]
    constructor
    · rintro (h | rfl)
      · exact h
      · rw [hcc] at hnc; cases hnc
    · exact fun h => .inl h
  -- where it is one of the chain
  have posC : isChain (d i).c = true → ∀ c, c < n → isChain (d c).c = true → (D c ↔ c < i) := by
    intro hic c hc hcc
    constructor
    · intro hD
      rcases Nat.lt_trichotomy c i with h | h | h
      · exact h
      · subst h; exact (hDi hD).elim
      · have := R.chain i c h (by omega) hic hcc
        rw [notafter c hD] at this
        cases this
    · intro h
      exact hpre c (R.chain c i h hil hcc hic)
  have atI : isChain (d i).c = true → IsT base n d X v D i T := by
    intro hic
    refine inv.isT.move t inv.le (by omega) (fun c h1 h2 => ?_) (fun c h1 h2 => ?_)
    · cases hcc : isChain (d c).c with
      | false => exact .inl rfl
      | true =>
        have := (posC hic c (by omega) hcc).2 h2
        have := (inv.pos c (by omega) hcc).1 this
        omega
    · cases hcc : isChain (d c).c with
      | false => exact .inl rfl
      | true =>
        have hml := inv.le
        have := (inv.pos c (by omega) hcc).2 h2
        have := (posC hic c (by omega) hcc).1 this
        omega
  have noNew : (∀ f, (d i).c ≠ .new f) ∨ ¬ Wan d X i → ∀ j o', NO base d X v j o' → (D j ↔ (D j ∨ j = i)) := by
    intro h j o' hno
    constructor
    · exact fun h => .inl h
    · rintro (h' | rfl)
      · exact h'
      · obtain ⟨f, mk, g1, g2, _⟩ := hno
        rcases h with h | h
        · exact (h f g1).elim
        · exact (h g2).elim
  have freeS : ∀ j, j < n → ¬ (D j ∨ j = i) → ρ.b (base + j) = none := fun j hj h => inv.free j hj (fun h' => h (.inl h'))
  unfold wpOp
  rw [ho']
  simp only
  rcases stepD_inv (t.step i hi) with ⟨hw, hv, _⟩ | ⟨hw, hcase⟩
  · -- not wanted
    rw [hgu, ← hwant] at hw
    have := wanted_of inv.fr (ops := ops) (o := o) (b := false) (by rw [hall]; exact hw)
    rw [this]
    simp only [Bool.false_eq_true, if_false]
    have hnw : ¬ Wan d X i := fun h => by
      unfold Wan at h
      rw [hgu, ← hwant, hw] at h
      cases h
    have hreal : real ρ (v i) = some undef := by rw [hv]; rfl
    cases hic : isChain (d i).c with
    | false => exact fin ρ m T w undef inv.le (posN hic) (inv.isT.same (noNew (.inr hnw))) inv.stp (.refl ρ) hreal freeS
    | true =>
      refine fin ρ (i + 1) T w undef (by omega) (fun c hc hcc => ?_) (((atI hic).move t (by omega) (by omega) (fun c h1 h2 => ?_) (fun c h1 h2 => ?_)).same (noNew (.inr hnw))) inv.stp (.refl ρ) hreal freeS
      · rw [posC hic c hc hcc]
        omega
      · have : c = i := by omega
        subst this
        exact .inr hnw
      · omega
  · -- wanted
    have hwan : Wan d X i := hw
    rw [hgu, ← hwant] at hw
    have := wanted_of inv.fr (ops := ops) (o := o) (b := true) (by rw [hall]; exact hw)
    rw [this, if_pos rfl]
    left
    rcases hcase with ⟨f, hc, hf, _⟩ | ⟨f, hc, hf, _, _⟩ | ⟨f, obj, mk, hc, hf, hv, _⟩ | ⟨f, S, hc, _, _, _⟩
    · -- pure
      rw [hc] at hsame hok
      have hf' : f tm = some (v i) := by rw [show f tm = f (X i).tm from hsame]; exact hf
      obtain ⟨V, h1, h2⟩ := hok ρ nt tm a (v i) inv.fr hglob hf'
      unfold Oper.wp
      rw [h2 w]
      have hic : isChain (d i).c = false := by rw [hc]; rfl
      exact fin ρ m T w V inv.le (posN hic) (inv.isT.same (noNew (.inl (fun g hg => by rw [hc] at hg; cases hg)))) inv.stp (.refl ρ) h1 freeS
    · -- a read
      rw [hc] at hsame hok
      have hic : isChain (d i).c = false := by rw [hc]; rfl
      obtain ⟨p, hp, hfp⟩ := t.read hi hc hwan inv.le (by
        rcases Nat.lt_or_ge i m with h | h
        · refine .inr ⟨h, fun c h1 h2 hcc => ?_⟩
          have hml := inv.le
          exact notafter c ((inv.pos c (by omega) hcc).2 h2)
        · refine .inl ⟨h, fun c h1 h2 hcc => ?_⟩
          cases hb : bit (d i).pre c with
          | false => rfl
          | true =>
            have := (inv.pos c (by omega) hcc).1 (hpre c hb)
            omega)
      have hf' : f tm (addAll p (X m).S) = some (v i) := by rw [show f tm (addAll p (X m).S) = f (X i).tm (addAll p (X m).S) from hsame _]; exact hfp
      obtain ⟨V, h1, h2⟩ := hok ρ nt tm a (v i) _ w inv.fr hglob (hrel.has.sub (inv.isT.part hp hpre)) hf'
      unfold Oper.wp
      rw [h2]
      exact fin ρ m T w V inv.le (posN hic) (inv.isT.same (noNew (.inl (fun g hg => by rw [hc] at hg; cases hg)))) inv.stp (.refl ρ) h1 freeS
    · -- a new block
      rw [hc] at hsame hok
      have hic : isChain (d i).c = false := by rw [hc]; rfl
      rw [t.idx i hi] at hv
      have hno : NO base d X v i obj := ⟨f, mk, hc, hwan, hf, hv⟩
      have hf' : f tm = some (obj, mk) := by rw [show f tm = f (X i).tm from hsame]; exact hf
      obtain ⟨O, hO, h2⟩ := hok ρ nt tm a obj mk inv.fr hglob hf'
      obtain ⟨V, h3, h4⟩ := h2 w
      unfold Oper.wp
      rw [h3]
      have hfree := inv.free i hi hDi
      have hTi : T.heap.get (base + i) = none := by
        cases hq : T.heap.get (base + i) with
        | none => rfl
        | some o' =>
          obtain ⟨_, _, _, e1, _⟩ := hrel.obj _ o' hq
          rw [hfree] at e1
          cases e1
      have hbig : base + i + 1 < 2 ^ big := by have := t.small; omega
      have hstp := StpB.newAt (N := base) (T' := ⟨T.heap.set big (base + i) (some obj), T.next, T.nk⟩) (w' := { w with heap := w.heap.push O }) hrel (r := base + i) (by have := inv.stp.next; omega) (by omega) hfree hO (Tr.get_set_eq _ _ _ _ hbig) (fun b hb o' ho' => by
        have ho' : (T.heap.set big (base + i) (some obj)).get b = some o' := ho'
        rw [Tr.get_set_ne _ _ _ _ _ (fun e => hb e.symm)] at ho'
        exact ho') rfl rfl rfl rfl rfl rfl
      have hun : Un d X m i := fun c hc' hcc _ => by
        have hml := inv.le
        exact notafter c ((inv.pos c (by omega) hcc).2 hc')
      have hXi : (X m).S.heap.get (base + i) = none := by
        cases hq : (X m).S.heap.get (base + i) with
        | none => rfl
        | some o' =>
          have := (inv.isT.get (base + i) o').2 (.inl hq)
          rw [hTi] at this
          cases this
      refine fin _ m ⟨T.heap.set big (base + i) (some obj), T.next, T.nk⟩ _ V inv.le (posN hic) ⟨inv.isT.next, inv.isT.nk, fun b o' => ?_, fun j o' h5 h6 h7 h8 => ?_⟩ (inv.stp.comp hstp (Nat.le_refl _)) hstp.ext (by rw [hv.1]; exact h4 _ _ (by simp [Ren.extb])) (fun j hj h => ?_)
      · show (T.heap.set big (base + i) (some obj)).get b = some o' ↔ _
        by_cases hb : b = base + i
        · subst hb
          rw [Tr.get_set_eq _ _ _ _ hbig]
          constructor
          · intro e
            cases e
            exact .inr ⟨i, hi, .inr rfl, hno, hun, rfl⟩
          · rintro (e | ⟨j, a1, a2, a3, a4, a5⟩)
            · rw [hXi] at e; cases e
            · have : j = i := by omega
              subst this
              rw [NO.inj a3 hno]
        · rw [Tr.get_set_ne _ _ _ _ _ (fun e => hb e.symm), inv.isT.get b o']
          constructor
          · rintro (e | ⟨j, a1, a2, a3, a4, a5⟩)
            · exact .inl e
            · exact .inr ⟨j, a1, .inl a2, a3, a4, a5⟩
          · rintro (e | ⟨j, a1, a2, a3, a4, a5⟩)
            · exact .inl e
            · rcases a2 with a2 | rfl
              · exact .inr ⟨j, a1, a2, a3, a4, a5⟩
              · exact (hb a5).elim
      · rcases h6 with h6 | rfl
        · exact inv.isT.apart j o' h5 h6 h7 h8
        · exact hXi
      · have hji : j ≠ i := fun e => h (.inr e)
        simp only [Ren.extb]
        rw [if_neg (by omega)]
        exact freeS j hj h
    · -- the chain
      have hic : isChain (d i).c = true := by rw [hc]; rfl
      obtain ⟨f', hc', hrun, _⟩ := t.chain hi hic hwan
      rw [hc] at hc'
      cases hc'
      rw [hc] at hsame hok
      have hTi := atI hic
      have hmine := t.mine hi (Nat.le_refl i)
      have hsub := hTi.part hmine hpre
      have hrun' : callRes call (f tm (addAll (splitP (d i).pre (X i).pend).1 (X i).S)) = .ok (v i) (X (i + 1)).S := by rw [hsame]; exact hrun
      refine chain_wp hok hcall hrun' inv.fr hglob (hrel.sub hsub) (fun ρ' w' V a1 ha1 hd1 hstp hV => ?_)
      have hAn := hsub.next
      have hTn : base + n ≤ T.next := by have := inv.stp.next; omega
      have hold : ∀ j, j < n → ρ'.b (base + j) = ρ.b (base + j) := fun j hj => hstp.old _ (by rw [hAn]; omega)
      -- a block that waits still is not in the part
      have beside : ∀ j o', j < n → D j → NO base d X v j o' → Un d X i j → bit (d i).pre j = false → (addAll (splitP (d i).pre (X i).pend).1 (X i).S).heap.get (base + j) = none := by
        intro j o' h1 h2 h3 h4 h5
        obtain ⟨_, g2⟩ := addAll_get _ (X i).S hmine.1 (base + j)
        rw [g2 (fun e he heb => ?_)]
        · exact hTi.apart j o' h1 h2 h3 h4
        · obtain ⟨_, a2, _, _, a5⟩ := hmine.2 e he
          have : e.1 = j := by omega
          rw [this, h5] at a5
          cases a5
      have hafter : ∀ j o', j < n → D j → NO base d X v j o' → Un d X i j → bit (d i).pre j = false → (X (i + 1)).S.heap.get (base + j) = none := by
        intro j o' h1 h2 h3 h4 h5
        have hT := (hTi.get (base + j) o').2 (.inr ⟨j, h1, h2, h3, h4, rfl⟩)
        obtain ⟨B, E, O, e1, e2, _⟩ := hrel.obj _ _ hT
        cases hq : (X (i + 1)).S.heap.get (base + j) with
        | none => rfl
        | some o2 =>
          have e1' := hold j h1
          rw [e1] at e1'
          obtain ⟨b0, D0, ⟨o0, ho0⟩, e0⟩ := hstp.dom (base + j) B E ⟨o2, hq⟩ e1' (Array.getElem?_eq_some_iff.1 e2).1
          have := hrel.inj b0 (base + j) B D0 E ⟨o0, hsub.get _ _ ho0⟩ ⟨o', hT⟩ (.inr ⟨o', hT, by obtain ⟨_, _, _, _, _, _, hw⟩ := h3; exact hw⟩) e0 e1
          subst this
          rw [beside j o' h1 h2 h3 h4 h5] at ho0
          cases ho0
      -- the state with what waits still
      obtain ⟨T', t1, t2, t3, t4⟩ := exists_state (X (i + 1)).S base (fun j => D j ∧ (∃ o', NO base d X v j o') ∧ Un d X i j ∧ bit (d i).pre j = false) (fun j => T.heap.get (base + j)) n (by have := t.small; omega) (fun j hj hp => by
        obtain ⟨p1, ⟨o', p2⟩, p3, p4⟩ := hp
        rw [(hTi.get (base + j) o').2 (.inr ⟨j, hj, p1, p2, p3, rfl⟩)]
        rfl)
      have hTget : ∀ b o', T'.heap.get b = some o' ↔ (X (i + 1)).S.heap.get b = some o' ∨ ∃ j, j < n ∧ D j ∧ NO base d X v j o' ∧ Un d X i j ∧ bit (d i).pre j = false ∧ b = base + j := by
        intro b o'
        by_cases hb : ∃ j, j < n ∧ (D j ∧ (∃ o', NO base d X v j o') ∧ Un d X i j ∧ bit (d i).pre j = false) ∧ b = base + j
        · obtain ⟨j, h1, ⟨p1, ⟨o2, p2⟩, p3, p4⟩, rfl⟩ := hb
          rw [t3 j h1 ⟨p1, ⟨o2, p2⟩, p3, p4⟩, (hTi.get (base + j) o2).2 (.inr ⟨j, h1, p1, p2, p3, rfl⟩), hafter j o2 h1 p1 p2 p3 p4]
          constructor
          · intro e
            cases e
            exact .inr ⟨j, h1, p1, p2, p3, p4, rfl⟩
          · rintro (e | ⟨j', q1, q2, q3, q4, q5, q6⟩)
            · cases e
            · have : j' = j := by omega
              subst this
              rw [NO.inj q3 p2]
        · rw [t4 b (fun j hj hp e => hb ⟨j, hj, hp, e⟩)]
          constructor
          · exact fun e => .inl e
          · rintro (e | ⟨j', q1, q2, q3, q4, q5, q6⟩)
            · exact e
            · exact (hb ⟨j', q1, ⟨q2, ⟨o', q3⟩, q4, q5⟩, q6⟩).elim
      have hframe : StpB T.next ρ T w ρ' T' w' := by
        have := StpB.frame (T' := T') hrel hsub hstp (fun b o' hb => by
          rcases (hTget b o').1 hb with e | ⟨j, q1, q2, q3, q4, q5, q6⟩
          · exact .inl e
          · subst q6
            exact .inr ⟨(hTi.get _ o').2 (.inr ⟨j, q1, q2, q3, q4, rfl⟩), beside j o' q1 q2 q3 q4 q5⟩) t1 t2
        rwa [hAn] at this
      have hunS : ∀ j, j < n → (Un d X (i + 1) j ↔ (Un d X i j ∧ bit (d i).pre j = false)) := by
        intro j hj
        constructor
        · intro u
          exact ⟨fun c h1 => u c (Nat.lt_succ_of_lt h1), u i (Nat.lt_succ_self i) hic hwan⟩
        · rintro ⟨u, hb⟩ c h1 h2 h3
          rcases Nat.lt_or_ge c i with h | h
          · exact u c h h2 h3
          · have : c = i := by omega
            subst this
            exact hb
      have hnoI : ∀ o', ¬ NO base d X v i o' := fun o' h => by
        obtain ⟨g, _, g1, _⟩ := h
        rw [hc] at g1
        cases g1
      refine fin' ρ' (i + 1) T' w' V a1 ha1 hd1 (by omega) (fun c h1 h2 => by rw [posC hic c h1 h2]; omega) ⟨t1, t2, fun b o' => ?_, fun j o' h5 h6 h7 h8 => ?_⟩ (inv.stp.comp hframe (by omega)) hstp.ext hV (fun j hj h => by rw [hold j hj]; exact freeS j hj h)
      · rw [hTget b o']
        constructor
        · rintro (e | ⟨j, q1, q2, q3, q4, q5, q6⟩)
          · exact .inl e
          · exact .inr ⟨j, q1, .inl q2, q3, (hunS j q1).2 ⟨q4, q5⟩, q6⟩
        · rintro (e | ⟨j, q1, q2, q3, q4, q5⟩)
          · exact .inl e
          · rcases q2 with q2 | rfl
            · have := (hunS j q1).1 q4
              exact .inr ⟨j, q1, q2, q3, this.1, this.2, q5⟩
            · exact (hnoI o' q3).elim
      · rcases h6 with h6 | rfl
        · have := (hunS j h5).1 h8
          exact hafter j o' h5 h6 h7 this.1 this.2
        · exact (hnoI o' h7).elim

end
end Go.Ev

namespace Go.Ev

theorem countP_lt {p p' : Nat → Bool} : ∀ (l : List Nat), (∀ x ∈ l, p' x = true → p x = true) → (∃ x ∈ l, p x = true ∧ p' x = false) → l.countP p' < l.countP p
  | [], _, ⟨x, hx, _⟩ => (List.not_mem_nil hx).elim
  | y :: l, h, ⟨x, hx, h1, h2⟩ => by
    have le : l.countP p' ≤ l.countP p := List.countP_mono_left (fun z hz => h z (by simp [hz]))
    rw [List.countP_cons, List.countP_cons]
    rcases List.mem_cons.1 hx with rfl | hx
    · rw [h1, h2]
      simp
      omega
    · have ih := countP_lt l (fun z hz => h z (by simp [hz])) ⟨x, hx, h1, h2⟩
      have := h y (by simp)
      cases hp' : p' y with
      | false => simp; omega
      | true => rw [this hp']; simp; omega

section
variable {P : Program}

theorem inv_end {base n nt : Nat} {call : Call} {all : List Oper} {d : Nat → DOp} {X : Nat → DSt} {v : Nat → CV} (R : Ready P nt all d) (t : Trace base call n d X v) (hn : n = all.length) {ρ0 : Ren} {S : St} {w0 : World} (hg0 : Glob P ρ0)
    (hb : base = S.next) {dfs : List Deferred} {D : Nat → Prop} {a : Act} {w : World} {ρ : Ren} {m : Nat} {T : St} {tm : Tm} (inv : Inv P base n nt all d X v ρ0 ⟨S.heap, base + n, S.nk⟩ w0 dfs D a w ρ m T tm) (hD : ∀ i, i < n → D i) :
    Stp ρ0 S w0 ρ (addAll (X n).pend (X n).S) w ∧ At P nt ρ (X n).tm (addAll (X n).pend (X n).S) a w := by
  subst hb
  obtain ⟨hp1, hp2⟩ := t.pend n (Nat.le_refl _)
  have hT : IsT S.next n d X v D n T := inv.isT.move t inv.le (Nat.le_refl _) (fun c h1 h2 => by
    cases hcc : isChain (d c).c with
    | false => exact .inl rfl
    | true =>
      have := (inv.pos c h2 hcc).1 (hD c h2)
      omega) (fun c h1 h2 => by have := inv.le; omega)
  have heq : StEq T (addAll (X n).pend (X n).S) := by
    obtain ⟨g1, g2⟩ := addAll_nn (X n).pend (X n).S
    refine ⟨fun b => ?_, by rw [g1, hT.next], by rw [g2, hT.nk]⟩
    obtain ⟨q1, q2⟩ := addAll_get (X n).pend (X n).S hp1 b
    by_cases he : ∃ e ∈ (X n).pend, e.2.1 = b
    · obtain ⟨e, he, heb⟩ := he
      rw [q1 e he heb]
      obtain ⟨a1, a2, a3, a4⟩ := (hp2 e).1 he
      exact (hT.get b _).2 (.inr ⟨e.1, a1, hD _ a1, a3, a4, by omega⟩)
    · rw [q2 (fun e he' heb => he ⟨e, he', heb⟩)]
      cases hq : (X n).S.heap.get b with
      | some o => exact (hT.get b o).2 (.inl hq)
      | none =>
        cases hq2 : T.heap.get b with
        | none => rfl
        | some o =>
          rcases (hT.get b o).1 hq2 with h | ⟨j, a1, a2, a3, a4, a5⟩
          · rw [hq] at h; cases h
          · exact (he ⟨(j, S.next + j, o), (hp2 _).2 ⟨a1, rfl, a3, a4⟩, a5.symm⟩).elim
  have hst := inv.stp.right heq
  refine ⟨⟨hst.ext, hst.rel, ?_, hst.nk, hst.keep, hst.size, hst.dom, hst.os, hst.tape, hst.output, hst.old, hst.domW⟩, hst.rel, ⟨inv.fr.size, fun x u hx hu => ?_⟩, hg0.mono hst.ext⟩
  · have := hst.next
    simp only at this
    omega
  · rw [trace_tm R t hn n (Nat.le_refl _) x hx] at hu
    refine inv.fr.val x u hx ?_
    rw [inv.name x hx, ← hu]
    exact val_congr n (fun j hj _ => ⟨fun _ => trivial, fun _ => hD j hj⟩)

theorem mk_ok (P : Program) {call : Call} (hcall : CallOK P call) {nt : Nat} {ops : Array Oper} {dops : List DOp} (hd : drawWith P nt ops.toList (predsL [] ops.toList) (chainsOf P 0 ops.toList) = some dops) {K : Act → World → Prop} {Q : Exit → Act → World → Prop} {r : Res} {k : Tm → St → Res} {ρ : Ren} {tm : Tm} {S : St} {a : Act} {w : World}
    (hat : At P nt ρ tm S a w) (hrun : mkRun ops.toList.length dops call tm S k = r) (hr : r ≠ .fail)
    (hK : ∀ ρ' tm' S' a' w', Stp ρ S w ρ' S' w' → At P nt ρ' tm' S' a' w' → IdleExt P a.defers a'.defers → k tm' S' = r → K a' w') :
    wpAny P .any ops (Exit.then K Q) ops.size (Array.replicate ops.size false) a w := by
  obtain ⟨h, next, nk⟩ := S
  unfold mkRun at hrun
  generalize hn : ops.toList.length = n at hrun
  replace hn := hn.symm
  simp only at hrun
  · cases hlt : Nat.blt (next + n) lim with
    | false => rw [hlt] at hrun; exact absurd hrun.symm hr
    | true =>
      rw [hlt, cond_true] at hrun
      have hlt := blt_of hlt
      obtain ⟨d, hlen, hds, R⟩ := drawOf_ready hd
      split at hrun
      · rename_i xf hxf
        obtain ⟨X, v, x0, xn, hstep⟩ := dOps_trace next call dops _ xf hxf
        have hops : n = ops.size := by rw [hn, Array.length_toList]
        have t : Trace next call n d X v := by
          refine ⟨fun i hi => ?_, fun i hi => R.idx i (by omega), by rw [x0], by unfold lim at hlt; simp [big]; omega, fun c hc => R.low c (by omega), fun i hi ⟨c, c1, c2⟩ => R.keep i (by omega) ⟨c, by omega, c2⟩⟩
          have hd' : dops[i]? = some dops[i] := List.getElem?_eq_getElem (by omega)
          rw [← hds i _ hd']
          exact hstep i _ hd'
        have hrel0 : Rel ρ ⟨h, next + n, nk⟩ w := ⟨hat.rel.obj, hat.rel.inj, fun b hb => hat.rel.fresh b (by simp only at hb ⊢; omega), hat.rel.freshk⟩
        -- the induction
        have key : ∀ (fuel : Nat) (listed : Array Bool) (a' : Act) (w' : World), listed.size = n → (List.range n).countP (fun i => !listed.getD i true) ≤ fuel →
            (∃ ρ' m T tm', Inv P next n nt ops.toList d X v ρ ⟨h, next + n, nk⟩ w a.defers (fun i => listed.getD i false = true) a' w' ρ' m T tm') →
            wpAny P .any ops (Exit.then K Q) fuel listed a' w' := by
          intro fuel
          -- nothing is ready: all is done
          have over : ∀ (listed : Array Bool) (a' : Act) (w' : World), listed.size = n → Region.ready .any ops listed = [] →
              (∃ ρ' m T tm', Inv P next n nt ops.toList d X v ρ ⟨h, next + n, nk⟩ w a.defers (fun i => listed.getD i false = true) a' w' ρ' m T tm') → K a' w' := by
            intro listed a' w' hsz hready ⟨ρ', m, T, tm', inv⟩
            have hall : ∀ i, i < n → listed.getD i false = true := by
              intro i
              induction i using Nat.strongRecOn with
              | _ i ih =>
                intro hi
                cases hq : listed.getD i false with
                | true => rfl
                | false =>
                  exfalso
                  have ho : ops.toList[i]? = some (ops.toList[i]'(by rw [← hn]; exact hi)) := List.getElem?_eq_getElem _
                  have ho' : ops[i]? = some (ops.toList[i]'(by rw [← hn]; exact hi)) := by simpa using ho
                  have hmem : i ∈ Region.ready .any ops listed := by
                    unfold Region.ready
                    rw [List.mem_filter]
                    refine ⟨List.mem_range.2 (by omega), ?_⟩
                    have hg : listed.getD i true = false := by
                      simp only [Array.getD_eq_getD_getElem?] at hq ⊢
                      rw [Array.getElem?_eq_getElem (by omega)] at hq ⊢
                      exact hq
                    rw [hg, ho']
                    simp only [Bool.not_false, Bool.true_and, Option.map_some, Option.getD_some]
                    rw [Array.all_eq_true']
                    intro e he
                    cases hb : Region.binds .any e with
                    | false => rfl
                    | true =>
                      have he' : e ∈ (ops.toList[i]'(by rw [← hn]; exact hi)).after.toList := by simpa using he
                      have := R.on i _ ho e he' hb
                      simp only [Bool.not_true, Bool.false_or]
                      exact ih e.on this (by omega)
                  rw [hready] at hmem
                  cases hmem
            obtain ⟨h1, h2⟩ := inv_end (S := ⟨h, next, nk⟩) R t hn hat.glob rfl inv hall
            have hxf' : X n = xf := by rw [← xn, hlen, hn]
            rw [hxf'] at h1 h2
            exact hK ρ' xf.tm _ a' w' h1 h2 inv.dfs hrun
          induction fuel with
          | zero =>
            intro listed a' w' hsz hc hinv
            have hready : Region.ready .any ops listed = [] := by
              unfold Region.ready
              rw [List.filter_eq_nil_iff]
              intro i hi
              have hi' := List.mem_range.1 hi
              have h0 : (List.range n).countP (fun i => !listed.getD i true) = 0 := by omega
              rw [List.countP_eq_zero] at h0
              have := h0 i (List.mem_range.2 (by omega))
              simp only [Bool.not_eq_true] at this ⊢
              rw [this]
              rfl
            exact ⟨hready, over listed a' w' hsz hready hinv⟩
          | succ fuel ih =>
            intro listed a' w' hsz hc hinv
            refine ⟨fun hready => over listed a' w' hsz hready hinv, fun i hi => ?_⟩
            obtain ⟨ρ', m, T, tm', inv⟩ := hinv
            unfold Region.ready at hi
            rw [List.mem_filter] at hi
            obtain ⟨hi1, hi2⟩ := hi
            have hin : i < n := by have := List.mem_range.1 hi1; omega
            have ho : ops.toList[i]? = some (ops.toList[i]'(by rw [← hn]; exact hin)) := List.getElem?_eq_getElem _
            have ho' : ops[i]? = some (ops.toList[i]'(by rw [← hn]; exact hin)) := by simpa using ho
            simp only [Bool.and_eq_true, Bool.not_eq_true'] at hi2
            obtain ⟨hi2, hi3⟩ := hi2
            rw [ho'] at hi3
            simp only [Option.map_some, Option.getD_some] at hi3
            rw [Array.all_eq_true'] at hi3
            have hnot : ¬ (listed.getD i false = true) := by
              intro hq
              simp only [Array.getD_eq_getD_getElem?] at hq hi2
              rw [Array.getElem?_eq_getElem (by omega)] at hq hi2
              simp only [Option.getD_some] at hq hi2
              rw [hq] at hi2
              cases hi2
            refine inv_step R t hn hcall rfl hat.glob (Nat.le_refl _) hlt inv hin hnot (fun j hj => ?_) (fun a2 w2 ρ2 m2 T2 tm2 inv2 => ?_)
            · obtain ⟨e, e1, e2, e3, e4⟩ := R.edge i _ ho j hj
              have := hi3 e (by simp at e1; exact e1)
              rw [e2] at this
              simp only [Bool.not_true, Bool.false_or] at this
              rcases e4 with e4 | e4
              · rw [← e4]; exact this
              · exact inv.closed e.on this j e4
            · have hget : ∀ j b, (listed.setIfInBounds i true).getD j b = if j = i then true else listed.getD j b := by
                intro j b
                simp only [Array.getD_eq_getD_getElem?, Array.getElem?_setIfInBounds]
                by_cases hji : i = j
                · subst hji
                  rw [if_pos rfl, if_pos (by omega), if_pos rfl]
                  rfl
                · rw [if_neg hji, if_neg (fun e => hji e.symm)]
              refine ih _ a2 w2 (by simpa using hsz) ?_ ⟨ρ2, m2, T2, tm2, ?_⟩
              · have := countP_lt (p := fun i => !listed.getD i true) (p' := fun j => !(listed.setIfInBounds i true).getD j true) (List.range n) (fun x _ hx => ?_) ⟨i, List.mem_range.2 hin, by rw [hi2]; rfl, by rw [hget, if_pos rfl]; rfl⟩
                · omega
                · rw [hget] at hx
                  split at hx
                  · cases hx
                  · exact hx
              · have : (fun j => (listed.setIfInBounds i true).getD j false = true) = (fun j => listed.getD j false = true ∨ j = i) := by
                  funext j
                  rw [hget]
                  by_cases hji : j = i
                  · simp [hji]
                  · simp [hji]
                rw [this]
                exact inv2
        refine key ops.size (Array.replicate ops.size false) a w (by simp [hops]) (by rw [← hops]; exact Nat.le_trans List.countP_le_length (by simp)) ⟨ρ, 0, ⟨h, next + n, nk⟩, tm, ?_⟩
        have hnone : ∀ i, ¬ ((Array.replicate ops.size false).getD i false = true) := by
          intro i
          simp only [Array.getD_eq_getD_getElem?, Array.getElem?_replicate]
          split <;> simp
        refine ⟨fun i hi => (hnone i hi).elim, fun i hi => (hnone i hi).elim, Nat.zero_le _, fun c _ _ => ⟨fun hc => (hnone c hc).elim, fun hc => by omega⟩, ⟨by rw [x0], by rw [x0], fun b o => ?_, fun j o _ hj => (hnone j hj).elim⟩,
          ?_, hat.fr, fun x hx => ?_, fun j hj _ => hat.rel.fresh _ (by simp), .refl _⟩
        · rw [x0]
          constructor
          · exact fun h => .inl h
          · rintro (h | ⟨j, _, hj, _⟩)
            · exact h
            · exact (hnone j hj).elim
        · exact ⟨.refl ρ, hrel0, Nat.le_refl _, Nat.le_refl _, fun _ _ _ => rfl, Nat.le_refl _, fun b _ D hb e _ => ⟨b, D, hb, e⟩, rfl, rfl, rfl, fun _ _ => rfl, fun b _ D hb e _ => ⟨b, D, hb, e⟩⟩
        · rw [val_skip (i := 0) n (Nat.zero_le _) (fun j _ _ _ hj => hnone j hj), x0]
          rfl
      · exact absurd hrun.symm hr

end
end Go.Ev
