/-
  A run in stages: a call that was reckoned apart, over the part of the state that it looks at. A call that looks at nothing but what nobody writes: it may be made in any state. What a listed variable holds, as rows of the evaluator's. The state with which a call begins: a listed variable, read only. A function that tosses for the order of two stores: both orders are reckoned; what they leave in common stands.
-/
import Derived.Test.YtjhmlmiegkjncaaGreatDoorEvU
import Derived.Test.YtjhmlmiegkjncaaGreatDoorEvD
import GoSem.ClaimJoined
import Derived.Test.YtjhmlmiegkjncaaGreatDoorEvQ
set_option linter.all false

namespace Go.Ev

/-- An object, told as a list. -/
inductive LObj where
  | row (cells : List CV) (wr : Bool) (id sz ty : Nat)
  | map (es : List (CV × CV × Nat)) (clock : Nat)
  | mapU (es : List (CV × CV × Nat))

noncomputable section

def LObj.obj : LObj → CObj
  | .row cs wr id sz ty => .row (lay .leaf 0 cs) 0 cs.length wr id sz ty
  | .map es c => .map es c
  | .mapU es => .mapU es

def sameCells (t : Tr CV) (i : Nat) : List CV → Bool
  | [] => true
  | v :: l => (match t.get i with | some u => cvEq 8 u v | none => false) && sameCells t (i + 1) l

def sameEs : List (CV × CV × Nat) → List (CV × CV × Nat) → Bool
  | [], [] => true
  | (k, v, n) :: l, (k', v', n') :: l' => cvEq 8 k k' && cvEq 8 v v' && Nat.beq n n' && sameEs l l'
  | _, _ => false

def sameObj (o : CObj) (l : LObj) : Bool :=
  match o, l with
  | .row cells sh hi wr id sz ty, .row cs wr' id' sz' ty' =>
    Nat.beq hi cs.length && Nat.blt cs.length lim && (wr == wr') && Nat.beq id id' && Nat.beq sz sz' && Nat.beq ty ty' && sameCells cells sh cs
  | .map es c, .map es' c' => Nat.beq c c' && sameEs es es'
  | .mapU es, .mapU es' => sameEs es es'
  | _, _ => false

def allSame' (h : Tr CObj) : List (Nat × LObj) → Bool
  | [] => true
  | (b, l) :: r => (match h.get b with | some o => sameObj o l | none => false) && Nat.blt b lim && allSame' h r

/-- Go on with a trie that is reckoned, at its root and its root's children. -/
def forcedO (t : Tr CObj) (k : Tr CObj → Tr CObj) : Tr CObj :=
  Tr.rec (motive := fun _ => Tr CObj) (k .leaf) (fun v l r _ _ => k (.node v l r)) t

def putAll (h : Tr CObj) : List (Nat × LObj) → Tr CObj
  | [] => h
  | (b, l) :: r => forcedO (h.set big b (some l.obj)) fun h => putAll h r

def dropObjs (h : Tr CObj) : List (Nat × LObj) → Tr CObj
  | [] => h
  | (b, _) :: r => forcedO (h.set big b none) fun h => dropObjs h r

def stOf (pre : List (Nat × LObj)) (nx nk : Nat) : St := ⟨putAll .leaf pre, nx, nk⟩

/-- A call: with what, in what state; what comes of it. -/
structure Stage where
  f : FuncId
  args : List CV
  nx : Nat
  nk : Nat
  pre : List (Nat × LObj)
  v : CV
  nx' : Nat
  nk' : Nat
  post : List (Nat × LObj)

def Stage.ok (st : Stage) (r : CRes) : Bool :=
  match r with
  | .ok v S => cvEq 8 v st.v && Nat.beq S.next st.nx' && Nat.beq S.nk st.nk' && allSame' S.heap st.post
  | .fail => false

def stagePrim (st : Stage) (args : List CV) (S : St) : CRes :=
  bif cvEqL (cvEq 8) args st.args && Nat.beq S.next st.nx && Nat.beq S.nk st.nk && allSame' S.heap st.pre then .ok st.v ⟨putAll (dropObjs S.heap st.pre) st.post, st.nx', st.nk'⟩ else .fail

def stagesPrim : List Stage → List CV → St → CRes
  | [], _, _ => .fail
  | st :: l, args, S => bif Nat.beq S.next st.nx then stagePrim st args S else stagesPrim l args S

end

theorem forcedO_eq (t : Tr CObj) (k : Tr CObj → Tr CObj) : forcedO t k = k t := by cases t <;> rfl

theorem sameCells_spec {t : Tr CV} : ∀ (l : List CV) (i : Nat), sameCells t i l = true → ∀ (j : Nat) (v : CV), l[j]? = some v → t.get (i + j) = some v
  | [], _, _, j, v, h => by simp at h
  | u :: l, i, hs, j, v, h => by
    simp only [sameCells, Bool.and_eq_true] at hs
    obtain ⟨h1, h2⟩ := hs
    cases j with
    | zero =>
      simp only [List.getElem?_cons_zero, Option.some.injEq] at h
      subst h
      cases hg : t.get i with
      | none => rw [hg] at h1; cases h1
      | some x =>
        rw [hg] at h1
        simp only at h1
        rw [cvEq_eq _ _ _ h1]
    | succ j =>
      have := sameCells_spec l (i + 1) h2 j v (by simpa using h)
      rwa [show i + 1 + j = i + (j + 1) by omega] at this

theorem sameEs_eq : ∀ (l l' : List (CV × CV × Nat)), sameEs l l' = true → l = l'
  | [], [], _ => rfl
  | [], _ :: _, h => by cases h
  | _ :: _, [], h => by cases h
  | (k, v, n) :: l, (k', v', n') :: l', h => by
    simp only [sameEs, Bool.and_eq_true] at h
    obtain ⟨⟨⟨h1, h2⟩, h3⟩, h4⟩ := h
    rw [cvEq_eq _ _ _ h1, cvEq_eq _ _ _ h2, beq_of h3, sameEs_eq l l' h4]

theorem sameObj_rel {ρ : Ren} {D : Nat} {o : CObj} {l : LObj} {O : Obj} (hs : sameObj o l = true) (h : ObjRel ρ D o O) : ObjRel ρ D l.obj O := by
  cases o with
  | row cells sh hi wr id sz ty =>
    cases l with
    | row cs wr' id' sz' ty' =>
      simp only [sameObj, Bool.and_eq_true, beq_iff_eq] at hs
      obtain ⟨⟨⟨⟨⟨⟨h1, h2⟩, h3⟩, h4⟩, h5⟩, h6⟩, h7⟩ := hs
      obtain rfl := beq_of h1
      obtain rfl := beq_of h4
      obtain rfl := beq_of h5
      obtain rfl := beq_of h6
      subst h3
      have h2 := blt_of h2
      cases O with
      | cells c u fz =>
        obtain ⟨a1, a2, a3⟩ := h
        refine ⟨fun i hi => ?_, a2, a3⟩
        obtain ⟨v, V, e1, e2, e3, e4⟩ := a1 i hi
        have hc : cs[i]? = some cs[i] := List.getElem?_eq_getElem hi
        have := sameCells_spec cs sh h7 i _ hc
        rw [show sh + i = i + sh by omega, e1] at this
        cases this
        refine ⟨cs[i], V, ?_, e2, e3, e4⟩
        have hg := lay_get cs .leaf 0 i (by unfold lim at h2; omega)
        rw [if_pos ⟨Nat.zero_le _, by omega⟩, Nat.sub_zero, hc] at hg
        rw [Nat.add_zero]
        exact hg
      | _ => exact h.elim
    | _ => simp [sameObj] at hs
  | map es c =>
    cases l with
    | map es' c' =>
      simp only [sameObj, Bool.and_eq_true] at hs
      obtain rfl := beq_of hs.1
      obtain rfl := sameEs_eq _ _ hs.2
      exact h
    | _ => simp [sameObj] at hs
  | siter s p => cases l <;> simp [sameObj] at hs
  | miter _ _ _ _ => cases l <;> simp [sameObj] at hs
  | mapQ _ => cases l <;> simp [sameObj] at hs
  | mapU es =>
    cases l with
    | mapU es' =>
      simp only [sameObj] at hs
      obtain rfl := sameEs_eq _ _ hs
      exact h
    | _ => simp [sameObj] at hs

theorem sameObj_wr {o : CObj} {l : LObj} (hs : sameObj o l = true) : o.wr = l.obj.wr := by
  cases o with
  | row cells sh hi wr id sz ty =>
    cases l with
    | row cs wr' id' sz' ty' =>
      simp only [sameObj, Bool.and_eq_true, beq_iff_eq] at hs
      exact hs.1.1.1.1.2
    | _ => simp [sameObj] at hs
  | map es c => cases l <;> first | rfl | simp [sameObj] at hs
  | siter s p => cases l <;> simp [sameObj] at hs
  | miter _ _ _ _ => cases l <;> simp [sameObj] at hs
  | mapQ _ => cases l <;> simp [sameObj] at hs
  | mapU es => cases l <;> first | rfl | simp [sameObj] at hs

theorem allSame_spec {h : Tr CObj} : ∀ (r : List (Nat × LObj)), allSame' h r = true → ∀ b l, (b, l) ∈ r → b < lim ∧ ∃ o, h.get b = some o ∧ sameObj o l = true
  | [], _, b, l, hm => by cases hm
  | (b', l') :: r, ha, b, l, hm => by
    simp only [allSame', Bool.and_eq_true] at ha
    obtain ⟨⟨h1, h2⟩, h3⟩ := ha
    rcases List.mem_cons.1 hm with e | hm
    · cases e
      cases hg : h.get b' with
      | none => rw [hg] at h1; cases h1
      | some o => rw [hg] at h1; exact ⟨blt_of h2, o, rfl, h1⟩
    · exact allSame_spec r h3 b l hm

theorem big_of {b : Nat} (h : b < lim) : b + 1 < 2 ^ big := by unfold lim at h; simp [big]; omega

theorem putAll_get : ∀ (r : List (Nat × LObj)) (h : Tr CObj), (∀ b l, (b, l) ∈ r → b < lim) → ∀ (b : Nat) (o : CObj), (putAll h r).get b = some o → (∃ l, (b, l) ∈ r ∧ o = l.obj) ∨ ((∀ l, (b, l) ∉ r) ∧ h.get b = some o)
  | [], h, _, b, o, hg => .inr ⟨fun l hl => (List.not_mem_nil hl).elim, hg⟩
  | (b', l') :: r, h, hb, b, o, hg => by
    simp only [putAll, forcedO_eq] at hg
    rcases putAll_get r _ (fun b l hl => hb b l (List.mem_cons_of_mem _ hl)) b o hg with ⟨l, h1, h2⟩ | ⟨h1, h2⟩
    · exact .inl ⟨l, List.mem_cons_of_mem _ h1, h2⟩
    · by_cases e : b' = b
      · subst e
        rw [Tr.get_set_eq _ _ _ _ (big_of (hb b' l' List.mem_cons_self))] at h2
        exact .inl ⟨l', List.mem_cons_self, (Option.some.inj h2).symm⟩
      · rw [Tr.get_set_ne _ _ _ _ _ e] at h2
        refine .inr ⟨fun l hl => ?_, h2⟩
        rcases List.mem_cons.1 hl with e2 | hl
        · cases e2; exact e rfl
        · exact h1 l hl

theorem dropObjs_get : ∀ (r : List (Nat × LObj)) (h : Tr CObj), (∀ b l, (b, l) ∈ r → b < lim) → ∀ (b : Nat) (o : CObj), (dropObjs h r).get b = some o → (∀ l, (b, l) ∉ r) ∧ h.get b = some o
  | [], h, _, b, o, hg => ⟨fun l hl => (List.not_mem_nil hl).elim, hg⟩
  | (b', l') :: r, h, hb, b, o, hg => by
    simp only [dropObjs, forcedO_eq] at hg
    obtain ⟨h1, h2⟩ := dropObjs_get r _ (fun b l hl => hb b l (List.mem_cons_of_mem _ hl)) b o hg
    by_cases e : b' = b
    · subst e
      rw [Tr.get_set_eq _ _ _ _ (big_of (hb b' l' List.mem_cons_self))] at h2
      cases h2
    · rw [Tr.get_set_ne _ _ _ _ _ e] at h2
      refine ⟨fun l hl => ?_, h2⟩
      rcases List.mem_cons.1 hl with e2 | hl
      · cases e2; exact e rfl
      · exact h1 l hl

section
variable {P : Program}

/-- A step over a part of the state is one of the whole. -/
theorem Stp.merge {ρ ρ' : Ren} {S U U' S2 : St} {w w' : World} (h : Rel ρ S w) (hU : ∀ b, U.has b → S.has b) (hUW : ∀ b, U.hasW b → S.hasW b) (hn : U.next = S.next) (hk : U.nk = S.nk) (hs : Stp ρ U w ρ' U' w') (hn' : S2.next = U'.next) (hk' : S2.nk = U'.nk)
    (h2 : ∀ b o, S2.heap.get b = some o → (∃ o', U'.heap.get b = some o' ∧ o'.wr = o.wr ∧ ∀ D O, ObjRel ρ' D o' O → ObjRel ρ' D o O) ∨ (¬ U.has b ∧ S.heap.get b = some o)) : Stp ρ S w ρ' S2 w' := by
  -- a block that the part does not name stands
  have stands : ∀ b o, ¬ U.has b → S.heap.get b = some o → ∃ B D O, ρ.b b = some (B, D) ∧ ρ'.b b = some (B, D) ∧ B < w.heap.size ∧ w'.heap[B]? = some O ∧ ObjRel ρ' D o O := by
    intro b o hub e
    obtain ⟨B, D, O, e1, e2, e3⟩ := h.obj b o e
    have hlt : B < w.heap.size := (Array.getElem?_eq_some_iff.1 e2).1
    refine ⟨B, D, O, e1, hs.ext.b _ _ e1, hlt, ?_, e3.mono hs.ext⟩
    rw [hs.keep B hlt (fun b2 D2 hb2 e' => ?_)]
    · exact e2
    · have := h.inj b b2 B D D2 ⟨o, e⟩ (hU b2 hb2.has) (.inr (hUW b2 hb2)) e1 e'
      subst this
      exact hub hb2.has
  -- a block of the part and one that it does not name are two
  have two : ∀ b1 b2 o (B D1 D2 : Nat), U'.has b1 → U'.hasW b1 ∨ o.wr = true → ρ'.b b1 = some (B, D1) → ¬ U.has b2 → S.heap.get b2 = some o → ρ'.b b2 = some (B, D2) → False := by
    intro b1 b2 o B D1 D2 h1 hw e1 hub e e2
    obtain ⟨B', D', O, f1, f2, f3, _⟩ := stands b2 o hub e
    rw [e2] at f2
    cases f2
    obtain ⟨b0, D0, g1, g2, hw0⟩ : ∃ b0 D0, U.has b0 ∧ ρ.b b0 = some (B, D0) ∧ (S.hasW b0 ∨ S.hasW b2) := by
      rcases hw with hw | hw
      · obtain ⟨b0, D0, g1, g2⟩ := hs.domW b1 B D1 hw e1 f3
        exact ⟨b0, D0, g1.has, g2, .inl (hUW b0 g1)⟩
      · obtain ⟨b0, D0, g1, g2⟩ := hs.dom b1 B D1 h1 e1 f3
        exact ⟨b0, D0, g1, g2, .inr ⟨o, e, hw⟩⟩
    have := h.inj b0 b2 B D0 D2 (hU b0 g1) ⟨o, e⟩ hw0 g2 f1
    subst this
    exact hub g1
  refine ⟨hs.ext, ⟨fun b o hb => ?_, fun b1 b2 B D1 D2 hb1 hb2 hw e1 e2 => ?_, fun b hb => hs.rel.fresh b (by rw [← hn']; exact hb), fun i hi => hs.rel.freshk i (by rw [← hk']; exact hi)⟩,
    by rw [hn', ← hn]; exact hs.next, by rw [hk', ← hk]; exact hs.nk, fun x hx hno => hs.keep x hx (fun b D hb => hno b D (hUW b hb)), hs.size, fun b B D hb e hB => ?_, hs.os, hs.tape, hs.output, fun b hb => hs.old b (by rw [hn]; exact hb), fun b B D hb e hB => ?_⟩
  · rcases h2 b o hb with ⟨o', h3, _, h4⟩ | ⟨h3, h4⟩
    · obtain ⟨B, D, O, e1, e2, e3⟩ := hs.rel.obj b o' h3
      exact ⟨B, D, O, e1, e2, h4 D O e3⟩
    · obtain ⟨B, D, O, _, e2, _, e4, e5⟩ := stands b o h3 h4
      exact ⟨B, D, O, e2, e4, e5⟩
  · obtain ⟨o1, hb1⟩ := hb1
    obtain ⟨o2, hb2⟩ := hb2
    have hw : o1.wr = true ∨ o2.wr = true := by
      rcases hw with ⟨o, g, g'⟩ | ⟨o, g, g'⟩
      · rw [hb1] at g; cases g; exact .inl g'
      · rw [hb2] at g; cases g; exact .inr g'
    rcases h2 b1 o1 hb1 with ⟨p1, a1, w1, _⟩ | ⟨a1, a2⟩
    · rcases h2 b2 o2 hb2 with ⟨p2, c1, w2, _⟩ | ⟨c1, c2⟩
      · exact hs.rel.inj b1 b2 B D1 D2 ⟨p1, a1⟩ ⟨p2, c1⟩ (hw.imp (fun g => ⟨p1, a1, w1.trans g⟩) (fun g => ⟨p2, c1, w2.trans g⟩)) e1 e2
      · exact (two b1 b2 o2 B D1 D2 ⟨p1, a1⟩ (hw.imp (fun g => ⟨p1, a1, w1.trans g⟩) id) e1 c1 c2 e2).elim
    · rcases h2 b2 o2 hb2 with ⟨p2, c1, w2, _⟩ | ⟨c1, c2⟩
      · exact (two b2 b1 o1 B D2 D1 ⟨p2, c1⟩ (hw.symm.imp (fun g => ⟨p2, c1, w2.trans g⟩) id) e2 a1 a2 e1).elim
      · obtain ⟨B', D', O, f1, f2, _⟩ := stands b1 o1 a1 a2
        rw [e1] at f2
        cases f2
        obtain ⟨B', D', O, g1, g2, _⟩ := stands b2 o2 c1 c2
        rw [e2] at g2
        cases g2
        exact h.inj b1 b2 B D1 D2 ⟨o1, a2⟩ ⟨o2, c2⟩ (hw.imp (fun g => ⟨o1, a2, g⟩) (fun g => ⟨o2, c2, g⟩)) f1 g1
  · obtain ⟨o, hb⟩ := hb
    rcases h2 b o hb with ⟨o', h3, _⟩ | ⟨h3, h4⟩
    · obtain ⟨b0, D0, g1, g2⟩ := hs.dom b B D ⟨o', h3⟩ e hB
      exact ⟨b0, D0, hU b0 g1, g2⟩
    · obtain ⟨B', D', O, f1, f2, _⟩ := stands b o h3 h4
      rw [e] at f2
      cases f2
      exact ⟨b, D, ⟨o, h4⟩, f1⟩
  · obtain ⟨o, hb, hw⟩ := hb
    rcases h2 b o hb with ⟨o', h3, h5, _⟩ | ⟨h3, h4⟩
    · obtain ⟨b0, D0, g1, g2⟩ := hs.domW b B D ⟨o', h3, h5.trans hw⟩ e hB
      exact ⟨b0, D0, hUW b0 g1, g2⟩
    · obtain ⟨B', D', O, f1, f2, _⟩ := stands b o h3 h4
      rw [e] at f2
      cases f2
      exact ⟨b, D, ⟨o, h4, hw⟩, f1⟩

/-- What a prim is to do. -/
def PrimOK (P : Program) (f : FuncId) (p : List CV → St → CRes) : Prop :=
  ∀ (args : List CV) (S : St) (v : CV) (S' : St) (ρ : Ren) (w : World) (L : List Value), p args S = .ok v S' → Rel ρ S w → Glob P ρ → reals ρ args = some L →
    ∀ (o : Oper) (a : Act) (next : Act → World → Prop) (Q : Exit → Act → World → Prop),
      (∀ ρ' w' V, Stp ρ S w ρ' S' w' → real ρ' v = some V → next (a.put o.dst V) w') → o.upon P a next Q ((callFunc f L.toArray).run P w)

theorem stage_ok {call : Call} (hcall : CallOK P call) {st : Stage} (h : st.ok (call st.f st.args (stOf st.pre st.nx st.nk)) = true) : PrimOK P st.f (stagePrim st) := by
  intro args S v S' ρ w L hp hr hg hL o a next Q hK
  unfold stagePrim at hp
  cases hc : (cvEqL (cvEq 8) args st.args && Nat.beq S.next st.nx && Nat.beq S.nk st.nk && allSame' S.heap st.pre) with
  | false => rw [hc] at hp; cases hp
  | true =>
    rw [hc, cond_true] at hp
    cases hp
    simp only [Bool.and_eq_true] at hc
    obtain ⟨⟨⟨h1, h2⟩, h3⟩, h4⟩ := hc
    obtain rfl := cvEqL_eq (cvEq_eq 8) _ _ h1
    have h2 := beq_of h2
    have h3 := beq_of h3
    have hpre := allSame_spec st.pre h4
    cases hcl : call st.f st.args (stOf st.pre st.nx st.nk) with
    | fail => rw [hcl] at h; cases h
    | ok v1 U' =>
      rw [hcl] at h
      simp only [Stage.ok, Bool.and_eq_true] at h
      obtain ⟨⟨⟨k1, k2⟩, k3⟩, k4⟩ := h
      obtain rfl := cvEq_eq _ _ _ k1
      have k2 := beq_of k2
      have k3 := beq_of k3
      have hpost := allSame_spec st.post k4
      -- the part
      have hget : ∀ b o, (stOf st.pre st.nx st.nk).heap.get b = some o → ∃ l, (b, l) ∈ st.pre ∧ o = l.obj := by
        intro b o hb
        rcases putAll_get st.pre .leaf (fun b l hl => (hpre b l hl).1) b o hb with hx | ⟨_, hx⟩
        · exact hx
        · cases hx
      have hU : ∀ b, (stOf st.pre st.nx st.nk).has b → S.has b := by
        rintro b ⟨o, hb⟩
        obtain ⟨l, e1, _⟩ := hget b o hb
        obtain ⟨_, o', e2, _⟩ := hpre b l e1
        exact ⟨o', e2⟩
      have hUW : ∀ b, (stOf st.pre st.nx st.nk).hasW b → S.hasW b := by
        rintro b ⟨o, hb, hw⟩
        obtain ⟨l, e1, rfl⟩ := hget b o hb
        obtain ⟨_, o', e2, e3⟩ := hpre b l e1
        exact ⟨o', e2, (sameObj_wr e3).trans hw⟩
      have hrel : Rel ρ (stOf st.pre st.nx st.nk) w := by
        refine ⟨fun b o hb => ?_, fun b b' B D D' hb hb' hw => hr.inj b b' B D D' (hU b hb) (hU b' hb') (hw.imp (hUW b) (hUW b')), fun b hb => hr.fresh b (by rw [h2]; exact hb), fun i hi => hr.freshk i (by rw [h3]; exact hi)⟩
        obtain ⟨l, e1, rfl⟩ := hget b o hb
        obtain ⟨_, o', e2, e3⟩ := hpre b l e1
        obtain ⟨B, D, O, f1, f2, f3⟩ := hr.obj b o' e2
        exact ⟨B, D, O, f1, f2, sameObj_rel e3 f3⟩
      refine hcall st.f st.args _ st.v U' ρ w L hcl hrel hg hL o a next Q fun ρ' w' V hs hV => ?_
      refine hK ρ' w' V (Stp.merge hr hU hUW h2.symm h3.symm hs k2.symm k3.symm fun b o hb => ?_) hV
      rcases putAll_get st.post _ (fun b l hl => (hpost b l hl).1) b o hb with ⟨l, e1, rfl⟩ | ⟨_, e2⟩
      · obtain ⟨_, o', e3, e4⟩ := hpost b l e1
        exact .inl ⟨o', e3, sameObj_wr e4, fun D O => sameObj_rel e4⟩
      · obtain ⟨e3, e4⟩ := dropObjs_get st.pre _ (fun b l hl => (hpre b l hl).1) b o e2
        refine .inr ⟨?_, e4⟩
        rintro ⟨o2, ho2⟩
        obtain ⟨l, g1, _⟩ := hget b o2 ho2
        exact e3 l g1

theorem stages_ok {f : FuncId} : ∀ (l : List Stage), (∀ st, st ∈ l → st.f = f ∧ PrimOK P st.f (stagePrim st)) → PrimOK P f (stagesPrim l)
  | [], _ => by
    intro args S v S' ρ w L hp
    cases hp
  | st :: l, h => by
    intro args S v S' ρ w L hp hr hg hL o a next Q hK
    simp only [stagesPrim] at hp
    obtain ⟨e, h1⟩ := h st List.mem_cons_self
    subst e
    cases hb : Nat.beq S.next st.nx with
    | true =>
      rw [hb, cond_true] at hp
      exact h1 args S v S' ρ w L hp hr hg hL o a next Q hK
    | false =>
      rw [hb, cond_false] at hp
      exact stages_ok l (fun st hst => h st (List.mem_cons_of_mem _ hst)) args S v S' ρ w L hp hr hg hL o a next Q hK

end
end Go.Ev

namespace Go.Ev

/-- Names below nx and nk alone. -/
noncomputable def within (nx nk : Nat) : CV → Bool
  | .bool _ => true
  | .int _ _ => true
  | .str _ => true
  | .nilp => true
  | .ptr b _ => Nat.blt b nx
  | .nils => true
  | .slice b _ _ (.ex _) => Nat.blt b nx
  | .slice b _ _ (.sy i _) => Nat.blt b nx && Nat.blt i nk
  | .nilm => true
  | .nilf => true
  | .nili => true
  | _ => false

noncomputable def readOnly (nx nk : Nat) : List (Nat × LObj) → Bool
  | [] => true
  | (b, .row cells false id _ _) :: r => Nat.blt b nx && Nat.blt id nk && cells.all (within nx nk) && readOnly nx nk r
  | _ => false

noncomputable def freshPrim (pre : List (Nat × LObj)) (v : CV) (args : List CV) (S : St) : CRes :=
  match args with
  | [] => bif allSame' S.heap pre then .ok v S else .fail
  | _ => .fail

/-- Less is named. -/
def Ren.cut (ρ : Ren) (nx nk : Nat) : Ren := ⟨fun b => if b < nx then ρ.b b else none, fun i => if i < nk then ρ.k i else none, ρ.v⟩

theorem within_real {ρ : Ren} {nx nk : Nat} {v : CV} {V : Value} (hw : within nx nk v = true) (h : real ρ v = some V) : real (ρ.cut nx nk) v = some V := by
  cases v <;> simp only [within, Bool.false_eq_true] at hw <;> try exact h
  · have := blt_of hw
    simp only [real, Ren.cut, if_pos this] at h ⊢
    exact h
  · rename_i b o l c
    cases c with
    | ex n =>
      have := blt_of hw
      simp only [real, Ren.cut, if_pos this, Ren.cap] at h ⊢
      exact h
    | sy i base =>
      simp only [within, Bool.and_eq_true] at hw
      have h1 := blt_of hw.1
      have h2 := blt_of hw.2
      simp only [real, Ren.cut, if_pos h1, Ren.cap, if_pos h2] at h ⊢
      exact h

theorem readOnly_spec {nx nk : Nat} : ∀ (pre : List (Nat × LObj)), readOnly nx nk pre = true → ∀ b l, (b, l) ∈ pre → b < nx ∧ ∃ cells id sz ty, l = .row cells false id sz ty ∧ id < nk ∧ ∀ v, v ∈ cells → within nx nk v = true
  | [], _, b, l, h => by cases h
  | (b', l') :: r, hr, b, l, h => by
    cases l' with
    | row cells wr id sz ty =>
      cases wr with
      | true => simp [readOnly] at hr
      | false =>
        simp only [readOnly, Bool.and_eq_true] at hr
        obtain ⟨⟨⟨h1, h2⟩, h3⟩, h4⟩ := hr
        rcases List.mem_cons.1 h with e | h
        · cases e
          exact ⟨blt_of h1, cells, id, sz, ty, rfl, blt_of h2, fun v hv => List.all_eq_true.1 h3 v hv⟩
        · exact readOnly_spec r h4 b l h
    | map _ _ => simp [readOnly] at hr
    | mapU _ => simp [readOnly] at hr

section
variable {P : Program}

theorem fresh_ok {call : Call} (hcall : CallOK P call) {f : FuncId} {pre : List (Nat × LObj)} {nx nk : Nat} {c : Bool} {U' : St} (h : call f [] (stOf pre nx nk) = .ok (.bool c) U') (hg : P.globals.size ≤ nx) (hro : readOnly nx nk pre = true) :
    PrimOK P f (freshPrim pre (.bool c)) := by
  intro args S v S' ρ w L hp hr hgl hL o a next Q hK
  unfold freshPrim at hp
  split at hp
  rotate_left
  · cases hp
  cases hc : allSame' S.heap pre with
  | false => rw [hc] at hp; cases hp
  | true =>
    rw [hc, cond_true] at hp
    cases hp
    have hpre := allSame_spec pre hc
    have hrs := readOnly_spec pre hro
    have hget : ∀ b o, (stOf pre nx nk).heap.get b = some o → ∃ l, (b, l) ∈ pre ∧ o = l.obj := by
      intro b o hb
      rcases putAll_get pre .leaf (fun b l hl => (hpre b l hl).1) b o hb with hx | ⟨_, hx⟩
      · exact hx
      · cases hx
    have noW : ∀ b, ¬ (stOf pre nx nk).hasW b := by
      rintro b ⟨o, hb, hw⟩
      obtain ⟨l, e1, rfl⟩ := hget b o hb
      obtain ⟨_, _, _, _, _, rfl, _⟩ := hrs b l e1
      cases hw
    have hrel : Rel (ρ.cut nx nk) (stOf pre nx nk) w := by
      refine ⟨fun b o hb => ?_, fun b b' B D D' _ _ hw => (hw.elim (noW b) (noW b')).elim, fun b hb => ?_, fun i hi => ?_⟩
      · obtain ⟨l, e1, rfl⟩ := hget b o hb
        obtain ⟨_, o', e2, e3⟩ := hpre b l e1
        obtain ⟨hb1, cells, id, sz, ty, rfl, hid, hcells⟩ := hrs b l e1
        obtain ⟨B, D, O, f1, f2, f3⟩ := hr.obj b o' e2
        refine ⟨B, D, O, by simp only [Ren.cut, if_pos hb1]; exact f1, f2, ?_⟩
        have f3 := sameObj_rel e3 f3
        cases O with
        | cells cs u fz =>
          obtain ⟨a1, a2, a3⟩ := f3
          refine ⟨fun i hi => ?_, ?_, a3⟩
          · obtain ⟨v, V, g1, g2, g3, g4⟩ := a1 i hi
            refine ⟨v, V, g1, within_real (hcells v ?_) g2, g3, g4⟩
            have hlen : cells.length < lim := by
              have := e3
              cases o' <;> simp only [sameObj, Bool.false_eq_true, Bool.and_eq_true] at this
              exact blt_of this.1.1.1.1.1.2
            have hgt := lay_get cells .leaf 0 i (by unfold lim at hlen; omega)
            rw [if_pos ⟨Nat.zero_le _, by simpa using hi⟩, Nat.sub_zero] at hgt
            rw [Nat.add_zero, hgt] at g1
            exact List.mem_of_getElem? g1
          · rcases a2 with a2 | ⟨hz, x, hx, a2⟩
            · exact .inl a2
            · exact .inr ⟨hz, x, by simp only [Ren.cut, if_pos hid]; exact hx, a2⟩
        | _ => exact f3.elim
      · have hb : nx ≤ b := hb
        simp only [Ren.cut]
        rw [if_neg (by omega)]
      · have hi : nk ≤ i := hi
        simp only [Ren.cut]
        rw [if_neg (by omega)]
    have hgl' : Glob P (ρ.cut nx nk) := by
      intro g hg'
      simp only [Ren.cut]
      rw [if_pos (by omega)]
      exact hgl g hg'
    simp only [reals, Option.some.injEq] at hL
    subst hL
    refine hcall f [] _ _ U' (ρ.cut nx nk) w [] h hrel hgl' rfl o a next Q fun ρ' w' V hs hV => ?_
    have heap : ∀ x, x < w.heap.size → w'.heap[x]? = w.heap[x]? := fun x hx => hs.keep x hx (fun b D hb => (noW b hb).elim)
    refine hK ρ w' V ⟨.refl ρ, ⟨fun b o hb => ?_, hr.inj, hr.fresh, hr.freshk⟩, Nat.le_refl _, Nat.le_refl _, fun x hx _ => heap x hx, hs.size, fun b _ D hb e _ => ⟨b, D, hb, e⟩, hs.os, hs.tape, hs.output, fun _ _ => rfl, fun b _ D hb e _ => ⟨b, D, hb, e⟩⟩ ?_
    · obtain ⟨B, D, O, e1, e2, e3⟩ := hr.obj b o hb
      exact ⟨B, D, O, e1, by rw [heap B (Array.getElem?_eq_some_iff.1 e2).1]; exact e2, e3⟩
    · simpa [real] using hV

end
end Go.Ev

namespace Go.Ev

/-- Two lists, one by one. -/
inductive All2 {α β : Type} (R : α → β → Prop) : List α → List β → Prop where
  | nil : All2 R [] []
  | cons {a : α} {b : β} {l : List α} {m : List β} (h : R a b) (t : All2 R l m) : All2 R (a :: l) (b :: m)

theorem mapM_all2 {α β : Type} {g : α → Option β} : ∀ {l : List α} {xs : List β}, l.mapM g = some xs → All2 (fun a x => g a = some x) l xs
  | [], xs, h => by
    simp only [List.mapM_nil, Option.pure_def, Option.some.injEq] at h
    subst h
    exact .nil
  | a :: l, xs, h => by
    simp only [List.mapM_cons, Option.bind_eq_bind, Option.pure_def, Option.bind_eq_some_iff, Option.some.injEq] at h
    obtain ⟨x, h1, ys, h2, rfl⟩ := h
    exact .cons h1 (mapM_all2 h2)

theorem All2.length {α β : Type} {R : α → β → Prop} : ∀ {l : List α} {m : List β}, All2 R l m → l.length = m.length
  | _, _, .nil => rfl
  | _, _, .cons _ t => by simp [t.length]

theorem All2.maps {α β γ δ : Type} {R : α → β → Prop} {R' : γ → δ → Prop} {g : α → γ} {k : β → δ} (h : ∀ a b, R a b → R' (g a) (k b)) : ∀ {l : List α} {m : List β}, All2 R l m → All2 R' (l.map g) (m.map k)
  | _, _, .nil => .nil
  | _, _, .cons h1 t => .cons (h _ _ h1) (t.maps h)

theorem All2.append {α β : Type} {R : α → β → Prop} {l' : List α} {m' : List β} (h' : All2 R l' m') : ∀ {l : List α} {m : List β}, All2 R l m → All2 R (l ++ l') (m ++ m')
  | _, _, .nil => h'
  | _, _, .cons h1 t => .cons h1 (All2.append h' t)

noncomputable section
abbrev Laid := List CV × List (Nat × List CV) × Nat

def layL (f : DataW Unit → Nat → Option Laid) : List (DataW Unit) → Nat → Option Laid
  | [], nx => some ([], [], nx)
  | d :: ds, nx => (match f d nx with
    | some (c, r, n1) => (match layL f ds n1 with
      | some (cs, rs, n2) => some (c ++ cs, r ++ rs, n2)
      | none => none)
    | none => none)

def layF (f : TypeId → DataW Unit → Nat → Option Laid) : List Field → List (DataW Unit) → Nat → Option Laid
  | [], [], nx => some ([], [], nx)
  | fd :: fs, d :: ds, nx => (match f fd.type d nx with
    | some (c, r, n1) => (match layF f fs ds n1 with
      | some (cs, rs, n2) => some (c ++ cs, r ++ rs, n2)
      | none => none)
    | none => none)
  | _, _, _ => none

/-- The fields lie one behind the other. -/
def contig (P : Program) : Nat → List Field → Nat → Bool
  | k, [], n => Nat.beq k n
  | k, f :: fs, n => Nat.beq f.offset k && contig P (k + P.cellsOf f.type) fs n

def kindB (a b : IntKind) : Bool := decide (a = b)

def layD (P : Program) : Nat → TypeId → DataW Unit → Nat → Option Laid
  | 0, _, _, _ => none
  | fuel + 1, t, d, nx =>
    match P.underlying t with
    | some .bool => (match d with
      | .lit (.bool b) => some ([.bool b], [], nx)
      | _ => none)
    | some (.int k) => (match d with
      | .lit (.int k' n) => bif kindB k' k then some ([.int k' n], [], nx) else none
      | _ => none)
    | some .string => (match d with
      | .lit (.string bs) => some ([.str (bs.map UInt8.toNat)], [], nx)
      | _ => none)
    | some (.slice e) => (match d with
      | .nil => some ([.nils], [], nx)
      | .slice (d0 :: elems) spare => bif Nat.beq (P.cellsOf e) 0 then none else (match layL (layD P fuel e) (d0 :: elems ++ spare) (nx + 1) with
        | some (c, r, n2) => some ([.slice nx 0 (elems.length + 1) (.ex (elems.length + 1 + spare.length))], (nx, c) :: r, n2)
        | none => none)
      | _ => none)
    | some (.struct fs) => (match d with
      | .agg ds => bif contig P 0 fs.toList (P.cellsOf t) then layF (layD P fuel) fs.toList ds nx else none
      | _ => none)
    | some (.array n e) => (match d with
      | .agg ds => bif Nat.beq (n * P.cellsOf e) (P.cellsOf t) then layL (layD P fuel e) ds nx else none
      | _ => none)
    | _ => none
end

/-- What the rows stand for. -/
def LaidOK (w : World) (nx n2 : Nat) (c : List CV) (r : List (Nat × List CV)) (cs : List Value) : Prop :=
  nx ≤ n2 ∧ (∀ b l, (b, l) ∈ r → nx ≤ b ∧ b < n2) ∧ ∃ β : Nat → Nat × Nat, ∀ ρ : Ren, (∀ b, nx ≤ b → b < n2 → ρ.b b = some (β b)) →
    reals ρ c = some cs ∧ ∀ b l, (b, l) ∈ r → ∃ L, reals ρ l = some L ∧ ∀ (j : Nat) (v : Value), L[j]? = some v → w.cell? ⟨(β b).1, (β b).2 + j, none⟩ = some v

theorem LaidOK.none {w : World} {nx : Nat} {c : List CV} {cs : List Value} (h : ∀ ρ, reals ρ c = some cs) : LaidOK w nx nx c [] cs :=
  ⟨Nat.le_refl _, fun _ _ h => (List.not_mem_nil h).elim, fun _ => (0, 0), fun ρ _ => ⟨h ρ, fun _ _ h => (List.not_mem_nil h).elim⟩⟩

theorem reals_append' {ρ : Ren} : ∀ {a b : List CV} {A B : List Value}, reals ρ a = some A → reals ρ b = some B → reals ρ (a ++ b) = some (A ++ B)
  | [], b, A, B, h, h' => by
    simp only [reals, Option.some.injEq] at h
    subst h
    exact h'
  | v :: a, b, A, B, h, h' => by
    simp only [reals, Option.bind_eq_some_iff, Option.map_eq_some_iff] at h
    obtain ⟨x, hx, y, hy, rfl⟩ := h
    simp only [List.cons_append, reals, hx, Option.bind_some, reals_append' hy h', Option.map_some]

theorem LaidOK.append {w : World} {nx n1 n2 : Nat} {c c' : List CV} {r r' : List (Nat × List CV)} {cs cs' : List Value} (h : LaidOK w nx n1 c r cs) (h' : LaidOK w n1 n2 c' r' cs') : LaidOK w nx n2 (c ++ c') (r ++ r') (cs ++ cs') := by
  obtain ⟨a1, a2, β, a3⟩ := h
  obtain ⟨b1, b2, β', b3⟩ := h'
  refine ⟨by omega, fun b l hb => ?_, fun b => if b < n1 then β b else β' b, fun ρ hρ => ?_⟩
  · rcases List.mem_append.1 hb with hb | hb
    · have := a2 b l hb; omega
    · have := b2 b l hb; omega
  · obtain ⟨g1, g2⟩ := a3 ρ (fun b h1 h2 => by have := hρ b h1 (by omega); simp only [if_pos h2] at this; exact this)
    obtain ⟨k1, k2⟩ := b3 ρ (fun b h1 h2 => by have := hρ b (by omega) h2; simp only [if_neg (show ¬ b < n1 by omega)] at this; exact this)
    refine ⟨reals_append' g1 k1, fun b l hb => ?_⟩
    rcases List.mem_append.1 hb with hb | hb
    · obtain ⟨L, e1, e2⟩ := g2 b l hb
      refine ⟨L, e1, ?_⟩
      simp only [if_pos (a2 b l hb).2]
      exact e2
    · obtain ⟨L, e1, e2⟩ := k2 b l hb
      refine ⟨L, e1, ?_⟩
      have := (b2 b l hb).1
      simp only [if_neg (show ¬ b < n1 by omega)]
      exact e2

theorem layL_ok {w : World} {f : DataW Unit → Nat → Option Laid} {T : List Value → DataW Unit → Prop} (hf : ∀ d nx c r n2 cs, f d nx = some (c, r, n2) → T cs d → LaidOK w nx n2 c r cs) :
    ∀ {css : List (List Value)} {ds : List (DataW Unit)} {nx : Nat} {c : List CV} {r : List (Nat × List CV)} {n2 : Nat}, All2 T css ds → layL f ds nx = some (c, r, n2) → LaidOK w nx n2 c r css.flatten
  | _, _, nx, c, r, n2, .nil, h => by
    simp only [layL, Option.some.injEq, Prod.mk.injEq] at h
    obtain ⟨rfl, rfl, rfl⟩ := h
    exact LaidOK.none (fun ρ => rfl)
  | _, _, nx, c, r, n2, .cons h1 t, h => by
    simp only [layL] at h
    split at h
    · rename_i c1 r1 n1 e1
      split at h
      · rename_i c2 r2 n3 e2
        simp only [Option.some.injEq, Prod.mk.injEq] at h
        obtain ⟨rfl, rfl, rfl⟩ := h
        rw [List.flatten_cons]
        exact (hf _ _ _ _ _ _ e1 h1).append (layL_ok hf t e2)
      · cases h
    · cases h

theorem chunks {s : Nat} : ∀ (n : Nat) (cs : List Value), cs.length = n * s → ((List.range n).map fun i => (cs.drop (i * s)).take s).flatten = cs
  | 0, cs, h => by
    have : cs = [] := List.length_eq_zero_iff.1 (by simpa using h)
    subst this
    rfl
  | n + 1, cs, h => by
    rw [List.range_succ_eq_map, List.map_cons, List.flatten_cons, List.map_map]
    have e : ((fun i => (cs.drop (i * s)).take s) ∘ Nat.succ) = fun i => ((cs.drop s).drop (i * s)).take s := by
      funext i
      simp only [Function.comp, List.drop_drop]
      congr 2
      rw [Nat.succ_mul]
      omega
    rw [e, chunks n (cs.drop s) (by rw [List.length_drop, h, Nat.succ_mul]; omega)]
    simp

theorem layF_ok {P : Program} {w : World} {f : TypeId → DataW Unit → Nat → Option Laid} {T : TypeId → List Value → DataW Unit → Prop} (hf : ∀ t d nx c r n2 cs, f t d nx = some (c, r, n2) → T t cs d → LaidOK w nx n2 c r cs) {cs : List Value} :
    ∀ (fs : List Field) (ds : List (DataW Unit)) (k nx : Nat) (c : List CV) (r : List (Nat × List CV)) (n2 : Nat), contig P k fs cs.length = true → All2 (fun (fd : Field) d => T fd.type ((cs.drop fd.offset).take (P.cellsOf fd.type)) d) fs ds → layF f fs ds nx = some (c, r, n2) → LaidOK w nx n2 c r (cs.drop k)
  | [], _, k, nx, c, r, n2, hc, .nil, h => by
    simp only [layF, Option.some.injEq, Prod.mk.injEq] at h
    obtain ⟨rfl, rfl, rfl⟩ := h
    have : k = cs.length := Nat.eq_of_beq_eq_true hc
    subst this
    exact LaidOK.none (fun ρ => by simp [reals])
  | fd :: fs, _, k, nx, c, r, n2, hc, .cons h1 t, h => by
    simp only [contig, Bool.and_eq_true] at hc
    have ho := Nat.eq_of_beq_eq_true hc.1
    subst ho
    simp only [layF] at h
    split at h
    · rename_i c1 r1 n1 e1
      split at h
      · rename_i c2 r2 n3 e2
        simp only [Option.some.injEq, Prod.mk.injEq] at h
        obtain ⟨rfl, rfl, rfl⟩ := h
        have := (hf _ _ _ _ _ _ _ e1 h1).append (layF_ok hf fs _ _ _ _ _ _ hc.2 t e2)
        rw [← List.drop_drop, List.take_append_drop] at this
        exact this
      · cases h
    · cases h

/-- How a datum is read. -/
abbrev trodU (P : Program) (w : World) (fuel : Nat) (t : TypeId) (cs : List Value) : Option (DataW Unit × List MemPlace) := DataW.trod (fun _ => ()) P w 0 (fun _ => true) false fuel t cs

theorem cells_at {w : World} {a : Addr} {n : Nat} {cs : List Value} (h : w.cells? 0 a n = some cs) : cs.length = n ∧ ∀ (j : Nat) (v : Value), cs[j]? = some v → w.cell? (a.add j) = some v := by
  unfold World.cells? at h
  rw [if_pos (Nat.zero_le _)] at h
  have h := mapM_all2 h
  have key : ∀ {l : List Nat} {m : List Value}, All2 (fun i x => w.cell? (a.add i) = some x) l m → ∀ (j : Nat) (v : Value), m[j]? = some v → ∃ i, l[j]? = some i ∧ w.cell? (a.add i) = some v := by
    intro l m hh
    induction hh with
    | nil => intro j v hv; simp at hv
    | cons h1 t ih =>
      intro j v hv
      cases j with
      | zero => simp only [List.getElem?_cons_zero, Option.some.injEq] at hv; subst hv; exact ⟨_, rfl, h1⟩
      | succ j => simpa using ih j v (by simpa using hv)
  refine ⟨by have := h.length; simpa using this.symm, fun j v hv => ?_⟩
  obtain ⟨i, h1, h2⟩ := key h j v hv
  have := List.getElem?_eq_some_iff.1 h1
  obtain ⟨h3, h4⟩ := this
  rw [List.getElem_range] at h4
  subst h4
  exact h2

theorem all2_imp {α β : Type} {R R' : α → β → Prop} : ∀ {l : List α} {m : List β}, All2 R l m → (∀ a b, R a b → R' a b) → All2 R' l m
  | _, _, .nil, _ => .nil
  | _, _, .cons h1 t, h => .cons (h _ _ h1) (all2_imp t h)

theorem all2_left {α β : Type} {R : α → β → Prop} {p : α → Prop} : ∀ {l : List α} {m : List β}, All2 (fun a b => p a ∧ R a b) l m → ∀ a, a ∈ l → p a
  | _, _, .nil, a, h => (List.not_mem_nil h).elim
  | _, _, .cons h1 t, a, h => by
    rcases List.mem_cons.1 h with rfl | h
    · exact h1.1
    · exact all2_left t a h

/-- A cell of pieces of one length. -/
theorem flat_at {s : Nat} {piece : Nat → List Value} {p : Nat → Value → Prop} : ∀ {n : Nat}, (∀ i, i < n → (piece i).length = s) → (∀ i, i < n → ∀ (j : Nat) (v : Value), (piece i)[j]? = some v → p (i * s + j) v) →
    ∀ (j : Nat) (v : Value), ((List.range n).map piece).flatten[j]? = some v → p j v
  | 0, _, _, j, v, h => by simp at h
  | n + 1, hl, hp, j, v, h => by
    rw [List.range_succ, List.map_append, List.flatten_append] at h
    have hlen : ∀ m, m ≤ n + 1 → ((List.range m).map piece).flatten.length = m * s := by
      intro m
      induction m with
      | zero => intro _; simp
      | succ m ih =>
        intro hm
        rw [List.range_succ, List.map_append, List.flatten_append, List.length_append, ih (by omega)]
        simp [hl m (by omega), Nat.succ_mul]
    by_cases hj : j < n * s
    · rw [List.getElem?_append_left (by rw [hlen n (by omega)]; exact hj)] at h
      exact flat_at (fun i hi => hl i (by omega)) (fun i hi => hp i (by omega)) j v h
    · rw [List.getElem?_append_right (by rw [hlen n (by omega)]; omega), hlen n (by omega)] at h
      have h : (piece n)[j - n * s]? = some v := by simpa using h
      have := hp n (by omega) _ _ h
      rwa [show n * s + (j - n * s) = j by omega] at this

theorem layD_ok {P : Program} {w : World} : ∀ (f2 f1 : Nat) (t : TypeId) (d : DataW Unit) (nx : Nat) (c : List CV) (r : List (Nat × List CV)) (n2 : Nat) (cs : List Value) (p : List MemPlace),
    layD P f2 t d nx = some (c, r, n2) → trodU P w f1 t cs = some (d, p) → LaidOK w nx n2 c r cs
  | 0, _, _, _, _, _, _, _, _, _, h, _ => by cases h
  | _ + 1, 0, _, _, _, _, _, _, _, _, _, h' => by cases h'
  | f2 + 1, f1 + 1, t, d, nx, c, r, n2, cs, p, h, h' => by
    have ih := fun t d nx c r n2 cs => layD_ok (P := P) (w := w) f2 f1 t d nx c r n2 cs
    simp only [layD] at h
    unfold trodU DataW.trod at h'
    cases ht : P.underlying t with
    | none => rw [ht] at h; cases h
    | some td =>
    rw [ht] at h h'
    cases td <;> simp only [reduceCtorEq] at h
    case bool =>
      split at h
      · simp only [Option.some.injEq, Prod.mk.injEq] at h
        obtain ⟨rfl, rfl, rfl⟩ := h
        cases cs with
        | nil => cases h'
        | cons v l =>
          cases l with
          | cons _ _ => cases v <;> cases h'
          | nil =>
            cases v <;> first | (cases h'; done) | (cases h'; exact LaidOK.none (fun ρ => rfl))
      · cases h
    case int k =>
      split at h
      · rename_i k2 n
        cases hk : kindB k2 k with
        | false => rw [hk] at h; cases h
        | true =>
          rw [hk, cond_true] at h
          simp only [Option.some.injEq, Prod.mk.injEq] at h
          obtain ⟨rfl, rfl, rfl⟩ := h
          cases cs with
          | nil => cases h'
          | cons v l =>
            cases l with
            | cons _ _ => cases v <;> cases h'
            | nil =>
              cases v <;> first | (cases h'; done) | skip
              simp only at h'
              split at h'
              · rename_i hc
                obtain ⟨rfl, _⟩ := hc
                cases h'
                exact LaidOK.none (fun ρ => rfl)
              · cases h'
      · cases h
    case string =>
      split at h
      · rename_i bs
        simp only [Option.some.injEq, Prod.mk.injEq] at h
        obtain ⟨rfl, rfl, rfl⟩ := h
        cases cs with
        | nil => cases h'
        | cons v l =>
          cases l with
          | cons _ _ => cases v <;> cases h'
          | nil =>
            cases v <;> first | (cases h'; done) | skip
            rename_i s0
            simp only at h'
            split at h'
            · cases h'
              refine LaidOK.none (fun ρ => ?_)
              have : strReal (s0.data.toList.map UInt8.toNat) = s0 := by
                apply ByteArray.ext
                simp [strReal, Function.comp_def]
              simp [reals, real, this]
            · cases h'
      · cases h
    case slice e =>
      split at h
      · simp only [Option.some.injEq, Prod.mk.injEq] at h
        obtain ⟨rfl, rfl, rfl⟩ := h
        cases cs with
        | nil => cases h'
        | cons v l =>
          cases l with
          | cons _ _ =>
            exfalso
            cases v <;> first | (cases h'; done) | skip
            rename_i a len cap
            cases a <;> first | (cases h'; done) | (cases len <;> cases cap <;> cases h')
          | nil =>
            cases v <;> first | (cases h'; done) | skip
            rename_i a len cap
            cases a with
            | none =>
              cases len with
              | succ _ => cases h'
              | zero =>
                cases cap with
                | succ _ => cases h'
                | zero => exact LaidOK.none (fun ρ => rfl)
            | some a =>
              simp only at h'
              split at h'
              · simp only [Option.bind_eq_some_iff, Option.map_eq_some_iff] at h'
                obtain ⟨_, _, _, _, h'⟩ := h'
                cases h'
              · cases h'
      · rename_i d0 elems spare
        cases hz : Nat.beq (P.cellsOf e) 0 with
        | true => rw [hz] at h; cases h
        | false =>
          rw [hz, cond_false] at h
          have hz : P.cellsOf e ≠ 0 := fun e' => by rw [e'] at hz; cases hz
          split at h
          · rename_i c1 r1 n1 hl
            simp only [Option.some.injEq, Prod.mk.injEq] at h
            obtain ⟨rfl, rfl, rfl⟩ := h
            cases cs with
            | nil => cases h'
            | cons v l =>
              cases l with
              | cons _ _ =>
            exfalso
            cases v <;> first | (cases h'; done) | skip
            rename_i a len cap
            cases a <;> first | (cases h'; done) | (cases len <;> cases cap <;> cases h')
              | nil =>
                cases v <;> first | (cases h'; done) | skip
                rename_i a len cap
                cases a with
                | none => cases len <;> cases cap <;> cases h'
                | some a =>
                  simp only at h'
                  split at h'
                  · rename_i hcap
                    simp only [Option.bind_eq_some_iff, Option.map_eq_some_iff, if_true] at h'
                    obtain ⟨xs, hx, ys, hy, h'⟩ := h'
                    simp only [Prod.mk.injEq, DataW.slice.injEq] at h'
                    obtain ⟨⟨k1, k2⟩, _⟩ := h'
                    have hlx := (mapM_all2 hx).length
                    have hly := (mapM_all2 hy).length
                    simp only [List.length_range] at hlx hly
                    -- the pieces
                    let piece : Nat → List Value := fun i => ((w.cells? 0 (a.add (i * P.cellsOf e)) (P.cellsOf e))).getD []
                    have hpx : All2 (fun i (x : DataW Unit × List MemPlace) => w.cells? 0 (a.add (i * P.cellsOf e)) (P.cellsOf e) = some (piece i) ∧ trodU P w f1 e (piece i) = some x) (List.range len) xs :=
                      all2_imp (mapM_all2 hx) (fun i x hi => by
                        simp only [Option.bind_eq_some_iff] at hi
                        obtain ⟨l, h1, h2⟩ := hi
                        simp only [piece, h1, Option.getD_some]
                        exact ⟨trivial, h2⟩)
                    have hpy : All2 (fun i (x : DataW Unit × List MemPlace) => w.cells? 0 (a.add (i * P.cellsOf e)) (P.cellsOf e) = some (piece i) ∧ trodU P w f1 e (piece i) = some x) ((List.range (cap - len)).map (len + ·)) ys := by
                      have := all2_imp (mapM_all2 hy) (R' := fun j (x : DataW Unit × List MemPlace) => w.cells? 0 (a.add ((len + j) * P.cellsOf e)) (P.cellsOf e) = some (piece (len + j)) ∧ trodU P w f1 e (piece (len + j)) = some x) (fun i x hi => by
                        simp only [Option.bind_eq_some_iff] at hi
                        obtain ⟨l, h1, h2⟩ := hi
                        simp only [piece, h1, Option.getD_some]
                        exact ⟨trivial, h2⟩)
                      have := this.maps (R' := fun i (x : DataW Unit × List MemPlace) => w.cells? 0 (a.add (i * P.cellsOf e)) (P.cellsOf e) = some (piece i) ∧ trodU P w f1 e (piece i) = some x) (g := (len + ·)) (k := id) (fun i x h => h)
                      simpa using this
                    have hall := All2.append hpy hpx
                    have hidx : List.range len ++ (List.range (cap - len)).map (len + ·) = List.range cap := by
                      have := List.range_add (n := len) (m := cap - len)
                      rw [show len + (cap - len) = cap by omega] at this
                      exact this.symm
                    rw [hidx] at hall
                    have hlay := layL_ok (w := w) (f := layD P f2 e) (T := fun cs d => ∃ p, trodU P w f1 e cs = some (d, p)) (fun d nx c r n2 cs h1 ⟨p, h2⟩ => ih e d nx c r n2 cs p h1 h2)
                      (css := (List.range cap).map piece) (ds := d0 :: elems ++ spare) (by
                        have := hall.maps (g := piece) (k := (·.1)) (R' := fun cs d => ∃ p, trodU P w f1 e cs = some (d, p)) (fun i x hi => ⟨x.2, hi.2⟩)
                        rw [List.map_append, k1, k2] at this
                        exact this) hl
                    have hne : len = elems.length + 1 := by
                      have := congrArg List.length k1
                      simp only [List.length_map, List.length_cons] at this
                      omega
                    have hcl : cap - len = spare.length := by
                      have := congrArg List.length k2
                      simp only [List.length_map] at this
                      omega
                    have hcells : ∀ i, i < cap → w.cells? 0 (a.add (i * P.cellsOf e)) (P.cellsOf e) = some (piece i) := by
                      intro i hi
                      exact all2_left hall i (by simpa using hi)
                    have hspot : a.spot = none := by
                      have h0 := hcells 0 (by omega)
                      obtain ⟨g1, g2⟩ := cells_at h0
                      have hlt : 0 < (piece 0).length := by omega
                      have := g2 0 _ (List.getElem?_eq_getElem hlt)
                      simp only [Nat.zero_mul] at this
                      unfold World.cell? at this
                      split at this
                      · split at this
                        · cases this
                        · rename_i hs
                          cases hq : a.spot with
                          | none => rfl
                          | some x => simp [Addr.add, hq] at hs
                      · cases this
                    obtain ⟨B, D, sp⟩ := a
                    simp only at hspot
                    subst hspot
                    obtain ⟨q1, q2, β, q3⟩ := hlay
                    refine ⟨by omega, fun b l hb => ?_, fun b => if b = nx then (B, D) else β b, fun ρ hρ => ?_⟩
                    · rcases List.mem_cons.1 hb with e1 | hb
                      · cases e1; omega
                      · have := q2 b l hb; omega
                    · obtain ⟨g1, g2⟩ := q3 ρ (fun b h1 h2 => by
                        have := hρ b (by omega) h2
                        simp only [if_neg (show ¬ b = nx by omega)] at this
                        exact this)
                      have hbn := hρ nx (Nat.le_refl _) (by omega)
                      simp only [if_true] at hbn
                      refine ⟨by simp [reals, real, hbn, Ren.cap, hne, ← hcl]; omega, fun b l hb => ?_⟩
                      rcases List.mem_cons.1 hb with e1 | hb
                      · cases e1
                        refine ⟨_, g1, fun j v hv => ?_⟩
                        simp only [if_true]
                        exact flat_at (p := fun j v => w.cell? ⟨B, D + j, none⟩ = some v) (fun i hi => (cells_at (hcells i hi)).1) (fun i hi j v hv => by
                          have := (cells_at (hcells i hi)).2 j v hv
                          rw [Addr.add_lit, Addr.add_lit] at this
                          rw [show D + (i * P.cellsOf e + j) = D + i * P.cellsOf e + j by omega]
                          exact this) j v hv
                      · obtain ⟨L, e1, e2⟩ := g2 b l hb
                        refine ⟨L, e1, ?_⟩
                        simp only [if_neg (show ¬ b = nx by have := (q2 b l hb).1; omega)]
                        exact e2
                  · cases h'
          · cases h
      · cases h
    case array n e =>
      split at h
      · rename_i ds
        cases hz : Nat.beq (n * P.cellsOf e) (P.cellsOf t) with
        | false => rw [hz] at h; cases h
        | true =>
          rw [hz, cond_true] at h
          have hz := Nat.eq_of_beq_eq_true hz
          simp only at h'
          split at h'
          · rename_i hlen
            simp only [Option.map_eq_some_iff] at h'
            obtain ⟨xs, hx, h'⟩ := h'
            simp only [Prod.mk.injEq, DataW.agg.injEq] at h'
            obtain ⟨k1, _⟩ := h'
            have hall := mapM_all2 hx
            have := layL_ok (w := w) (f := layD P f2 e) (T := fun cs d => ∃ p, trodU P w f1 e cs = some (d, p)) (fun d nx c r n2 cs h1 ⟨p, h2⟩ => ih e d nx c r n2 cs p h1 h2)
              (css := (List.range n).map fun i => (cs.drop (i * P.cellsOf e)).take (P.cellsOf e)) (ds := ds) ?_ h
            · rw [chunks n cs (by rw [hlen, hz])] at this
              exact this
            · rw [← k1]
              exact hall.maps (fun i x hi => ⟨x.2, hi⟩)
          · cases h'
      · cases h
    case struct fs =>
      split at h
      · rename_i ds
        cases hz : contig P 0 fs.toList (P.cellsOf t) with
        | false => rw [hz] at h; cases h
        | true =>
          rw [hz, cond_true] at h
          simp only at h'
          split at h'
          · rename_i hlen
            simp only [Option.map_eq_some_iff] at h'
            obtain ⟨xs, hx, h'⟩ := h'
            simp only [Prod.mk.injEq, DataW.agg.injEq] at h'
            obtain ⟨k1, _⟩ := h'
            have hall := mapM_all2 hx
            have := layF_ok (P := P) (w := w) (f := layD P f2) (T := fun t cs d => ∃ p, trodU P w f1 t cs = some (d, p)) (fun t d nx c r n2 cs h1 ⟨p, h2⟩ => ih t d nx c r n2 cs p h1 h2) (cs := cs)
              fs.toList ds 0 nx c r n2 (by rw [hlen]; exact hz) ?_ h
            · simpa using this
            · rw [← k1]
              have := hall.maps (g := id) (R' := fun (fd : Field) d => ∃ p, trodU P w f1 fd.type ((cs.drop fd.offset).take (P.cellsOf fd.type)) = some (d, p)) (fun i x hi => ⟨x.2, hi⟩)
              simpa using this
          · cases h'
      · cases h

end Go.Ev

namespace Go.Ev

/-- The rows of a listed variable. -/
def initPre (g : Nat) (c : List CV) (r : List (Nat × List CV)) : List (Nat × LObj) := (g, .row c false 0 1 0) :: r.map fun x => (x.1, .row x.2 false 0 1 0)

/-- The names at the beginning: the variables; the rows; one capacity that has nothing beyond; the unknown strings. -/
def ren1 (G n2 : Nat) (β : Nat → Nat × Nat) (v : Nat → Option Atom) : Ren := ⟨fun b => if b < G then some (b, 0) else if b < n2 then some (β b) else none, fun i => if i = 0 then some 0 else none, v⟩

def fullRows (r : List (Nat × List CV)) : Bool := r.all fun x => !x.2.isEmpty && Nat.blt x.2.length lim

theorem putAll_mem {h : Tr CObj} {r : List (Nat × LObj)} (hb : ∀ b l, (b, l) ∈ r → b < lim) {b : Nat} {o : CObj} (hg : (putAll h r).get b = some o) (hn : h.get b = none) : ∃ l, (b, l) ∈ r ∧ o = l.obj := by
  rcases putAll_get r h hb b o hg with h1 | ⟨_, h1⟩
  · exact h1
  · rw [hn] at h1; cases h1

theorem laidVars_get {P : Program} {w : World} {n : String} {d : DataW Unit} : ∀ {laid : List (String × DataW Unit)} {ps : List MemPlace}, DataW.LaidVars P w laid ps → (n, d) ∈ laid →
    ∃ g t cs fuel p, P.globalNamed n = some g ∧ (P.globals[g]?).map (·.type) = some t ∧ w.var? P n = some cs ∧ DataW.trod (fun _ => ()) P w 0 (fun _ => true) false fuel t cs.toList = some (d, p)
  | [], _, _, h => by cases h
  | (n', d') :: r, ps, hl, h => by
    obtain ⟨g, t, cs, fuel, p, q, h1, h2, h3, h4, h5, _⟩ := hl
    rcases List.mem_cons.1 h with e | h
    · cases e
      exact ⟨g, t, cs, fuel, p, h1, h2, h3, h4⟩
    · exact laidVars_get h5 h

theorem init_rel {P : Program} {w : World} {laid : List (String × DataW Unit)} (hm : laidMet P laid w) {n : String} {d : DataW Unit} (hd : (n, d) ∈ laid) {g : Nat} {t : TypeId} (hgn : P.globalNamed n = some g) (hgt : (P.globals[g]?).map (·.type) = some t)
    {fuel : Nat} {c : List CV} {r : List (Nat × List CV)} {n2 : Nat} (hlay : layD P fuel t d P.globals.size = some (c, r, n2)) (hfull : fullRows r = true) (hlim : n2 < lim) (hcl : c.length < lim) (v : Nat → Option Atom) :
    ∃ β, Rel (ren1 P.globals.size n2 β v) (stOf (initPre g c r) n2 1) w ∧ Glob P (ren1 P.globals.size n2 β v) ∧ ∀ b, ¬ (stOf (initPre g c r) n2 1).hasW b := by
  obtain ⟨ps, hlv, _⟩ := hm
  obtain ⟨g', t', cs, f1, p, h1, h2, h3, h4⟩ := laidVars_get hlv hd
  rw [hgn] at h1
  cases h1
  rw [hgt] at h2
  cases h2
  obtain ⟨q1, q2, β, q3⟩ := layD_ok (w := w) fuel f1 t d _ c r n2 cs.toList p hlay h4
  have hgs : g < P.globals.size := by
    cases hq : P.globals[g]? with
    | none => rw [hq] at hgt; cases hgt
    | some x => exact (Array.getElem?_eq_some_iff.1 hq).1
  have hheap : ∃ tt fz, w.heap[g]? = some (.cells cs tt fz) := by
    simp only [World.var?, hgn, Option.bind_some] at h3
    split at h3
    · rename_i c2 tt fz hq
      cases h3
      exact ⟨tt, fz, hq⟩
    · cases h3
  obtain ⟨tt, fz, hheap⟩ := hheap
  obtain ⟨g1, g2⟩ := q3 (ren1 P.globals.size n2 β v) (fun b h1 h2 => by simp only [ren1, if_neg (show ¬ b < P.globals.size by omega), if_pos h2])
  have hb : ∀ b l, (b, l) ∈ initPre g c r → b < n2 := by
    intro b l h
    rcases List.mem_cons.1 h with e | h
    · cases e; omega
    · obtain ⟨x, hx, e⟩ := List.mem_map.1 h
      cases e
      exact (q2 x.1 x.2 hx).2
  have hfr : ∀ b l, (b, l) ∈ r → l ≠ [] ∧ l.length < lim := by
    intro b l h
    have := List.all_eq_true.1 hfull (b, l) h
    simp only [Bool.and_eq_true, Bool.not_eq_true'] at this
    refine ⟨fun e => ?_, blt_of this.2⟩
    rw [e] at this
    cases this.1
  -- a row of which the cells are known
  have row : ∀ (cells : List CV) (L : List Value) (B D : Nat) (cs : Array Value) (tt : TypeId) (fz : Nat × Nat), cells.length < lim → reals (ren1 P.globals.size n2 β v) cells = some L → (∀ (j : Nat) (V : Value), L[j]? = some V → cs[D + j]? = some V) →
      ObjRel (ren1 P.globals.size n2 β v) D (LObj.row cells false 0 1 0).obj (.cells cs tt fz) := by
    intro cells L B D cs tt fz hlen hre hat
    refine ⟨fun i hi => ?_, .inr ⟨by omega, 0, rfl, fun j hj => by omega⟩, fun h => absurd rfl h⟩
    have hgt := lay_get cells .leaf 0 i (by unfold lim at hlen; omega)
    rw [if_pos ⟨Nat.zero_le _, by omega⟩, Nat.sub_zero] at hgt
    have hci : cells[i]? = some cells[i] := List.getElem?_eq_getElem hi
    obtain ⟨V, hV, hV'⟩ := reals_get hre i _ hci
    exact ⟨cells[i], V, by rw [Nat.add_zero, hgt, hci], hV, by rw [Nat.add_comm]; exact hat i V hV', fun h => by cases h⟩
  have noW : ∀ b, ¬ (stOf (initPre g c r) n2 1).hasW b := by
    rintro b ⟨o, hbo, hw⟩
    obtain ⟨l, e1, rfl⟩ := putAll_mem (fun b l h => by have := hb b l h; omega) hbo rfl
    rcases List.mem_cons.1 e1 with e | e1
    · cases e; cases hw
    · obtain ⟨x, hx, e⟩ := List.mem_map.1 e1
      cases e
      cases hw
  refine ⟨β, ⟨fun b o hbo => ?_, fun b b' B D D' h1 h2 hw => ?_, fun b hb' => ?_, fun i hi => ?_⟩, fun g hg => by simp only [ren1, if_pos hg], noW⟩
  · obtain ⟨l, e1, rfl⟩ := putAll_mem (fun b l h => by have := hb b l h; omega) hbo rfl
    rcases List.mem_cons.1 e1 with e | e1
    · cases e
      refine ⟨g, 0, _, by simp only [ren1, if_pos hgs], hheap, row c cs.toList g 0 cs tt fz hcl g1 (fun j V hj => ?_)⟩
      rw [Nat.zero_add, ← Array.getElem?_toList]
      exact hj
    · obtain ⟨x, hx, e⟩ := List.mem_map.1 e1
      cases e
      obtain ⟨L, k1, k2⟩ := g2 x.1 x.2 hx
      obtain ⟨p1, p2⟩ := q2 x.1 x.2 hx
      obtain ⟨r1, r2⟩ := hfr x.1 x.2 hx
      have hLl := reals_length k1
      have hpos : 0 < L.length := by rw [hLl]; exact List.length_pos_iff.2 r1
      have h0 := k2 0 _ (List.getElem?_eq_getElem hpos)
      unfold World.cell? at h0
      split at h0
      · rename_i c2 t2 z2 hq
        refine ⟨(β x.1).1, (β x.1).2, _, by simp only [ren1, if_neg (show ¬ x.1 < P.globals.size by omega), if_pos p2], hq, row x.2 L (β x.1).1 (β x.1).2 c2 t2 z2 r2 k1 (fun j V hj => ?_)⟩
        have := k2 j V hj
        simp only [World.cell?, hq] at this
        simpa using this
      · cases h0
  · exfalso
    exact hw.elim (noW b) (noW b')
  · have hb' : n2 ≤ b := hb'
    simp only [ren1]
    rw [if_neg (by omega), if_neg (by omega)]
  · have hi : 1 ≤ i := hi
    simp only [ren1]
    rw [if_neg (by omega)]

end Go.Ev

namespace Go.Ev

noncomputable section

def sameTr (a b : Tr CV) (sa sb : Nat) : Nat → Bool
  | 0 => true
  | n + 1 => (match a.get (n + sa), b.get (n + sb) with | some u, some v => cvEq 8 u v | _, _ => false) && sameTr a b sa sb n

/-- Does the first stand for whatever the second stands for? -/
def sameO (o p : CObj) : Bool :=
  match o, p with
  | .row c sh hi wr id sz ty, .row c' sh' hi' wr' id' sz' ty' => Nat.beq hi hi' && (wr == wr') && Nat.beq id id' && Nat.beq sz sz' && Nat.beq ty ty' && sameTr c c' sh sh' hi
  | .map es c, .map es' c' => Nat.beq c c' && sameEs es es'
  | .mapU es, .mapU es' => sameEs es es'
  | _, _ => false

def okO : Option CObj → Option CObj → Bool
  | none, _ => true
  | some o, some p => sameO o p
  | some _, none => false

/-- Is whatever the first knows known to the second? -/
def subTr : Tr CObj → Tr CObj → Bool
  | .leaf, _ => true
  | .node v l r, b => okO v (b.get 0) && subTr l (match b with | .leaf => .leaf | .node _ l' _ => l') && subTr r (match b with | .leaf => .leaf | .node _ _ r' => r')

def dropNs (h : Tr CObj) : List Nat → Tr CObj
  | [] => h
  | b :: l => forcedO (h.set big b none) fun h => dropNs h l

/-- One operation, then on. -/
def oneCC (P : Program) (nt : Nat) (o : Oper) (next : CC) : CC :=
  match o.guard, dstOf nt o.dst with
  | none, some d => opCC (opC P o.op) d next
  | _, _ => .bad

/-- A function that tosses, made ready: what comes ahead; the one order and what follows; the other. -/
inductive CoinC where
  | mk (k0 kY kN : CC) (np : Nat) (res : List (Tm → St → Option CV))
  | none

def coinOf (P : Program) (fn : Func) (r0 cnd rest : Code) (ops : Array Oper) (rs : List (Tm → St → Option CV)) : CoinC :=
  match ops.toList with
  | [o0, o1, o2, o3] => .mk (codeCC P fn.ntmps r0 .fin)
      (oneCC P fn.ntmps o0 (oneCC P fn.ntmps o2 (oneCC P fn.ntmps o1 (oneCC P fn.ntmps o3 (codeCC P fn.ntmps (.seq cnd rest) .fin)))))
      (oneCC P fn.ntmps o0 (oneCC P fn.ntmps o1 (oneCC P fn.ntmps o2 (oneCC P fn.ntmps o3 (codeCC P fn.ntmps (.seq cnd rest) .fin))))) fn.ntmps rs
  | _ => .none

def coinC (P : Program) (f : FuncId) : CoinC :=
  match P.funcs[f]? with
  | some fn => (match fn.body with
    | some (.seq r0 (.seq (.seq (.region _ ops true) cnd) rest)) => (match resL P fn.results.toList with
      | some rs => coinOf P fn r0 cnd rest ops rs
      | none => .none)
    | _ => .none)
  | none => .none

def endK (res : List (Tm → St → Option CV)) (q : Res) : CRes :=
  Res.rec (motive := fun _ => CRes) .fail (fun tm S => finish res tm S) (fun _ _ _ => .fail) (fun tm S => finish res tm S) q

/-- What both ways leave. -/
def meetC (drop : List Nat) (x y : CRes) : CRes :=
  match x, y with
  | .ok v S1, .ok v' S2 =>
    bif cvEq 8 v v' && Nat.beq S1.next S2.next && Nat.beq S1.nk S2.nk && subTr (dropNs S1.heap drop) S2.heap then .ok v ⟨dropNs S1.heap drop, S1.next, S1.nk⟩ else .fail
  | _, _ => .fail

def coinRun (x : CoinC) (call : Call) (ks : List Nat) (args : List CV) (S : St) : CRes :=
  match x with
  | .mk k0 kY kN np res =>
    bif Nat.ble args.length np && Nat.ble args.length 256 && ks.all (fun k => Nat.blt (S.next + k) lim) then
      (match runC k0 call (layT .empty 0 args) S with
      | .normal tm1 S1 => meetC (ks.map (S.next + ·)) (endK res (runC kY call tm1 S1)) (endK res (runC kN call tm1 S1))
      | _ => .fail)
    else .fail
  | .none => .fail

/-- The function f, told by both its ways; it may call itself, k deep. -/
def coinPrim (P : Program) (prims : Prims) (n : Nat) (f : FuncId) (ks : List Nat) : Nat → List CV → St → CRes
  | 0, _, _ => .fail
  | k + 1, args, S => coinRun (coinC P f) (callF P (fun g => bif Nat.beq g f then some (coinPrim P prims n f ks k) else prims g) n) ks args S
end

theorem sameTr_spec {a b : Tr CV} {sa sb : Nat} : ∀ (n : Nat), sameTr a b sa sb n = true → ∀ i, i < n → ∃ v, a.get (i + sa) = some v ∧ b.get (i + sb) = some v
  | 0, _, i, h => by omega
  | n + 1, hs, i, h => by
    simp only [sameTr, Bool.and_eq_true] at hs
    obtain ⟨h1, h2⟩ := hs
    by_cases e : i = n
    · subst e
      split at h1
      · rename_i u v hu hv
        have := cvEq_eq _ _ _ h1
        subst this
        exact ⟨_, hu, hv⟩
      · cases h1
    · exact sameTr_spec n h2 i (by omega)

theorem sameO_rel {ρ : Ren} {D : Nat} {o p : CObj} {O : Obj} (hs : sameO o p = true) (h : ObjRel ρ D p O) : ObjRel ρ D o O := by
  cases o with
  | row c sh hi wr id sz ty =>
    cases p with
    | row c' sh' hi' wr' id' sz' ty' =>
      simp only [sameO, Bool.and_eq_true, beq_iff_eq] at hs
      obtain ⟨⟨⟨⟨⟨h1, h3⟩, h4⟩, h5⟩, h6⟩, h7⟩ := hs
      obtain rfl := beq_of h1
      obtain rfl := beq_of h4
      obtain rfl := beq_of h5
      obtain rfl := beq_of h6
      subst h3
      cases O with
      | cells cs u fz =>
        obtain ⟨a1, a2, a3⟩ := h
        refine ⟨fun i hi => ?_, a2, a3⟩
        obtain ⟨v, V, e1, e2, e3, e4⟩ := a1 i hi
        obtain ⟨v', g1, g2⟩ := sameTr_spec _ h7 i hi
        rw [g2] at e1
        cases e1
        exact ⟨_, V, g1, e2, e3, e4⟩
      | _ => exact h.elim
    | _ => simp [sameO] at hs
  | map es c =>
    cases p with
    | map es' c' =>
      simp only [sameO, Bool.and_eq_true] at hs
      obtain rfl := beq_of hs.1
      obtain rfl := sameEs_eq _ _ hs.2
      exact h
    | _ => simp [sameO] at hs
  | mapU es =>
    cases p with
    | mapU es' =>
      simp only [sameO] at hs
      obtain rfl := sameEs_eq _ _ hs
      exact h
    | _ => simp [sameO] at hs
  | _ => cases p <;> simp [sameO] at hs

theorem sameO_wr {o p : CObj} (hs : sameO o p = true) : o.wr = p.wr := by
  cases o with
  | row c sh hi wr id sz ty =>
    cases p with
    | row c' sh' hi' wr' id' sz' ty' =>
      simp only [sameO, Bool.and_eq_true, beq_iff_eq] at hs
      exact hs.1.1.1.1.2
    | _ => simp [sameO] at hs
  | map es c => cases p <;> first | rfl | simp [sameO] at hs
  | mapU es => cases p <;> first | rfl | simp [sameO] at hs
  | _ => cases p <;> simp [sameO] at hs

theorem subTr_spec : ∀ (a b : Tr CObj), subTr a b = true → ∀ n o, a.get n = some o → ∃ p, b.get n = some p ∧ sameO o p = true
  | .leaf, b, _, n, o, h => by rw [Tr.get_leaf] at h; cases h
  | .node v l r, b, hs, n, o, h => by
    simp only [subTr, Bool.and_eq_true] at hs
    obtain ⟨⟨h1, h2⟩, h3⟩ := hs
    rw [Tr.get_node] at h
    cases b with
    | leaf =>
      rw [Tr.get_leaf] at h1
      exfalso
      by_cases hn : n = 0
      · rw [if_pos hn] at h
        subst h
        cases h1
      · rw [if_neg hn] at h
        by_cases hb : n % 2 = 1
        · rw [if_pos hb] at h; obtain ⟨p, hp, _⟩ := subTr_spec l .leaf h2 _ _ h; rw [Tr.get_leaf] at hp; cases hp
        · rw [if_neg hb] at h; obtain ⟨p, hp, _⟩ := subTr_spec r .leaf h3 _ _ h; rw [Tr.get_leaf] at hp; cases hp
    | node v' l' r' =>
      rw [Tr.get_node, if_pos rfl] at h1
      rw [Tr.get_node]
      by_cases hn : n = 0
      · rw [if_pos hn] at h ⊢
        subst h
        cases hv : v' with
        | none => rw [hv] at h1; cases h1
        | some p => rw [hv] at h1; exact ⟨p, rfl, h1⟩
      · rw [if_neg hn] at h ⊢
        by_cases hb : n % 2 = 1
        · rw [if_pos hb] at h ⊢; exact subTr_spec l l' h2 _ _ h
        · rw [if_neg hb] at h ⊢; exact subTr_spec r r' h3 _ _ h

theorem dropNs_get : ∀ (l : List Nat) (h : Tr CObj), (∀ b, b ∈ l → b < lim) → ∀ (b : Nat) (o : CObj), (dropNs h l).get b = some o → h.get b = some o
  | [], h, _, b, o, hg => hg
  | b' :: l, h, hb, b, o, hg => by
    simp only [dropNs, forcedO_eq] at hg
    have h2 := dropNs_get l _ (fun b h => hb b (List.mem_cons_of_mem _ h)) b o hg
    by_cases e : b' = b
    · subst e
      rw [Tr.get_set_eq _ _ _ _ (big_of (hb b' List.mem_cons_self))] at h2
      cases h2
    · rw [Tr.get_set_ne _ _ _ _ _ e] at h2
      exact h2

section
variable {P : Program}

/-- A state that knows less. -/
theorem Stp.less {ρ ρ' : Ren} {S S1 S2 : St} {w w' : World} (hs : Stp ρ S w ρ' S1 w') (hn : S2.next = S1.next) (hk : S2.nk = S1.nk)
    (h : ∀ b o, S2.heap.get b = some o → ∃ p, S1.heap.get b = some p ∧ (o = p ∨ sameO o p = true)) : Stp ρ S w ρ' S2 w' := by
  have hh : ∀ b, S2.has b → S1.has b := fun b ⟨o, e⟩ => (h b o e).elim fun p hp => ⟨p, hp.1⟩
  have hw : ∀ b, S2.hasW b → S1.hasW b := fun b ⟨o, e, g⟩ => (h b o e).elim fun p hp => ⟨p, hp.1, by rcases hp.2 with rfl | h2; exact g; rw [← sameO_wr h2]; exact g⟩
  refine ⟨hs.ext, ⟨fun b o e => ?_, fun b b' B D D' e e' g => hs.rel.inj b b' B D D' (hh b e) (hh b' e') (g.imp (hw b) (hw b')), fun b hb => hs.rel.fresh b (by rw [← hn]; exact hb), fun i hi => hs.rel.freshk i (by rw [← hk]; exact hi)⟩,
    by rw [hn]; exact hs.next, by rw [hk]; exact hs.nk, hs.keep, hs.size, fun b B D e => hs.dom b B D (hh b e), hs.os, hs.tape, hs.output, hs.old, fun b B D e => hs.domW b B D (hw b e)⟩
  obtain ⟨p, e1, e2⟩ := h b o e
  obtain ⟨B, D, O, g1, g2, g3⟩ := hs.rel.obj b p e1
  refine ⟨B, D, O, g1, g2, ?_⟩
  rcases e2 with rfl | e2
  · exact g3
  · exact sameO_rel e2 g3

/-- One operation that nobody guards. -/
theorem one_sound {call : Call} (hcall : CallOK P call) {nt : Nat} {ops : Array Oper} {R i : Nat} {o : Oper} (ho : ops[i]? = some o) (next0 : CC) {Q : Exit → Act → World → Prop} {ρ : Ren} {tm : Tm} {S : St} {a : Act} {w : World}
    (hat : At P nt ρ tm S a w) (hr : runN R (oneCC P nt o next0) call tm S ≠ .fail) {K : Act → World → Prop}
    (hK : ∀ tm' S' ρ' a' w', (∀ next, runN R (oneCC P nt o next) call tm S = runN R next call tm' S') → Stp ρ S w ρ' S' w' → At P nt ρ' tm' S' a' w' → IdleExt P a.defers a'.defers → K a' w') : wpOp P ops Q i K a w := by
  have eq1 : ∀ next, oneCC P nt o next = (match o.guard, dstOf nt o.dst with | none, some d => opCC (opC P o.op) d next | _, _ => .bad) := fun _ => rfl
  cases hgd : o.guard with
  | some g => rw [eq1, hgd] at hr; exact absurd rfl hr
  | none =>
    cases hd : dstOf nt o.dst with
    | none => rw [eq1, hgd, hd] at hr; exact absurd rfl hr
    | some d =>
      have eq2 : ∀ next, oneCC P nt o next = opCC (opC P o.op) d next := fun next => by rw [eq1, hgd, hd]
      rw [eq2] at hr
      have hw : Region.wanted o (yielded ops a.tmps) = true := by simp [Region.wanted, hgd]
      simp only [wpOp, ho, hw, if_true]
      refine .inl ?_
      have rest' : ∀ (v : CV) (S1 : St), (∀ next, runN R (opCC (opC P o.op) d next) call tm S = runN R next call (putD d v tm) S1) → ∀ ρ' w' V (a1 : Act), a1.tmps = a.tmps → IdleExt P a.defers a1.defers → Stp ρ S w ρ' S1 w' → real ρ' v = some V → K (a1.put o.dst V) w' := by
        intro v S1 hrun' ρ' w' V a1 ht1 hd1 hs hv
        exact hK _ S1 ρ' _ w' (fun next => by rw [eq2]; exact hrun' next) hs ((hat.act ht1).step hs hd hv) (hd1.trans (IdleExt.of (put_defers _ _ _)))
      have rest : ∀ (v : CV) (S1 : St), (∀ next, runN R (opCC (opC P o.op) d next) call tm S = runN R next call (putD d v tm) S1) → ∀ ρ' w' V, Stp ρ S w ρ' S1 w' → real ρ' v = some V → K (a.put o.dst V) w' :=
        fun v S1 h ρ' w' V hs hv => rest' v S1 h ρ' w' V a rfl (.refl _) hs hv
      have hok := opC_ok P o
      cases hc : opC P o.op with
      | bad => rw [hc] at hr; exact absurd rfl hr
      | pure f =>
        rw [hc] at hr hok rest
        simp only [opCC, runN_pure] at hr rest
        split at hr
        · exact absurd rfl hr
        · rename_i v hv
          exact pure_wp hok hv hat.fr hat.glob hat.rel (rest v S (fun next => by rw [hv]))
      | read f =>
        rw [hc] at hr hok rest
        simp only [opCC, runN_read] at hr rest
        split at hr
        · exact absurd rfl hr
        · rename_i v hv
          exact read_wp hok hv hat.fr hat.glob hat.rel (rest v S (fun next => by rw [hv]))
      | new f =>
        rw [hc] at hr hok rest
        simp only [opCC, runN_new] at hr rest
        split at hr
        · exact absurd rfl hr
        · rename_i obj mk hv
          split at hr
          · exact absurd rfl hr
          · rename_i b S1 hal
            exact new_wp hok hv hal hat.fr hat.glob hat.rel (rest (mk b) S1 (fun next => by rw [hv]; simp only [hal]))
      | chain f =>
        rw [hc] at hr hok rest'
        simp only [opCC, runN_chain] at hr rest'
        split at hr
        · exact absurd rfl hr
        · rename_i v S1 hv
          exact chain_wp hok hcall hv hat.fr hat.glob hat.rel (rest' v S1 (fun next => by rw [hv]))

/-- Which operations may come when. -/
structure CoinOK (ops : Array Oper) (o0 o1 o2 o3 : Oper) : Prop where
  size : ops.size = 4
  g0 : ops[0]? = some o0
  g1 : ops[1]? = some o1
  g2 : ops[2]? = some o2
  g3 : ops[3]? = some o3
  r : Region.ready .any ops #[false, false, false, false] = [0]
  r0 : Region.ready .any ops #[true, false, false, false] = [1, 2]
  r01 : Region.ready .any ops #[true, true, false, false] = [2]
  r02 : Region.ready .any ops #[true, false, true, false] = [1]
  r012 : Region.ready .any ops #[true, true, true, false] = [3]
  r0123 : Region.ready .any ops #[true, true, true, true] = []

theorem coin_region (hm : P.follows .mixedOrders = true) {call : Call} (hcall : CallOK P call) {nt R id : Nat} {ops : Array Oper} {o0 o1 o2 o3 : Oper} (hc : CoinOK ops o0 o1 o2 o3) {nx : CC} {qY qN : Res} {Q : Exit → Act → World → Prop} {ρ : Ren} {tm : Tm} {S : St} {a : Act} {w : World}
    (hat : At P nt ρ tm S a w) (hY : runN R (oneCC P nt o0 (oneCC P nt o2 (oneCC P nt o1 (oneCC P nt o3 nx)))) call tm S = qY) (hN : runN R (oneCC P nt o0 (oneCC P nt o1 (oneCC P nt o2 (oneCC P nt o3 nx)))) call tm S = qN) (rY : qY ≠ .fail) (rN : qN ≠ .fail)
    {K : Act → World → Prop} (hK : ∀ q, q = qY ∨ q = qN → ∀ ρ' tm' S' a' w', Stp ρ S w ρ' S' w' → At P nt ρ' tm' S' a' w' → IdleExt P a.defers a'.defers → runN R nx call tm' S' = q → K a' w') :
    (Code.region id ops true).wp P (Exit.then K Q) a w := by
  refine wp_region_any hm ?_
  have hat' : At P nt ρ tm S a { w with drawn := w.drawn + 1 } := ⟨hat.rel.heap rfl, hat.fr, hat.glob⟩
  rw [hc.size]
  show wpAny P .any ops (Exit.then K Q) 4 #[false, false, false, false] a _
  refine ⟨fun h => (by rw [hc.r] at h; cases h), fun i hi => ?_⟩
  rw [hc.r, List.mem_singleton] at hi
  subst hi
  refine one_sound hcall hc.g0 (oneCC P nt o2 (oneCC P nt o1 (oneCC P nt o3 nx))) hat' (by rw [hY]; exact rY) ?_
  intro tm0 S0 ρ0 a0 w0 e0 s0 t0 d0
  rw [e0] at hY hN
  refine ⟨fun h => (by change Region.ready .any ops #[true, false, false, false] = [] at h; rw [hc.r0] at h; cases h), fun i hi => ?_⟩
  change i ∈ Region.ready .any ops #[true, false, false, false] at hi
  rw [hc.r0] at hi
  have s0' : Stp ρ S w ρ0 S0 w0 := s0.same rfl rfl rfl rfl
  have fin : ∀ q, (q = qY ∨ q = qN) → q ≠ .fail → ∀ tm3 S3 ρ3 a3 w3, runN R (oneCC P nt o3 nx) call tm3 S3 = q → Stp ρ S w ρ3 S3 w3 → At P nt ρ3 tm3 S3 a3 w3 → IdleExt P a.defers a3.defers → wpAny P .any ops (Exit.then K Q) 1 #[true, true, true, false] a3 w3 := by
    intro q hq hqf tm3 S3 ρ3 a3 w3 e3 s3 t3 d3
    refine ⟨fun h => (by rw [hc.r012] at h; cases h), fun i hi => ?_⟩
    rw [hc.r012, List.mem_singleton] at hi
    subst hi
    refine one_sound hcall hc.g3 nx t3 (by rw [e3]; exact hqf) ?_
    intro tm4 S4 ρ4 a4 w4 e4 s4 t4 d4
    rw [e4] at e3
    exact ⟨hc.r0123, hK q hq ρ4 tm4 S4 a4 w4 (s3.trans s4) t4 (d3.trans d4) e3⟩
  simp only [List.mem_cons, List.not_mem_nil, or_false] at hi
  rcases hi with rfl | rfl
  · refine one_sound hcall hc.g1 (oneCC P nt o2 (oneCC P nt o3 nx)) t0 (by rw [hN]; exact rN) ?_
    intro tm1 S1 ρ1 a1 w1 e1 s1 t1 d1
    rw [e1] at hN
    refine ⟨fun h => (by change Region.ready .any ops #[true, true, false, false] = [] at h; rw [hc.r01] at h; cases h), fun i hi => ?_⟩
    change i ∈ Region.ready .any ops #[true, true, false, false] at hi
    rw [hc.r01, List.mem_singleton] at hi
    subst hi
    refine one_sound hcall hc.g2 (oneCC P nt o3 nx) t1 (by rw [hN]; exact rN) ?_
    intro tm2 S2 ρ2 a2 w2 e2 s2 t2 d2
    rw [e2] at hN
    exact fin qN (.inr rfl) rN tm2 S2 ρ2 a2 w2 hN ((s0'.trans s1).trans s2) t2 ((d0.trans d1).trans d2)
  · refine one_sound hcall hc.g2 (oneCC P nt o1 (oneCC P nt o3 nx)) t0 (by rw [hY]; exact rY) ?_
    intro tm1 S1 ρ1 a1 w1 e1 s1 t1 d1
    rw [e1] at hY
    refine ⟨fun h => (by change Region.ready .any ops #[true, false, true, false] = [] at h; rw [hc.r02] at h; cases h), fun i hi => ?_⟩
    change i ∈ Region.ready .any ops #[true, false, true, false] at hi
    rw [hc.r02, List.mem_singleton] at hi
    subst hi
    refine one_sound hcall hc.g1 (oneCC P nt o3 nx) t1 (by rw [hY]; exact rY) ?_
    intro tm2 S2 ρ2 a2 w2 e2 s2 t2 d2
    rw [e2] at hY
    exact fin qY (.inl rfl) rY tm2 S2 ρ2 a2 w2 hY ((s0'.trans s1).trans s2) t2 ((d0.trans d1).trans d2)

/-- The code of a function that tosses. -/
structure CoinFn (P : Program) (f : FuncId) (fn : Func) (r0 cnd rest : Code) (id : Nat) (ops : Array Oper) (o0 o1 o2 o3 : Oper) : Prop where
  get : P.funcs[f]? = some fn
  body : fn.body = some (.seq r0 (.seq (.seq (.region id ops true) cnd) rest))
  coin : CoinOK ops o0 o1 o2 o3

theorem coin_calls (hm : P.follows .mixedOrders = true) (hdraw : DrawOK P) {call : Call} (hcall : CallOK P call) {f : FuncId} {fn : Func} {r0 cnd rest : Code} {id : Nat} {ops : Array Oper} {o0 o1 o2 o3 : Oper} (hF : CoinFn P f fn r0 cnd rest id ops o0 o1 o2 o3)
    {ks : List Nat} {args : List CV} {S S' : St} {v : CV} (h : coinRun (coinC P f) call ks args S = .ok v S') {ρ : Ren} {w : World} {L : List Value} (hr : Rel ρ S w) (hg : Glob P ρ) (hL : reals ρ args = some L) :
    Calls P f L.toArray w fun e w' => ∃ ρ' V, e = .returned V ∧ Stp ρ S w ρ' S' w' ∧ real ρ' v = some V := by
  have hops : ops.toList = [o0, o1, o2, o3] := by
    have hsz := hF.coin.size
    apply List.ext_getElem?
    intro i
    match i with
    | 0 => simpa using hF.coin.g0
    | 1 => simpa using hF.coin.g1
    | 2 => simpa using hF.coin.g2
    | 3 => simpa using hF.coin.g3
    | n + 4 => simp [hsz]
  unfold coinC at h
  rw [hF.get] at h
  simp only [hF.body] at h
  cases hrs : resL P fn.results.toList with
  | none => rw [hrs] at h; cases h
  | some rs =>
    rw [hrs] at h
    simp only [coinOf, hops, coinRun] at h
    cases hb : (Nat.ble args.length fn.ntmps && Nat.ble args.length 256 && ks.all (fun k => Nat.blt (S.next + k) lim)) with
    | false => rw [hb] at h; cases h
    | true =>
      rw [hb, cond_true] at h
      simp only [Bool.and_eq_true] at hb
      obtain ⟨⟨hb1, hb2⟩, hb3⟩ := hb
      cases h0 : runC (codeCC P fn.ntmps r0 .fin) call (layT .empty 0 args) S with
      | normal tm1 S1 =>
        rw [h0] at h
        simp only at h
        generalize hqY : runC (oneCC P fn.ntmps o0 (oneCC P fn.ntmps o2 (oneCC P fn.ntmps o1 (oneCC P fn.ntmps o3 (codeCC P fn.ntmps (.seq cnd rest) .fin))))) call tm1 S1 = qY at h
        generalize hqN : runC (oneCC P fn.ntmps o0 (oneCC P fn.ntmps o1 (oneCC P fn.ntmps o2 (oneCC P fn.ntmps o3 (codeCC P fn.ntmps (.seq cnd rest) .fin))))) call tm1 S1 = qN at h
        -- what both ways give
        have both : ∀ q, (q = qY ∨ q = qN) → ∃ S2, endK rs q = .ok v S2 ∧ S'.next = S2.next ∧ S'.nk = S2.nk ∧ ∀ b o, S'.heap.get b = some o → ∃ p, S2.heap.get b = some p ∧ (o = p ∨ sameO o p = true) := by
          unfold meetC at h
          split at h
          · rename_i v1 SA v2 SB hA hB
            cases hcd : (cvEq 8 v1 v2 && Nat.beq SA.next SB.next && Nat.beq SA.nk SB.nk && subTr (dropNs SA.heap (ks.map (S.next + ·))) SB.heap) with
            | false => rw [hcd] at h; cases h
            | true =>
              rw [hcd, cond_true] at h
              cases h
              simp only [Bool.and_eq_true] at hcd
              obtain ⟨⟨⟨c1, c2⟩, c3⟩, c4⟩ := hcd
              have c1 := cvEq_eq _ _ _ c1
              subst c1
              have c2 := beq_of c2
              have c3 := beq_of c3
              have hlow : ∀ b, b ∈ ks.map (S.next + ·) → b < lim := by
                intro b hb
                obtain ⟨k, hk, rfl⟩ := List.mem_map.1 hb
                exact blt_of (List.all_eq_true.1 hb3 k hk)
              rintro q (rfl | rfl)
              · refine ⟨SA, hA, rfl, rfl, fun b o e => ?_⟩
                exact ⟨o, dropNs_get _ _ hlow b o e, .inl rfl⟩
              · exact ⟨SB, hB, c2, c3, fun b o e => (subTr_spec _ _ c4 b o e).imp fun p hp => ⟨hp.1, .inr hp.2⟩⟩
          · cases h
        have nfY : qY ≠ .fail := fun e => by obtain ⟨S2, h1, _⟩ := both qY (.inl rfl); rw [e] at h1; cases h1
        have nfN : qN ≠ .fail := fun e => by obtain ⟨S2, h1, _⟩ := both qN (.inr rfl); rw [e] at h1; cases h1
        refine calls_of_wp_defers hF.get hF.body ?_
        have hat : At P fn.ntmps ρ (layT .empty 0 args) S { tmps := L.toArray ++ Array.replicate (fn.ntmps - L.toArray.size) undef, defers := [] } w := ⟨hr, frame_start hL (ble_of hb1) (ble_of hb2) [], hg⟩
        -- what the end wants
        have fin : ∀ (q : Res) (S2 : St) (ρ' : Ren) (tm' : Tm) (S1 : St) (a' : Act) (w' : World), (S'.next = S2.next ∧ S'.nk = S2.nk ∧ ∀ b o, S'.heap.get b = some o → ∃ p, S2.heap.get b = some p ∧ (o = p ∨ sameO o p = true)) → Stp ρ S w ρ' S1 w' → At P fn.ntmps ρ' tm' S1 a' w' → IdleExt P [] a'.defers → finish rs tm' S1 = .ok v S2 →
            Leaves P fn a'.tmps (fun e w' => ∃ ρ' V, e = .returned V ∧ Stp ρ S w ρ' S' w' ∧ real ρ' v = some V) a'.defers .returning w' := by
          intro q S2 ρ' tm' S1 a' w' h0 h1 h2 h3 h4
          unfold finish at h4
          split at h4
          · rename_i vs hvs
            cases h4
            obtain ⟨V, g1, g2⟩ := results_run h2 hrs hvs
            obtain ⟨m, hm1, hm2⟩ := h3
            rw [List.append_nil] at hm1
            rw [hm1]
            exact leaves_idle g2 ⟨ρ', V, rfl, h1.less h0.1 h0.2.1 h0.2.2, g1⟩ m hm2
          · cases h4
        generalize hPost : bodyPostD P fn (fun e w' => ∃ ρ' V, e = .returned V ∧ Stp ρ S w ρ' S' w' ∧ real ρ' v = some V) = Post
        have toEnd : ∀ (c : Code) (q : Res), (q = qY ∨ q = qN) → ∀ (ρ1 : Ren) (tm2 : Tm) (S2 : St) (a2 : Act) (w2 : World), Stp ρ S w ρ1 S2 w2 → At P fn.ntmps ρ1 tm2 S2 a2 w2 → IdleExt P [] a2.defers → runN rounds (codeCC P fn.ntmps c .fin) call tm2 S2 = q → c.wp P Post a2 w2 := by
          intro c q hq ρ1 tm2 S2 a2 w2 s2 t2 d2 e2
          obtain ⟨SE, k1, k2⟩ := both q hq
          have hne : q ≠ .fail := fun e => by rw [e] at k1; cases k1
          refine wp_mono (code_sound hm hdraw hcall (R := rounds) c .fin q (fun a' w' => ∀ e, (e = Exit.normal ∨ e = .ret) → Post e a' w') Post ρ1 _ S2 _ w2 t2 e2 hne (fun ρ' tm' S1 a' w' h1 h2 h3 h4 e he => ?_) (fun e a' w' he ha => ?_)) (fun e a' w' h' => ?_)
          · have h4 : Res.normal tm' S1 = q := h4
            subst h4
            have := fin .fail SE ρ' tm' S1 a' w' k2 (s2.trans h1) h2 (d2.trans h3) k1
            rw [← hPost]
            rcases he with rfl | rfl <;> exact this
          · cases q with
            | fail => exact ha.elim
            | normal tm' S1 => exact (he ha.1).elim
            | exit i tm' S1 => cases k1
            | ret tm' S1 =>
              obtain ⟨rfl, ρ', h1, h2, h3⟩ := ha
              rw [← hPost]
              exact fin .fail SE ρ' tm' S1 a' w' k2 (s2.trans h1) h2 (d2.trans h3) k1
          · cases e <;> first | exact h' .normal (.inl rfl) | exact h'
        refine wp_seq (wp_mono (code_sound hm hdraw hcall (R := rounds) r0 .fin (.normal tm1 S1) ((Code.seq (.seq (.region id ops true) cnd) rest).wp P Post) Post ρ _ S _ w hat h0 (by simp) (fun ρ1 tm' S1' a1 w1 s1 t1 d1 e1 => ?_) (fun e a' w' he ha => (he ha.1).elim)) (fun e a' w' h' => h'))
        have e1 : Res.normal tm' S1' = .normal tm1 S1 := e1
        cases e1
        refine wp_seq (wp_seq (coin_region hm hcall hF.coin (nx := codeCC P fn.ntmps (.seq cnd rest) .fin) t1 hqY hqN nfY nfN (K := fun a w => cnd.wp P (Exit.then (rest.wp P Post) Post) a w) (fun q hq ρ2 tm2 S2 a2 w2 s2 t2 d2 e2 => ?_)))
        obtain ⟨SE, k1, k2⟩ := both q hq
        have hne : q ≠ .fail := fun e => by rw [e] at k1; cases k1
        refine code_sound hm hdraw hcall (R := rounds) cnd (codeCC P fn.ntmps rest .fin) q (rest.wp P Post) Post ρ2 tm2 S2 a2 w2 t2 e2 hne (fun ρ3 tm3 S3 a3 w3 s3 t3 d3 e3 => toEnd rest q hq ρ3 tm3 S3 a3 w3 ((s1.trans s2).trans s3) t3 ((d1.trans d2).trans d3) e3) (fun e a' w' he ha => ?_)
        cases q with
        | fail => exact ha.elim
        | normal tm' S1 => exact (he ha.1).elim
        | exit i tm' S1 => cases k1
        | ret tm' S1 =>
          obtain ⟨rfl, ρ', h1, h2, h3⟩ := ha
          rw [← hPost]
          exact fin .fail SE ρ' tm' S1 a' w' k2 ((s1.trans s2).trans h1) h2 ((d1.trans d2).trans h3) k1
      | fail => rw [h0] at h; cases h
      | exit i tm1 S1 => rw [h0] at h; cases h
      | ret tm1 S1 => rw [h0] at h; cases h

theorem prims_with {prims : Prims} (h : PrimsOK P prims) {f : FuncId} {p : List CV → St → CRes} (hp : PrimOK P f p) : PrimsOK P (fun g => bif Nat.beq g f then some p else prims g) := by
  intro g q hq
  change (bif Nat.beq g f then some p else prims g) = some q at hq
  cases hb : Nat.beq g f with
  | true =>
    rw [hb, cond_true] at hq
    cases hq
    obtain rfl := Nat.eq_of_beq_eq_true hb
    exact hp
  | false =>
    rw [hb, cond_false] at hq
    exact h g q hq

theorem coin_prim (hm : P.follows .mixedOrders = true) (hn : ∀ (f : FuncId) (fn : Func), P.funcs[f]? = some fn → fn.body.isSome = true → (fn.name == "runtime.NumGoroutine") = false) (hdraw : DrawOK P) {prims : Prims} (hp : PrimsOK P prims)
    {f : FuncId} {fn : Func} {r0 cnd rest : Code} {id : Nat} {ops : Array Oper} {o0 o1 o2 o3 : Oper} (hF : CoinFn P f fn r0 cnd rest id ops o0 o1 o2 o3) (n : Nat) (ks : List Nat) : ∀ k, PrimOK P f (coinPrim P prims n f ks k)
  | 0 => by
    intro args S v S' ρ w L h
    cases h
  | k + 1 => by
    intro args S v S' ρ w L h hr hg hL o a next Q hK
    have ih := coin_prim hm hn hdraw hp hF n ks k
    have hcall := callF_ok hm hdraw hn (prims_with hp ih) n
    have h3 := coin_calls hm hdraw hcall hF (h := h) hr hg hL
    have hc : (callFunc f L.toArray).run P w = .ok (.enter f L.toArray) w := by
      have hnb : fn.body ≠ none := by rw [hF.body]; simp
      have hnn : fn.name ≠ "runtime.NumGoroutine" := by simpa using hn f fn hF.get (by rw [hF.body]; rfl)
      simp [callFunc, hF.get, hnn, hnb]
    rw [hc, Oper.upon_enter]
    refine Calls.mono h3 (fun e' w' he => ?_)
    obtain ⟨ρ', V, rfl, g1, g2⟩ := he
    exact hK ρ' w' V g1 g2
end
end Go.Ev
