/-
  Tries keyed by numbers. The values, objects and operations of the evaluator. The evaluator: statements, regions, calls.
-/
import GoSem.Core.Value
import GoSem.Step
set_option linter.all false

namespace Go.Ev

inductive Tr (α : Type) where
  | leaf
  | node (v : Option α) (l r : Tr α)
  deriving Inhabited

theorem beq_no {n m : Nat} (h : n ≠ m) : Nat.beq n m = false := by
  cases e : Nat.beq n m with
  | false => rfl
  | true => exact absurd (Nat.eq_of_beq_eq_true e) h

theorem beq_yes {n m : Nat} (h : n = m) : Nat.beq n m = true := by subst h; exact Nat.beq_refl n

namespace Tr
variable {α : Type}

noncomputable def get (t : Tr α) : Nat → Option α :=
  Tr.rec (motive := fun _ => Nat → Option α) (fun _ => none)
    (fun v _ _ gl gr n => Bool.rec (Bool.rec (gr (Nat.pred (Nat.div n 2))) (gl (Nat.div n 2)) (Nat.beq (Nat.mod n 2) 1)) v (Nat.beq n 0)) t

noncomputable def set (f : Nat) : Tr α → Nat → Option α → Tr α :=
  Nat.rec (motive := fun _ => Tr α → Nat → Option α → Tr α) (fun t _ _ => t)
    (fun _ ih t n x => Tr.rec (motive := fun _ => Tr α)
      (Bool.rec (Bool.rec (.node none .leaf (ih .leaf (Nat.pred (Nat.div n 2)) x)) (.node none (ih .leaf (Nat.div n 2) x) .leaf) (Nat.beq (Nat.mod n 2) 1)) (.node x .leaf .leaf) (Nat.beq n 0))
      (fun v l r _ _ => Bool.rec (Bool.rec (.node v l (ih r (Nat.pred (Nat.div n 2)) x)) (.node v (ih l (Nat.div n 2) x) r) (Nat.beq (Nat.mod n 2) 1)) (.node x l r) (Nat.beq n 0)) t) f

def top : Tr α → Option α
  | .leaf => none
  | .node v _ _ => v
def lft : Tr α → Tr α
  | .leaf => .leaf
  | .node _ l _ => l
def rgt : Tr α → Tr α
  | .leaf => .leaf
  | .node _ _ r => r

@[simp] theorem get_leaf (n : Nat) : (Tr.leaf : Tr α).get n = none := rfl

theorem get_eq (t : Tr α) (n : Nat) :
    t.get n = if n = 0 then t.top else if n % 2 = 1 then t.lft.get (n / 2) else t.rgt.get (n / 2 - 1) := by
  cases t with
  | leaf => simp [top, lft, rgt]
  | node v l r =>
    show (Bool.rec (motive := fun _ => Option α) (Bool.rec (motive := fun _ => Option α) (r.get (Nat.pred (Nat.div n 2))) (l.get (Nat.div n 2)) (Nat.beq (Nat.mod n 2) 1)) v (Nat.beq n 0)) = _
    simp only [top, lft, rgt]
    by_cases h0 : n = 0
    · rw [beq_yes h0, if_pos h0]
    · rw [beq_no h0, if_neg h0]
      by_cases h1 : n % 2 = 1
      · rw [beq_yes (show Nat.mod n 2 = 1 from h1), if_pos h1]; rfl
      · rw [beq_no (show Nat.mod n 2 ≠ 1 from h1), if_neg h1]; rfl

theorem set_eq (f : Nat) (t : Tr α) (n : Nat) (x : Option α) :
    set (f + 1) t n x = if n = 0 then .node x t.lft t.rgt
      else if n % 2 = 1 then .node t.top (set f t.lft (n / 2) x) t.rgt else .node t.top t.lft (set f t.rgt (n / 2 - 1) x) := by
  cases t with
  | leaf =>
    show (Bool.rec (motive := fun _ => Tr α) (Bool.rec (motive := fun _ => Tr α) (Tr.node none .leaf (set f .leaf (Nat.pred (Nat.div n 2)) x)) (.node none (set f .leaf (Nat.div n 2) x) .leaf) (Nat.beq (Nat.mod n 2) 1)) (.node x .leaf .leaf) (Nat.beq n 0)) = _
    simp only [top, lft, rgt]
    by_cases h0 : n = 0
    · rw [beq_yes h0, if_pos h0]
    · rw [beq_no h0, if_neg h0]
      by_cases h1 : n % 2 = 1
      · rw [beq_yes (show Nat.mod n 2 = 1 from h1), if_pos h1]; rfl
      · rw [beq_no (show Nat.mod n 2 ≠ 1 from h1), if_neg h1]; rfl
  | node v l r =>
    show (Bool.rec (motive := fun _ => Tr α) (Bool.rec (motive := fun _ => Tr α) (Tr.node v l (set f r (Nat.pred (Nat.div n 2)) x)) (.node v (set f l (Nat.div n 2) x) r) (Nat.beq (Nat.mod n 2) 1)) (.node x l r) (Nat.beq n 0)) = _
    simp only [top, lft, rgt]
    by_cases h0 : n = 0
    · rw [beq_yes h0, if_pos h0]
    · rw [beq_no h0, if_neg h0]
      by_cases h1 : n % 2 = 1
      · rw [beq_yes (show Nat.mod n 2 = 1 from h1), if_pos h1]; rfl
      · rw [beq_no (show Nat.mod n 2 ≠ 1 from h1), if_neg h1]; rfl

theorem get_node (v : Option α) (l r : Tr α) (n : Nat) :
    (Tr.node v l r).get n = if n = 0 then v else if n % 2 = 1 then l.get (n / 2) else r.get (n / 2 - 1) := get_eq _ _

theorem get_set_eq : ∀ (f : Nat) (t : Tr α) (n : Nat) (x : Option α), n + 1 < 2 ^ f → (set f t n x).get n = x := by
  intro f
  induction f with
  | zero => intro t n x h; simp at h
  | succ f ih =>
    intro t n x h
    have hp : (2 : Nat) ^ (f + 1) = 2 * 2 ^ f := by rw [Nat.pow_succ]; omega
    rw [hp] at h
    rw [set_eq]
    by_cases h0 : n = 0
    · rw [if_pos h0, get_node, if_pos h0]
    · rw [if_neg h0]
      by_cases h1 : n % 2 = 1
      · rw [if_pos h1, get_node, if_neg h0, if_pos h1]
        exact ih _ _ _ (by omega)
      · rw [if_neg h1, get_node, if_neg h0, if_neg h1]
        exact ih _ _ _ (by omega)

theorem get_set_ne : ∀ (f : Nat) (t : Tr α) (n m : Nat) (x : Option α), n ≠ m → (set f t n x).get m = t.get m := by
  intro f
  induction f with
  | zero => intro t n m x h; rfl
  | succ f ih =>
    intro t n m x h
    rw [set_eq, get_eq t m]
    by_cases h0 : n = 0
    · rw [if_pos h0, get_node]
      by_cases m0 : m = 0
      · omega
      · rw [if_neg m0, if_neg m0]
    · rw [if_neg h0]
      by_cases h1 : n % 2 = 1
      · rw [if_pos h1, get_node]
        by_cases m0 : m = 0
        · rw [if_pos m0, if_pos m0]
        · rw [if_neg m0, if_neg m0]
          by_cases m1 : m % 2 = 1
          · rw [if_pos m1, if_pos m1]; exact ih _ _ _ _ (by omega)
          · rw [if_neg m1, if_neg m1]
      · rw [if_neg h1, get_node]
        by_cases m0 : m = 0
        · rw [if_pos m0, if_pos m0]
        · rw [if_neg m0, if_neg m0]
          by_cases m1 : m % 2 = 1
          · rw [if_pos m1, if_pos m1]
          · rw [if_neg m1, if_neg m1]; exact ih _ _ _ _ (by omega)
end Tr
structure N16 (α : Type) where
  a0 : α
  a1 : α
  a2 : α
  a3 : α
  a4 : α
  a5 : α
  a6 : α
  a7 : α
  a8 : α
  a9 : α
  a10 : α
  a11 : α
  a12 : α
  a13 : α
  a14 : α
  a15 : α

namespace N16
variable {α : Type}
def all (v : α) : N16 α := ⟨v, v, v, v, v, v, v, v, v, v, v, v, v, v, v, v⟩
/-- The field number k. -/
noncomputable def sel (k : Nat) : N16 α → α :=
  match k with
  | 0 => fun x => N16.rec (motive := fun _ => α) (fun a0 _ _ _ _ _ _ _ _ _ _ _ _ _ _ _ => a0) x
  | 1 => fun x => N16.rec (motive := fun _ => α) (fun _ a1 _ _ _ _ _ _ _ _ _ _ _ _ _ _ => a1) x
  | 2 => fun x => N16.rec (motive := fun _ => α) (fun _ _ a2 _ _ _ _ _ _ _ _ _ _ _ _ _ => a2) x
  | 3 => fun x => N16.rec (motive := fun _ => α) (fun _ _ _ a3 _ _ _ _ _ _ _ _ _ _ _ _ => a3) x
  | 4 => fun x => N16.rec (motive := fun _ => α) (fun _ _ _ _ a4 _ _ _ _ _ _ _ _ _ _ _ => a4) x
  | 5 => fun x => N16.rec (motive := fun _ => α) (fun _ _ _ _ _ a5 _ _ _ _ _ _ _ _ _ _ => a5) x
  | 6 => fun x => N16.rec (motive := fun _ => α) (fun _ _ _ _ _ _ a6 _ _ _ _ _ _ _ _ _ => a6) x
  | 7 => fun x => N16.rec (motive := fun _ => α) (fun _ _ _ _ _ _ _ a7 _ _ _ _ _ _ _ _ => a7) x
  | 8 => fun x => N16.rec (motive := fun _ => α) (fun _ _ _ _ _ _ _ _ a8 _ _ _ _ _ _ _ => a8) x
  | 9 => fun x => N16.rec (motive := fun _ => α) (fun _ _ _ _ _ _ _ _ _ a9 _ _ _ _ _ _ => a9) x
  | 10 => fun x => N16.rec (motive := fun _ => α) (fun _ _ _ _ _ _ _ _ _ _ a10 _ _ _ _ _ => a10) x
  | 11 => fun x => N16.rec (motive := fun _ => α) (fun _ _ _ _ _ _ _ _ _ _ _ a11 _ _ _ _ => a11) x
  | 12 => fun x => N16.rec (motive := fun _ => α) (fun _ _ _ _ _ _ _ _ _ _ _ _ a12 _ _ _ => a12) x
  | 13 => fun x => N16.rec (motive := fun _ => α) (fun _ _ _ _ _ _ _ _ _ _ _ _ _ a13 _ _ => a13) x
  | 14 => fun x => N16.rec (motive := fun _ => α) (fun _ _ _ _ _ _ _ _ _ _ _ _ _ _ a14 _ => a14) x
  | _ => fun x => N16.rec (motive := fun _ => α) (fun _ _ _ _ _ _ _ _ _ _ _ _ _ _ _ a15 => a15) x
noncomputable def upd (k : Nat) (v : α) : N16 α → N16 α :=
  match k with
  | 0 => fun x => N16.rec (motive := fun _ => N16 α) (fun _ a1 a2 a3 a4 a5 a6 a7 a8 a9 a10 a11 a12 a13 a14 a15 => N16.mk v a1 a2 a3 a4 a5 a6 a7 a8 a9 a10 a11 a12 a13 a14 a15) x
  | 1 => fun x => N16.rec (motive := fun _ => N16 α) (fun a0 _ a2 a3 a4 a5 a6 a7 a8 a9 a10 a11 a12 a13 a14 a15 => N16.mk a0 v a2 a3 a4 a5 a6 a7 a8 a9 a10 a11 a12 a13 a14 a15) x
  | 2 => fun x => N16.rec (motive := fun _ => N16 α) (fun a0 a1 _ a3 a4 a5 a6 a7 a8 a9 a10 a11 a12 a13 a14 a15 => N16.mk a0 a1 v a3 a4 a5 a6 a7 a8 a9 a10 a11 a12 a13 a14 a15) x
  | 3 => fun x => N16.rec (motive := fun _ => N16 α) (fun a0 a1 a2 _ a4 a5 a6 a7 a8 a9 a10 a11 a12 a13 a14 a15 => N16.mk a0 a1 a2 v a4 a5 a6 a7 a8 a9 a10 a11 a12 a13 a14 a15) x
  | 4 => fun x => N16.rec (motive := fun _ => N16 α) (fun a0 a1 a2 a3 _ a5 a6 a7 a8 a9 a10 a11 a12 a13 a14 a15 => N16.mk a0 a1 a2 a3 v a5 a6 a7 a8 a9 a10 a11 a12 a13 a14 a15) x
  | 5 => fun x => N16.rec (motive := fun _ => N16 α) (fun a0 a1 a2 a3 a4 _ a6 a7 a8 a9 a10 a11 a12 a13 a14 a15 => N16.mk a0 a1 a2 a3 a4 v a6 a7 a8 a9 a10 a11 a12 a13 a14 a15) x
  | 6 => fun x => N16.rec (motive := fun _ => N16 α) (fun a0 a1 a2 a3 a4 a5 _ a7 a8 a9 a10 a11 a12 a13 a14 a15 => N16.mk a0 a1 a2 a3 a4 a5 v a7 a8 a9 a10 a11 a12 a13 a14 a15) x
  | 7 => fun x => N16.rec (motive := fun _ => N16 α) (fun a0 a1 a2 a3 a4 a5 a6 _ a8 a9 a10 a11 a12 a13 a14 a15 => N16.mk a0 a1 a2 a3 a4 a5 a6 v a8 a9 a10 a11 a12 a13 a14 a15) x
  | 8 => fun x => N16.rec (motive := fun _ => N16 α) (fun a0 a1 a2 a3 a4 a5 a6 a7 _ a9 a10 a11 a12 a13 a14 a15 => N16.mk a0 a1 a2 a3 a4 a5 a6 a7 v a9 a10 a11 a12 a13 a14 a15) x
  | 9 => fun x => N16.rec (motive := fun _ => N16 α) (fun a0 a1 a2 a3 a4 a5 a6 a7 a8 _ a10 a11 a12 a13 a14 a15 => N16.mk a0 a1 a2 a3 a4 a5 a6 a7 a8 v a10 a11 a12 a13 a14 a15) x
  | 10 => fun x => N16.rec (motive := fun _ => N16 α) (fun a0 a1 a2 a3 a4 a5 a6 a7 a8 a9 _ a11 a12 a13 a14 a15 => N16.mk a0 a1 a2 a3 a4 a5 a6 a7 a8 a9 v a11 a12 a13 a14 a15) x
  | 11 => fun x => N16.rec (motive := fun _ => N16 α) (fun a0 a1 a2 a3 a4 a5 a6 a7 a8 a9 a10 _ a12 a13 a14 a15 => N16.mk a0 a1 a2 a3 a4 a5 a6 a7 a8 a9 a10 v a12 a13 a14 a15) x
  | 12 => fun x => N16.rec (motive := fun _ => N16 α) (fun a0 a1 a2 a3 a4 a5 a6 a7 a8 a9 a10 a11 _ a13 a14 a15 => N16.mk a0 a1 a2 a3 a4 a5 a6 a7 a8 a9 a10 a11 v a13 a14 a15) x
  | 13 => fun x => N16.rec (motive := fun _ => N16 α) (fun a0 a1 a2 a3 a4 a5 a6 a7 a8 a9 a10 a11 a12 _ a14 a15 => N16.mk a0 a1 a2 a3 a4 a5 a6 a7 a8 a9 a10 a11 a12 v a14 a15) x
  | 14 => fun x => N16.rec (motive := fun _ => N16 α) (fun a0 a1 a2 a3 a4 a5 a6 a7 a8 a9 a10 a11 a12 a13 _ a15 => N16.mk a0 a1 a2 a3 a4 a5 a6 a7 a8 a9 a10 a11 a12 a13 v a15) x
  | _ => fun x => N16.rec (motive := fun _ => N16 α) (fun a0 a1 a2 a3 a4 a5 a6 a7 a8 a9 a10 a11 a12 a13 a14 _ => N16.mk a0 a1 a2 a3 a4 a5 a6 a7 a8 a9 a10 a11 a12 a13 a14 v) x
end N16


theorem N16.sel_upd_eq {α : Type} (k : Nat) (v : α) (x : N16 α) (hk : k < 16) : N16.sel k (N16.upd k v x) = v := by
  cases x
  have hk' : k = 0 ∨ k = 1 ∨ k = 2 ∨ k = 3 ∨ k = 4 ∨ k = 5 ∨ k = 6 ∨ k = 7 ∨ k = 8 ∨ k = 9 ∨ k = 10 ∨ k = 11 ∨ k = 12 ∨ k = 13 ∨ k = 14 ∨ k = 15 := by omega
  rcases hk' with rfl | rfl | rfl | rfl | rfl | rfl | rfl | rfl | rfl | rfl | rfl | rfl | rfl | rfl | rfl | rfl <;> rfl

theorem N16.sel_all {α : Type} (k : Nat) (v : α) (hk : k < 16) : N16.sel k (N16.all v) = v := by
  have hk' : k = 0 ∨ k = 1 ∨ k = 2 ∨ k = 3 ∨ k = 4 ∨ k = 5 ∨ k = 6 ∨ k = 7 ∨ k = 8 ∨ k = 9 ∨ k = 10 ∨ k = 11 ∨ k = 12 ∨ k = 13 ∨ k = 14 ∨ k = 15 := by omega
  rcases hk' with rfl | rfl | rfl | rfl | rfl | rfl | rfl | rfl | rfl | rfl | rfl | rfl | rfl | rfl | rfl | rfl <;> rfl

theorem N16.sel_upd_ne {α : Type} (j k : Nat) (v : α) (x : N16 α) (hj : j < 16) (hk : k < 16) (h : j ≠ k) :
    N16.sel j (N16.upd k v x) = N16.sel j x := by
  cases x
  have hj' : j = 0 ∨ j = 1 ∨ j = 2 ∨ j = 3 ∨ j = 4 ∨ j = 5 ∨ j = 6 ∨ j = 7 ∨ j = 8 ∨ j = 9 ∨ j = 10 ∨ j = 11 ∨ j = 12 ∨ j = 13 ∨ j = 14 ∨ j = 15 := by omega
  have hk' : k = 0 ∨ k = 1 ∨ k = 2 ∨ k = 3 ∨ k = 4 ∨ k = 5 ∨ k = 6 ∨ k = 7 ∨ k = 8 ∨ k = 9 ∨ k = 10 ∨ k = 11 ∨ k = 12 ∨ k = 13 ∨ k = 14 ∨ k = 15 := by omega
  rcases hj' with rfl | rfl | rfl | rfl | rfl | rfl | rfl | rfl | rfl | rfl | rfl | rfl | rfl | rfl | rfl | rfl <;>
    rcases hk' with rfl | rfl | rfl | rfl | rfl | rfl | rfl | rfl | rfl | rfl | rfl | rfl | rfl | rfl | rfl | rfl <;>
    first | rfl | exact absurd rfl h


/-- A function in a box: what lies in it is reckoned once. -/
inductive Box (α : Type) where
  | mk (f : α)

namespace N16
variable {α : Type}
noncomputable def selB (k : Nat) : Box (N16 α → α) :=
  match k with
  | 0 => .mk fun x => N16.rec (motive := fun _ => α) (fun a0 _ _ _ _ _ _ _ _ _ _ _ _ _ _ _ => a0) x
  | 1 => .mk fun x => N16.rec (motive := fun _ => α) (fun _ a1 _ _ _ _ _ _ _ _ _ _ _ _ _ _ => a1) x
  | 2 => .mk fun x => N16.rec (motive := fun _ => α) (fun _ _ a2 _ _ _ _ _ _ _ _ _ _ _ _ _ => a2) x
  | 3 => .mk fun x => N16.rec (motive := fun _ => α) (fun _ _ _ a3 _ _ _ _ _ _ _ _ _ _ _ _ => a3) x
  | 4 => .mk fun x => N16.rec (motive := fun _ => α) (fun _ _ _ _ a4 _ _ _ _ _ _ _ _ _ _ _ => a4) x
  | 5 => .mk fun x => N16.rec (motive := fun _ => α) (fun _ _ _ _ _ a5 _ _ _ _ _ _ _ _ _ _ => a5) x
  | 6 => .mk fun x => N16.rec (motive := fun _ => α) (fun _ _ _ _ _ _ a6 _ _ _ _ _ _ _ _ _ => a6) x
  | 7 => .mk fun x => N16.rec (motive := fun _ => α) (fun _ _ _ _ _ _ _ a7 _ _ _ _ _ _ _ _ => a7) x
  | 8 => .mk fun x => N16.rec (motive := fun _ => α) (fun _ _ _ _ _ _ _ _ a8 _ _ _ _ _ _ _ => a8) x
  | 9 => .mk fun x => N16.rec (motive := fun _ => α) (fun _ _ _ _ _ _ _ _ _ a9 _ _ _ _ _ _ => a9) x
  | 10 => .mk fun x => N16.rec (motive := fun _ => α) (fun _ _ _ _ _ _ _ _ _ _ a10 _ _ _ _ _ => a10) x
  | 11 => .mk fun x => N16.rec (motive := fun _ => α) (fun _ _ _ _ _ _ _ _ _ _ _ a11 _ _ _ _ => a11) x
  | 12 => .mk fun x => N16.rec (motive := fun _ => α) (fun _ _ _ _ _ _ _ _ _ _ _ _ a12 _ _ _ => a12) x
  | 13 => .mk fun x => N16.rec (motive := fun _ => α) (fun _ _ _ _ _ _ _ _ _ _ _ _ _ a13 _ _ => a13) x
  | 14 => .mk fun x => N16.rec (motive := fun _ => α) (fun _ _ _ _ _ _ _ _ _ _ _ _ _ _ a14 _ => a14) x
  | _ => .mk fun x => N16.rec (motive := fun _ => α) (fun _ _ _ _ _ _ _ _ _ _ _ _ _ _ _ a15 => a15) x
noncomputable def updB (k : Nat) : Box (α → N16 α → N16 α) :=
  match k with
  | 0 => .mk fun v x => N16.rec (motive := fun _ => N16 α) (fun _ a1 a2 a3 a4 a5 a6 a7 a8 a9 a10 a11 a12 a13 a14 a15 => N16.mk v a1 a2 a3 a4 a5 a6 a7 a8 a9 a10 a11 a12 a13 a14 a15) x
  | 1 => .mk fun v x => N16.rec (motive := fun _ => N16 α) (fun a0 _ a2 a3 a4 a5 a6 a7 a8 a9 a10 a11 a12 a13 a14 a15 => N16.mk a0 v a2 a3 a4 a5 a6 a7 a8 a9 a10 a11 a12 a13 a14 a15) x
  | 2 => .mk fun v x => N16.rec (motive := fun _ => N16 α) (fun a0 a1 _ a3 a4 a5 a6 a7 a8 a9 a10 a11 a12 a13 a14 a15 => N16.mk a0 a1 v a3 a4 a5 a6 a7 a8 a9 a10 a11 a12 a13 a14 a15) x
  | 3 => .mk fun v x => N16.rec (motive := fun _ => N16 α) (fun a0 a1 a2 _ a4 a5 a6 a7 a8 a9 a10 a11 a12 a13 a14 a15 => N16.mk a0 a1 a2 v a4 a5 a6 a7 a8 a9 a10 a11 a12 a13 a14 a15) x
  | 4 => .mk fun v x => N16.rec (motive := fun _ => N16 α) (fun a0 a1 a2 a3 _ a5 a6 a7 a8 a9 a10 a11 a12 a13 a14 a15 => N16.mk a0 a1 a2 a3 v a5 a6 a7 a8 a9 a10 a11 a12 a13 a14 a15) x
  | 5 => .mk fun v x => N16.rec (motive := fun _ => N16 α) (fun a0 a1 a2 a3 a4 _ a6 a7 a8 a9 a10 a11 a12 a13 a14 a15 => N16.mk a0 a1 a2 a3 a4 v a6 a7 a8 a9 a10 a11 a12 a13 a14 a15) x
  | 6 => .mk fun v x => N16.rec (motive := fun _ => N16 α) (fun a0 a1 a2 a3 a4 a5 _ a7 a8 a9 a10 a11 a12 a13 a14 a15 => N16.mk a0 a1 a2 a3 a4 a5 v a7 a8 a9 a10 a11 a12 a13 a14 a15) x
  | 7 => .mk fun v x => N16.rec (motive := fun _ => N16 α) (fun a0 a1 a2 a3 a4 a5 a6 _ a8 a9 a10 a11 a12 a13 a14 a15 => N16.mk a0 a1 a2 a3 a4 a5 a6 v a8 a9 a10 a11 a12 a13 a14 a15) x
  | 8 => .mk fun v x => N16.rec (motive := fun _ => N16 α) (fun a0 a1 a2 a3 a4 a5 a6 a7 _ a9 a10 a11 a12 a13 a14 a15 => N16.mk a0 a1 a2 a3 a4 a5 a6 a7 v a9 a10 a11 a12 a13 a14 a15) x
  | 9 => .mk fun v x => N16.rec (motive := fun _ => N16 α) (fun a0 a1 a2 a3 a4 a5 a6 a7 a8 _ a10 a11 a12 a13 a14 a15 => N16.mk a0 a1 a2 a3 a4 a5 a6 a7 a8 v a10 a11 a12 a13 a14 a15) x
  | 10 => .mk fun v x => N16.rec (motive := fun _ => N16 α) (fun a0 a1 a2 a3 a4 a5 a6 a7 a8 a9 _ a11 a12 a13 a14 a15 => N16.mk a0 a1 a2 a3 a4 a5 a6 a7 a8 a9 v a11 a12 a13 a14 a15) x
  | 11 => .mk fun v x => N16.rec (motive := fun _ => N16 α) (fun a0 a1 a2 a3 a4 a5 a6 a7 a8 a9 a10 _ a12 a13 a14 a15 => N16.mk a0 a1 a2 a3 a4 a5 a6 a7 a8 a9 a10 v a12 a13 a14 a15) x
  | 12 => .mk fun v x => N16.rec (motive := fun _ => N16 α) (fun a0 a1 a2 a3 a4 a5 a6 a7 a8 a9 a10 a11 _ a13 a14 a15 => N16.mk a0 a1 a2 a3 a4 a5 a6 a7 a8 a9 a10 a11 v a13 a14 a15) x
  | 13 => .mk fun v x => N16.rec (motive := fun _ => N16 α) (fun a0 a1 a2 a3 a4 a5 a6 a7 a8 a9 a10 a11 a12 _ a14 a15 => N16.mk a0 a1 a2 a3 a4 a5 a6 a7 a8 a9 a10 a11 a12 v a14 a15) x
  | 14 => .mk fun v x => N16.rec (motive := fun _ => N16 α) (fun a0 a1 a2 a3 a4 a5 a6 a7 a8 a9 a10 a11 a12 a13 _ a15 => N16.mk a0 a1 a2 a3 a4 a5 a6 a7 a8 a9 a10 a11 a12 a13 v a15) x
  | _ => .mk fun v x => N16.rec (motive := fun _ => N16 α) (fun a0 a1 a2 a3 a4 a5 a6 a7 a8 a9 a10 a11 a12 a13 a14 _ => N16.mk a0 a1 a2 a3 a4 a5 a6 a7 a8 a9 a10 a11 a12 a13 a14 v) x
theorem selB_eq (k : Nat) (hk : k < 16) : (selB k : Box (N16 α → α)) = .mk (sel k) := by
  have hk' : k = 0 ∨ k = 1 ∨ k = 2 ∨ k = 3 ∨ k = 4 ∨ k = 5 ∨ k = 6 ∨ k = 7 ∨ k = 8 ∨ k = 9 ∨ k = 10 ∨ k = 11 ∨ k = 12 ∨ k = 13 ∨ k = 14 ∨ k = 15 := by omega
  rcases hk' with rfl | rfl | rfl | rfl | rfl | rfl | rfl | rfl | rfl | rfl | rfl | rfl | rfl | rfl | rfl | rfl <;> rfl
theorem updB_eq (k : Nat) (hk : k < 16) : (updB k : Box (α → N16 α → N16 α)) = .mk (upd k) := by
  have hk' : k = 0 ∨ k = 1 ∨ k = 2 ∨ k = 3 ∨ k = 4 ∨ k = 5 ∨ k = 6 ∨ k = 7 ∨ k = 8 ∨ k = 9 ∨ k = 10 ∨ k = 11 ∨ k = 12 ∨ k = 13 ∨ k = 14 ∨ k = 15 := by omega
  rcases hk' with rfl | rfl | rfl | rfl | rfl | rfl | rfl | rfl | rfl | rfl | rfl | rfl | rfl | rfl | rfl | rfl <;> rfl
end N16

end Go.Ev

namespace Go.Ev
noncomputable section

inductive Cap where
  | ex (n : Nat)
  | sy (id base : Nat)
  deriving Inhabited

inductive CV where
  | bool (b : Bool)
  | int (k : IntKind) (n : Int)
  | str (s : List Nat)
  | nilp
  | ptr (b o : Nat)
  | nils
  | slice (b o len : Nat) (c : Cap)
  | nilm
  | map (r : Nat)
  | func (f : FuncId) (fi ca : List CV)
  | nilf
  | iface (t : TypeId) (v : CV)
  | nili
  | agg (l : List CV)
  | tup (l : List CV)
  | opq (i : Nat)          -- a string or a whole number of which nothing is known
  | tail (b o sh id : Nat) -- an empty slice at the end of what is known of a row: shifted by sh where the capacity named id leaves room
  | ustr (c lo hi : Nat)   -- a string that is known by its class (two of one class are one string, two of two classes are two) and by its length's bounds
  | ulen (c lo hi : Nat)   -- that string's length
  deriving Inhabited

def CV.cells : CV → List CV
  | .agg l => l
  | v => [v]

inductive CObj where
  | row (cells : Tr CV) (sh hi : Nat) (wr : Bool) (id sz ty : Nat)  -- behind the cells lie sz cells for each element that the capacity named id has beyond its least value; ty: one more than the type of the row's elements, or 0
  | map (es : List (CV × CV × Nat)) (clock : Nat)
  | siter (s : List Nat) (pos : Nat)
  | mapU (es : List (CV × CV × Nat))                                -- a map whose order, stamps and clock are not known
  | miter (m : Option Nat) (since : Nat) (seen : List Nat) (last : Nat)
  | mapQ (hs : List (CV × Option CV))                               -- a map from strings that is only read: what it has for these keys is known, and nothing else
  deriving Inhabited

/-- May it be written? -/
def CObj.wr : CObj → Bool
  | .row _ _ _ w _ _ _ => w
  | .mapQ _ => false
  | _ => true

structure St where
  heap : Tr CObj
  next : Nat
  nk : Nat
  deriving Inhabited

def big : Nat := 48      -- fuel of the tries
def lim : Nat := 140737488355328   -- 2 ^ 47

/-- The constants of the program's text. -/
def ofV : Nat → Value → Option CV
  | 0, _ => none
  | n + 1, v => match v with
    | .bool b => some (.bool b)
    | .int k m => some (.int k m)
    | .string s => some (.str (s.data.toList.map UInt8.toNat))
    | .pointer none => some .nilp
    | .slice none 0 0 => some .nils
    | .map none => some .nilm
    | .nilFunc => some .nilf
    | .nilIface => some .nili
    | .func (.func f) fi ca => if fi.isEmpty && ca.isEmpty then some (.func f [] []) else none
    | .agg cs => (cs.toList.mapM (ofV n)).map .agg
    | .tuple cs => (cs.toList.mapM (ofV n)).map .tup
    | _ => none

def depth0 : Nat := 8

/-- The temporaries of a frame. -/
abbrev Tm := N16 (N16 (Option CV))

def Tm.empty : Tm := N16.all (N16.all none)

/-- An operand, made ready: a temporary, or a constant. -/
inductive Opd where
  | tmp (f : Tm → N16 (Option CV)) (g : N16 (Option CV) → Option CV)
  | con (v : CV)
  | bad

def getT (t : Nat) (tm : Tm) : Option CV := N16.sel (t % 16) (N16.sel (t / 16) tm)
def setT (t : Nat) (v : CV) (tm : Tm) : Tm := N16.upd (t / 16) (N16.upd (t % 16) (some v) (N16.sel (t / 16) tm)) tm

def tmpO (t : Nat) : Opd := bif Nat.blt t 256 then (match N16.selB (t / 16), N16.selB (t % 16) with
  | .mk f, .mk g => .tmp f g) else .bad

/-- Where a value goes. -/
inductive Dst where
  | none
  | at (f : Tm → N16 (Option CV)) (g : Option CV → N16 (Option CV) → N16 (Option CV)) (h : N16 (Option CV) → Tm → Tm)

def dstOf (nt : Nat) : Option Tmp → Option Dst
  | .none => some .none
  | some d => bif Nat.blt d nt && Nat.blt d 256 then (match N16.selB (d / 16), N16.updB (d % 16), N16.updB (d / 16) with
    | .mk f, .mk g, .mk h => some (.at f g h)) else Option.none

def putD (x : Dst) (v : CV) (tm : Tm) : Tm :=
  Dst.rec (motive := fun _ => Tm) tm (fun f g h => h (g (some v) (f tm)) tm) x

def opd (P : Program) : Operand → Opd
  | .tmp t => tmpO t
  | .const v => match ofV depth0 v with
    | some v => .con v
    | none => .bad
  | .global g => bif Nat.blt g P.globals.size then .con (.ptr g 0) else .bad
  | .func f => .con (.func f [] [])

def Opd.eval (x : Opd) (tm : Tm) : Option CV :=
  Opd.rec (motive := fun _ => Option CV) (fun f g => g (f tm)) (fun v => some v) none x

def opds (P : Program) : List Operand → List Opd
  | [] => []
  | x :: xs => opd P x :: opds P xs

def evalL (l : List Opd) (tm : Tm) : Option (List CV) :=
  List.rec (motive := fun _ => Option (List CV)) (some [])
    (fun x _ ih => Option.rec (motive := fun _ => Option (List CV)) none (fun v => Option.rec (motive := fun _ => Option (List CV)) none (fun vs => some (v :: vs)) ih) (x.eval tm)) l

/-- Types. -/
structure TyE where
  desc : TypeDesc
  size : Nat
  bytes : Nat
  zero : Option Value

def tyOf (P : Program) (t : TypeId) : Option TyE :=
  match P.info? t with
  | none => none
  | some i => match P.underlying t with
    | none => none
    | some d => some { desc := d, size := i.size, bytes := i.bytes, zero := i.zero }

def isAggD : TypeDesc → Bool
  | .struct _ | .array _ _ => true
  | _ => false

def zeroOf (P : Program) (t : TypeId) : Option CV :=
  match tyOf P t with
  | none => none
  | some i => match i.zero with
    | none => none
    | some v => ofV depth0 v

/-- Go on with a trie that is reckoned, at its root. -/
noncomputable def forced1 (t : Tr CV) (k : Tr CV → Tr CV) : Tr CV :=
  Tr.rec (motive := fun _ => Tr CV) (k .leaf) (fun v l r _ _ => k (.node v l r)) t
/-- .. and at its root's children. -/
noncomputable def forced2 (t : Tr CV) (k : Tr CV → Tr CV) : Tr CV :=
  Tr.rec (motive := fun _ => Tr CV) (k .leaf) (fun v l r _ _ => forced1 l fun l => forced1 r fun r => k (.node v l r)) t

/-- A list laid into a trie from an index on. -/
def lay (t : Tr CV) (i : Nat) : List CV → Tr CV
  | [] => t
  | v :: vs => forced2 (t.set big i (some v)) fun t => lay t (i + 1) vs

theorem forced1_eq (t : Tr CV) (k : Tr CV → Tr CV) : forced1 t k = k t := by cases t <;> rfl
theorem forced2_eq (t : Tr CV) (k : Tr CV → Tr CV) : forced2 t k = k t := by
  cases t with
  | leaf => rfl
  | node v l r =>
    show forced1 l (fun l => forced1 r fun r => k (.node v l r)) = _
    rw [forced1_eq, forced1_eq]

def getN (t : Tr CV) : Nat → Nat → Option (List CV)
  | _, 0 => some []
  | i, n + 1 => match t.get i with
    | none => none
    | some v => match getN t (i + 1) n with
      | none => none
      | some vs => some (v :: vs)

def alloc (S : St) (o : CObj) : Option (Nat × St) :=
  match S with
  | ⟨h, n, k⟩ => bif Nat.blt n lim then some (n, ⟨h.set big n (some o), n + 1, k⟩) else none

def rowOfT (ty : Nat) (cells : List CV) : CObj := .row (lay .leaf 0 cells) 0 cells.length true 0 0 ty
def rowOf (cells : List CV) : CObj := rowOfT 0 cells
def rowCap (cells : List CV) (id sz ty : Nat) : CObj := .row (lay .leaf 0 cells) 0 cells.length true id sz ty

/-- Cells from an address on. -/
def loadN (S : St) (b o n : Nat) : Option (List CV) :=
  match S.heap.get b with
  | some (.row c sh hi _ _ _ _) => bif Nat.ble (o + n) hi then getN c (o + sh) n else none
  | _ => none

def load1 (S : St) (b o : Nat) : Option CV :=
  match S.heap.get b with
  | some (.row c sh hi _ _ _ _) => bif Nat.blt o hi then c.get (o + sh) else none
  | _ => none

def storeN (S : St) (b o : Nat) (vs : List CV) : Option St :=
  match S with
  | ⟨h, n, k⟩ => match h.get b with
    | some (.row c sh hi true id sz ty) =>
      bif Nat.ble (o + vs.length) hi && Nat.blt (hi + sh) lim && Nat.blt b lim then some ⟨h.set big b (some (.row (lay c (o + sh) vs) sh hi true id sz ty)), n, k⟩ else none
    | _ => none

/-- A load, its type made ready: how many cells; an aggregate? -/
def loadC (size : Nat) (agg : Bool) (a : CV) (S : St) : Option CV :=
  match a with
  | .ptr b o => bif agg then (match loadN S b o size with
      | some l => some (.agg l)
      | none => none) else load1 S b o
  | _ => none

/-- No aggregate among them. -/
def plainCells : List CV → Bool
  | [] => true
  | .agg _ :: _ => false
  | .tup _ :: _ => false
  | _ :: l => plainCells l

def storeC (size : Nat) (a v : CV) (S : St) : Option St :=
  match a with
  | .ptr b o => bif Nat.beq v.cells.length size && plainCells v.cells then storeN S b o v.cells else none
  | _ => none

def partC (size : Nat) (agg : Bool) (cs : List CV) (off : Nat) : Option CV :=
  bif agg then some (.agg ((cs.drop off).take size)) else cs[off]?

def setCells : List CV → Nat → List CV → List CV
  | cs, _, [] => cs
  | cs, i, v :: vs => setCells (cs.set i v) (i + 1) vs

/-- The parts of a composite: offset, size, value. -/
def fillC : List CV → List (Nat × Nat × CV) → Option (List CV)
  | cells, [] => some cells
  | cells, (off, size, v) :: rest =>
    bif Nat.beq v.cells.length size && Nat.ble (off + v.cells.length) cells.length then fillC (setCells cells off v.cells) rest else none

def evalPs : List (Nat × Nat × Opd) → Tm → Option (List (Nat × Nat × CV))
  | [], _ => some []
  | (i, n, x) :: xs, tm => match x.eval tm with
    | none => none
    | some v => match evalPs xs tm with
      | none => none
      | some vs => some ((i, n, v) :: vs)

def placed (P : Program) (place : Nat → Option (Nat × Nat)) : List (Nat × Operand) → Option (List (Nat × Nat × Opd))
  | [] => some []
  | (i, x) :: xs => match place i, placed P place xs with
    | some (o, n), some l => some ((o, n, opd P x) :: l)
    | _, _ => none

def places (P : Program) : List Field → Option (List (Nat × Nat))
  | [] => some []
  | f :: fs => match tyOf P f.type, places P fs with
    | some i, some l => some ((f.offset, i.size) :: l)
    | _, _ => none

def rep (zs : List CV) : Nat → List CV
  | 0 => []
  | n + 1 => zs ++ rep zs n

def capSub : Cap → Nat → Option Cap
  | .ex n, l => bif Nat.ble l n then some (.ex (n - l)) else none
  | .sy id base, l => bif Nat.blt l base then some (.sy id (base - l)) else none
def capLe (n : Nat) : Cap → Bool
  | .ex m => Nat.ble n m
  | .sy _ base => Nat.ble n base
def capIs (l : Nat) : Cap → Bool
  | .ex n => Nat.beq n l
  | .sy _ _ => false

def asNat : CV → Option Nat
  | .int _ (.ofNat n) => some n
  | _ => none

/-- s[lo:hi], s[lo:hi:mx] on a string. -/
def sliceStr (s : List Nat) (lo : Nat) (hi : Option Nat) : Option CV :=
  bif Nat.ble lo (hi.getD s.length) && Nat.ble (hi.getD s.length) s.length then some (.str ((s.drop lo).take (hi.getD s.length - lo))) else none

def tailSl (size b o lo : Nat) : Cap → Option CV
  | .sy id base => bif Nat.beq lo base then some (.tail b o (lo * size) id) else none
  | .ex _ => none
def sliceSl (size b o len : Nat) (c : Cap) (lo : Nat) (hi mx : Option Nat) : Option CV :=
  bif Nat.ble lo (hi.getD len) then
    match mx with
    | none => bif capLe (hi.getD len) c then
        (match capSub c lo with
         | some c' => some (.slice b (bif capIs lo c then o else o + lo * size) (hi.getD len - lo) c')
         | none => tailSl size b o lo c) else none
    | some m => bif hi.isSome && Nat.ble (hi.getD len) m && capLe m c then some (.slice b (bif Nat.beq m lo then o else o + lo * size) (hi.getD len - lo) (.ex (m - lo))) else none
  else none

def isZero : Option Nat → Bool
  | none => true
  | some n => Nat.beq n 0

/-- append: the new cells, n elements, one at least. -/
def appendC (S : St) (size bytes e : Nat) (s : CV) (n : Nat) (new : List CV) : Option (CV × St) :=
  match s with
  | .nils => (match S with
    | ⟨h, nx, k⟩ => bif Nat.blt nx lim && Nat.blt new.length lim then some (.slice nx 0 n (.sy k n), ⟨h.set big nx (some (rowCap new k size (e + 1))), nx + 1, k + 1⟩) else none)
  | .slice b o len c =>
    bif capLe (len + n) c then
      (bif plainCells new then (match storeN S b (o + len * size) new with
       | some S' => some (.slice b o (len + n) c, S')
       | none => none) else none)
    else (match S with
      | ⟨h, nx, k⟩ => match h.get b with
        | some (.row cs sh hi wr id sz ty) =>
          bif Nat.ble (o + len * size) hi && Nat.blt (sh + o + (len + n) * size) lim && Nat.blt b lim && Nat.blt nx lim && Nat.blt ((len + n) * bytes) lim && Nat.blt (len + n) lim then
            (match c with
             | .ex _ => some (.slice nx 0 (len + n) (.sy k (len + n)),
                 ⟨h.set big nx (some (.row (lay cs (sh + o + len * size) new) (sh + o) ((len + n) * size) true k size (e + 1))), nx + 1, k + 1⟩)
             | .sy id' base => bif wr && Nat.beq id id' && Nat.beq sz size && Nat.beq (o + base * size) hi && Nat.ble len base && plainCells new then
                 some (.slice nx 0 (len + n) (.sy k (len + n)),
                   ⟨(h.set big b none).set big nx (some (.row (lay cs (sh + o + len * size) new) (sh + o) ((len + n) * size) true k size (bif Nat.beq ty (e + 1) then ty else 0))), nx + 1, k + 1⟩) else none)
          else none
        | _ => none)
  | _ => none

def lenOf : CV → Option Nat
  | .nils => some 0
  | .slice _ _ n _ => some n
  | .str s => some s.length
  | _ => none

def bytesOf : List Nat → List CV
  | [] => []
  | b :: l => .int .u8 b :: bytesOf l

def allBytes : List Nat → Bool
  | [] => true
  | b :: l => Nat.blt b 256 && allBytes l

def firstCells (S : St) (size n : Nat) : CV → Option (List CV)
  | .nils => some []
  | .slice b o _ _ => bif Nat.beq (n * size) 0 then some [] else loadN S b o (n * size)
  | .str s => bif allBytes (s.take n) then some (bytesOf (s.take n)) else none
  | _ => none

/-- Are two texts the same? -/
def strEq : List Nat → List Nat → Option Bool
  | [], [] => some true
  | a :: x, b :: y => bif Nat.beq a b then strEq x y else (bif Nat.blt a 256 && Nat.blt b 256 then some false else none)
  | [], _ :: _ => some false
  | _ :: _, [] => some false

def intEq : Int → Int → Bool
  | .ofNat a, .ofNat b => Nat.beq a b
  | .negSucc a, .negSucc b => Nat.beq a b
  | _, _ => false

def intLt : Int → Int → Bool
  | .ofNat a, .ofNat b => Nat.blt a b
  | .negSucc a, .negSucc b => Nat.blt b a
  | .negSucc _, .ofNat _ => true
  | .ofNat _, .negSucc _ => false

/-- How values of a type are compared. -/
inductive EqT where
  | bool | int | str | ptr | slice | map | func
  | parts (l : List (Nat × Nat × Bool × EqT))     -- offset; size; an aggregate?; the part
  | no
  deriving Inhabited

/-- What a map's keys are. -/
inductive KeyT where
  | one (d : TypeDesc)
  | parts (l : List (Nat × Nat × Bool × EqT))
  | no

/-- Plain keys. -/
def keyEqC : CV → CV → Option Bool
  | .int k a, .int k' b => if k = k' then some (intEq a b) else none
  | .str a, .str b => strEq a b
  | .bool a, .bool b => some (a == b)
  | _, _ => none

def keyEqL : List CV → List CV → Option Bool
  | [], [] => some true
  | x :: xs, y :: ys => (match keyEqC x y with
    | some true => keyEqL xs ys
    | some false => some false
    | none => none)
  | _, _ => none

def keyEq : CV → CV → Option Bool
  | .agg xs, .agg ys => bif Nat.beq xs.length ys.length then keyEqL xs ys else none
  | x, y => keyEqC x y

def plainCell : EqT → CV → Bool
  | .int, .int _ _ => true
  | .str, .str _ => true
  | .bool, .bool _ => true
  | _, _ => false

def plainParts : Nat → List (Nat × Nat × Bool × EqT) → List CV → Bool
  | _, [], [] => true
  | i, (off, size, agg, e) :: l, x :: xs => Nat.beq off i && Nat.beq size 1 && !agg && plainCell e x && plainParts (i + 1) l xs
  | _, _, _ => false

def plainOne : TypeDesc → CV → Bool
  | .int _, .int _ _ => true
  | .string, .str _ => true
  | .bool, .bool _ => true
  | _, _ => false

def plainKey : KeyT → CV → Bool
  | .one d, k => plainOne d k
  | .parts l, .agg xs => plainParts 0 l xs
  | _, _ => false

def find (k : CV) : List (CV × CV × Nat) → Option (Option CV)
  | [] => some none
  | (k', v, _) :: es => match keyEq k k' with
    | some true => some (some v)
    | some false => find k es
    | none => none

def upd (k v : CV) : List (CV × CV × Nat) → List (CV × CV × Nat)
  | [] => []
  | (k', v', n) :: es => match keyEq k k' with
    | some true => (k, v, n) :: es
    | _ => (k', v', n) :: upd k v es

def del (k : CV) : List (CV × CV × Nat) → List (CV × CV × Nat)
  | [] => []
  | (k', v', n) :: es => match keyEq k k' with
    | some true => es
    | _ => (k', v', n) :: del k es

/-- Is this surely the same key? -/
def sameQ : CV → CV → Bool
  | .ustr a _ _, .ustr b _ _ => Nat.beq a b
  | .opq a, .opq b => Nat.beq a b
  | _, _ => false

/-- What a map that is only read has for a key. -/
def hitQ (k : CV) : List (CV × Option CV) → Option (Option CV)
  | [] => none
  | (k', v) :: l => bif sameQ k k' then some v else hitQ k l

def lookQ (kd : KeyT) (m k : CV) (S : St) : Option (Option CV) :=
  match m with
  | .map r => (match S.heap.get r with
    | some (.mapQ hs) => (match kd with
      | .one .string => hitQ k hs
      | _ => none)
    | _ => none)
  | _ => none

def lookupC (kd : KeyT) (z : CV) (ok : Bool) (m k : CV) (S : St) : Option CV :=
  match lookQ kd m k S with
  | some (some v) => some (bif ok then .tup [v, .bool true] else v)
  | some none => some (bif ok then .tup [z, .bool false] else z)
  | none =>
  bif plainKey kd k then
    match (match m with
      | .nilm => some none
      | .map r => (match S.heap.get r with
        | some (.map es _) => find k es
        | some (.mapU es) => find k es
        | _ => none)
      | _ => none : Option (Option CV)) with
    | some (some v) => some (bif ok then .tup [v, .bool true] else v)
    | some none => some (bif ok then .tup [z, .bool false] else z)
    | none => none
  else none

def mapUpdateC (kd : KeyT) (m k v : CV) (S : St) : Option St :=
  bif plainKey kd k then
    match m, S with
    | .map r, ⟨h, nx, nk⟩ => (match h.get r with
      | some (.map es clock) => (match find k es with
        | some (some _) => bif Nat.blt r lim then some ⟨h.set big r (some (.map (upd k v es) clock)), nx, nk⟩ else none
        | some none => bif Nat.blt r lim then some ⟨h.set big r (some (.map (es ++ [(k, v, clock)]) (clock + 1))), nx, nk⟩ else none
        | none => none)
      | _ => none)
    | _, _ => none
  else none

def strLt : List Nat → List Nat → Option Bool
  | _, [] => some false
  | [], _ :: _ => some true
  | a :: x, b :: y => bif Nat.blt a 256 && Nat.blt b 256 then (bif Nat.blt a b then some true else bif Nat.beq a b then strLt x y else some false) else none

/-- The least number that does not fit. -/
def fits : IntKind → Nat
  | .i8 => 128 | .i16 => 32768 | .i32 => 2147483648 | .i64 => 9223372036854775808
  | .u8 => 256 | .u16 => 65536 | .u32 => 4294967296 | .u64 => 18446744073709551616
def wr (k : IntKind) (n : Int) : Int :=
  match n with
  | .ofNat m => bif Nat.blt m (fits k) then .ofNat m else k.wrap n
  | .negSucc m => bif k.signed && Nat.blt m (fits k) then .negSucc m else k.wrap n

/-- A whole number, reckoned. -/
def litInt (k : IntKind) (n : Int) : Option CV :=
  Int.rec (motive := fun _ => Option CV) (fun m => Nat.rec (motive := fun _ => Option CV) (some (.int k (.ofNat 0))) (fun p _ => some (.int k (.ofNat (Nat.succ p)))) m)
    (fun m => Nat.rec (motive := fun _ => Option CV) (some (.int k (.negSucc 0))) (fun p _ => some (.int k (.negSucc (Nat.succ p)))) m) n

def binInt (op : BinOp) (k : IntKind) (a b : Int) : Option CV :=
  match op with
  | .add => litInt k (wr k (Int.add a b))
  | .sub => litInt k (wr k (Int.sub a b))
  | .mul => litInt k (wr k (Int.mul a b))
  | .quo => bif intEq b 0 then none else some (.int k (wr k (a.tdiv b)))
  | .rem => bif intEq b 0 then none else some (.int k (a.tmod b))
  | .eql => some (.bool (intEq a b))
  | .neq => some (.bool (!intEq a b))
  | .lss => some (.bool (intLt a b))
  | .leq => some (.bool (!intLt b a))
  | .gtr => some (.bool (intLt b a))
  | .geq => some (.bool (!intLt a b))
  | .and => some (.int k (k.wrap (BitVec.ofInt k.bits a &&& BitVec.ofInt k.bits b).toNat))
  | .or => some (.int k (k.wrap (BitVec.ofInt k.bits a ||| BitVec.ofInt k.bits b).toNat))
  | .xor => some (.int k (k.wrap (BitVec.ofInt k.bits a ^^^ BitVec.ofInt k.bits b).toNat))
  | .andNot => some (.int k (k.wrap (BitVec.ofInt k.bits a &&& ~~~ BitVec.ofInt k.bits b).toNat))
  | _ => none

def notO : Option Bool → Option CV
  | some b => some (.bool (!b))
  | none => none
def yesO : Option Bool → Option CV
  | some b => some (.bool b)
  | none => none

def binStr (op : BinOp) (a b : List Nat) : Option CV :=
  match op with
  | .add => bif Nat.blt (a.length + b.length) lim then some (.str (a ++ b)) else none
  | .eql => yesO (strEq a b)
  | .neq => notO (strEq a b)
  | .lss => yesO (strLt a b)
  | .gtr => yesO (strLt b a)
  | .leq => notO (strLt b a)
  | .geq => notO (strLt a b)
  | _ => none

mutual
def eqAt : EqT → CV → CV → Option Bool
  | .bool, .bool a, .bool b => some (a == b)
  | .int, .int k a, .int k' b => if k = k' then some (intEq a b) else none
  | .str, .str a, .str b => strEq a b
  | .str, .ustr c _ _, .ustr c' _ _ => some (Nat.beq c c')
  | .ptr, .nilp, .nilp => some true
  | .ptr, .nilp, .ptr _ _ => some false
  | .ptr, .ptr b o, .ptr b' o' => bif Nat.beq b b' && Nat.beq o o' then some true else none
  | .ptr, .ptr _ _, .nilp => some false
  | .slice, .nils, .nils => some true
  | .slice, .nils, .slice _ _ _ _ => some false
  | .slice, .slice _ _ _ _, .nils => some false
  | .map, .nilm, .nilm => some true
  | .map, .nilm, .map _ => some false
  | .map, .map _, .nilm => some false
  | .func, .nilf, .nilf => some true
  | .func, .nilf, .func _ _ _ => some false
  | .func, .func _ _ _, .nilf => some false
  | .parts l, .agg xs, .agg ys => eqParts l xs ys
  | _, _, _ => none
def eqParts : List (Nat × Nat × Bool × EqT) → List CV → List CV → Option Bool
  | [], _, _ => some true
  | (off, size, agg, e) :: l, xs, ys =>
    match partC size agg xs off, partC size agg ys off with
    | some a, some b => (match eqAt e a b with
      | some true => eqParts l xs ys
      | some false => some false
      | none => none)
    | _, _ => none
end

/-- The way of comparing at a type. -/
def eqTy (P : Program) : Nat → TypeId → EqT
  | 0, _ => .no
  | d + 1, t =>
    match tyOf P t with
    | none => .no
    | some i =>
      match i.desc with
      | .bool => .bool
      | .int _ => .int
      | .string => .str
      | .pointer q => (match tyOf P q with
        | some _ => .ptr
        | none => .no)
      | .slice _ => .slice
      | .map _ _ => .map
      | .func _ _ _ => .func
      | .struct fields =>
        if P.stoodInHeld t then .no else
        .parts ((fields.toList.filter (·.name ≠ "_")).map fun f => (f.offset, (match tyOf P f.type with | some j => j.size | none => 0), (match tyOf P f.type with | some j => isAggD j.desc | none => false), eqTy P d f.type))
      | .array n q => (match tyOf P q with
        | some j => .parts ((List.range n).map fun i => (i * j.size, j.size, isAggD j.desc, eqTy P d q))
        | none => .no)
      | _ => .no

/-- What the keys of a map are. -/
def keyTy (P : Program) (t : TypeId) (d : TypeDesc) : KeyT :=
  match d with
  | .struct _ => (match eqTy P 8 t with
    | .parts l => .parts l
    | _ => .no)
  | .array _ _ => (match eqTy P 8 t with
    | .parts l => .parts l
    | _ => .no)
  | d => .one d

/-- On a whole number. -/
def onInt (v : CV) (f : IntKind → Int → Option CV) : Option CV :=
  CV.casesOn (motive_1 := fun _ => Option CV) v (fun _ => none) (fun k n => f k n) (fun _ => none) none (fun _ _ => none) none (fun _ _ _ _ => none) none (fun _ => none) (fun _ _ _ => none) none (fun _ _ => none) none (fun _ => none) (fun _ => none) (fun _ => none) (fun _ _ _ _ => none) (fun _ _ _ => none) (fun _ _ _ => none)

def kindNo (k : IntKind) : Nat :=
  IntKind.rec (motive := fun _ => Nat) 0 1 2 3 4 5 6 7 k

/-- On a whole number, or on an unknown string's length. -/
def onIntU (v : CV) (f : IntKind → Int → Option CV) (u : Nat → Nat → Option CV) : Option CV :=
  CV.casesOn (motive_1 := fun _ => Option CV) v (fun _ => none) (fun k n => f k n) (fun _ => none) none (fun _ _ => none) none (fun _ _ _ _ => none) none (fun _ => none) (fun _ _ _ => none) none (fun _ _ => none) none (fun _ => none) (fun _ => none) (fun _ => none) (fun _ _ _ _ => none) (fun _ _ _ => none) (fun _ lo hi => u lo hi)

/-- An unknown string's length against a number. -/
def ulenCmp (op : BinOp) (lo hi : Nat) (y : CV) : Option CV :=
  match op, y with
  | .gtr, .int .i64 (.ofNat k) => bif Nat.ble hi k then some (.bool false) else bif Nat.blt k lo then some (.bool true) else none
  | _, _ => none

def both (op : BinOp) (f : IntKind → Int → Int → Option CV) (x y : CV) : Option CV :=
  onIntU x (fun k a => onInt y fun k' b => Bool.rec (motive := fun _ => Option CV) none (f k a b) (Nat.beq (kindNo k) (kindNo k'))) fun lo hi => ulenCmp op lo hi y

def isEql : BinOp → Bool
  | .eql | .neq => true
  | _ => false

def binEq (op : BinOp) (e : EqT) (x y : CV) : Option CV :=
  match op with
  | .eql => yesO (eqAt e x y)
  | .neq => notO (eqAt e x y)
  | _ => none

def binC (op : BinOp) (e : EqT) (x y : CV) : Option CV :=
  match x with
  | .int k a => (match y with
    | .int k' b => (match op with
      | .shl => bif intLt b 0 then none else some (.int k (k.wrap (a * 2 ^ (min b.toNat k.bits))))
      | .shr => bif intLt b 0 then none else some (.int k (a.fdiv (2 ^ (min b.toNat k.bits))))
      | _ => if k = k' then binInt op k a b else none)
    | _ => none)
  | .str a => (match y with
    | .str b => binStr op a b
    | _ => none)
  | .nili => none
  | _ => (match y with
    | .nili => none
    | _ => binEq op e x y)

def toBytes : List CV → Option (List Nat)
  | [] => some []
  | .int .u8 (.ofNat n) :: l => (match toBytes l with
    | some s => bif Nat.blt n 256 then some (n :: s) else none
    | none => none)
  | _ => none

inductive ORes where
  | val (v : CV)
  | undef
  | call (f : FuncId) (args : List CV)
  deriving Inhabited

/-- An operation, made ready. -/
inductive OpC where
  | pure (f : Tm → Option CV)
  | read (f : Tm → St → Option CV)
  | new (f : Tm → Option (CObj × (Nat → CV)))
  | chain (f : Tm → St → Option (ORes × St))
  | bad
  deriving Inhabited

def unitO : Option St → Option (ORes × St)
  | some S => some (.undef, S)
  | none => none
def valO : Option (CV × St) → Option (ORes × St)
  | some (v, S) => some (.val v, S)
  | none => none

def eval1 (x : Opd) (f : CV → Option CV) (tm : Tm) : Option CV :=
  Option.rec (motive := fun _ => Option CV) none (fun v => f v) (x.eval tm)
def eval2 (x y : Opd) (f : CV → CV → Option CV) (tm : Tm) : Option CV :=
  Option.rec (motive := fun _ => Option CV) none (fun v => Option.rec (motive := fun _ => Option CV) none (fun u => f v u) (y.eval tm)) (x.eval tm)

def pickC (c a b : Opd) (tm : Tm) : Option CV :=
  match c.eval tm with
  | some (.bool t) => bif t then a.eval tm else b.eval tm
  | _ => none
def boxC (x : Opd) (tm : Tm) : Option (CObj × (Nat → CV)) :=
  match x.eval tm with
  | some v => bif Nat.blt v.cells.length lim then some (rowOf v.cells, fun b => .ptr b 0) else none
  | none => none
def buildC (zs : List CV) (ps : List (Nat × Nat × Opd)) (tm : Tm) : Option CV :=
  match evalPs ps tm with
  | some vs => (match fillC zs vs with
    | some cs => some (.agg cs)
    | none => none)
  | none => none
def buildSliceC (len : Nat) (zs : List CV) (ps : List (Nat × Nat × Opd)) (tm : Tm) : Option (CObj × (Nat → CV)) :=
  match evalPs ps tm with
  | some vs => (match fillC zs vs with
    | some cs => bif Nat.blt cs.length lim then some (rowOf cs, fun b => .slice b 0 len (.ex len)) else none
    | none => none)
  | none => none
def loadR (size : Nat) (agg : Bool) (a : Opd) (tm : Tm) (S : St) : Option CV :=
  match a.eval tm with
  | some a => loadC size agg a S
  | none => none
def storeR (size : Nat) (a x : Opd) (tm : Tm) (S : St) : Option (ORes × St) :=
  match a.eval tm, x.eval tm with
  | some a, some x => unitO (storeC size a x S)
  | _, _ => none
def nilCheckC : CV → Option CV
  | .ptr b o => some (.ptr b o)
  | .func f fi ca => some (.func f fi ca)
  | _ => none
def notC : CV → Option CV
  | .bool b => some (.bool (!b))
  | _ => none
def negC : CV → Option CV
  | .int k n => some (.int k (wr k (Int.sub 0 n)))
  | _ => none
def convInt (k : IntKind) : CV → Option CV
  | .int _ n => some (.int k (wr k n))
  | _ => none
def convStr : CV → Option CV
  | .str s => some (.str s)
  | _ => none
def strToBytes (x : Opd) (tm : Tm) (S : St) : Option (ORes × St) :=
  match x.eval tm with
  | some (.str s) => bif Nat.blt s.length lim && allBytes s then
      (match S with
      | ⟨h, n, k⟩ => bif Nat.blt n lim then some (.val (.slice n 0 s.length (.sy k s.length)), ⟨h.set big n (some (rowCap (bytesOf s) k 1 0)), n + 1, k + 1⟩) else none) else none
  | _ => none
def bytesToStr (x : Opd) (tm : Tm) (S : St) : Option CV :=
  match x.eval tm with
  | some .nils => some (.str [])
  | some (.slice b o n _) => (match loadN S b o n with
    | some cs => (match toBytes cs with
      | some s => some (.str s)
      | none => none)
    | none => none)
  | _ => none
/-- A pointer made an unsafe one. -/
def toUnsafe (x : Opd) (tm : Tm) (S : St) : Option CV :=
  match x.eval tm with
  | some .nilp => some .nilp
  | some (.ptr b o) => (match S.heap.get b with
    | some (.row _ _ hi _ _ _ _) => bif Nat.blt o hi then some (.ptr b o) else none
    | _ => none)
  | _ => none
/-- An unsafe pointer to a variable of type u, of that many cells, made a pointer again. -/
def fromUnsafe (u size : Nat) (x : Opd) (tm : Tm) (S : St) : Option CV :=
  match x.eval tm with
  | some .nilp => some .nilp
  | some (.ptr b 0) => (match S.heap.get b with
    | some (.row _ _ hi _ _ sz ty) => bif Nat.beq sz 0 && Nat.beq ty (u + 1) && Nat.ble size hi then some (.ptr b 0) else none
    | _ => none)
  | _ => none
def sliceDataC : CV → Option CV
  | .nils => some .nilp
  | .slice b o _ c => bif capLe 1 c then some (.ptr b o) else none
  | _ => none
/-- The bytes at a pointer as a string; nobody may write them from now on. -/
def unsafeStringR (e : Nat) (p n : Opd) (tm : Tm) (S : St) : Option (ORes × St) :=
  match p.eval tm, n.eval tm with
  | some .nilp, some (.int .i64 (.ofNat 0)) => some (.val (.str []), S)
  | some (.ptr b o), some (.int .i64 (.ofNat n)) => bif Nat.beq n 0 then some (.val (.str []), S) else (match loadN S b o n with
    | some cs => (match toBytes cs, S with
      | some s, ⟨h, nx, k⟩ => (match h.get b with
        | some (.row c sh hi true id sz ty) => bif Nat.beq ty (e + 1) && Nat.blt b lim && Nat.blt n lim then some (.val (.str s), ⟨h.set big b (some (.row c sh hi false id sz ty)), nx, k⟩) else none
        | _ => none)
      | none, _ => none)
    | none => none)
  | _, _ => none
def mkIface (t : TypeId) (v : CV) : Option CV := some (.iface t v)
def mkFunc (f : FuncId) (fi ca : List Opd) (tm : Tm) : Option CV :=
  match evalL fi tm, evalL ca tm with
  | some fi, some ca => some (.func f fi ca)
  | _, _ => none
def mkMap (_ : Tm) : Option (CObj × (Nat → CV)) := some (.map [] 0, fun r => .map r)
def mkSlice (zs : List CV) (bytes : Nat) (l c : Opd) (tm : Tm) : Option (CObj × (Nat → CV)) :=
  match l.eval tm, c.eval tm with
  | some l, some c => (match asNat l, asNat c with
    | some l, some c =>
      bif Nat.ble l c && Nat.blt (c * bytes) lim && Nat.blt c lim && Nat.blt (rep zs c).length lim then
        some (rowOf (rep zs c), fun b => .slice b 0 l (.ex c)) else none
    | _, _ => none)
  | _, _ => none
def optNat (x : Option Opd) (tm : Tm) : Option (Option Nat) :=
  match x with
  | none => some none
  | some x => match x.eval tm with
    | some v => (match asNat v with
      | some n => some (some n)
      | none => none)
    | none => none

def mxOk (hi mx : Option Nat) : Bool :=
  match mx with
  | none => true
  | some _ => hi.isSome

inductive SlK where
  | str
  | sl (size : Nat)
  | arr (n size : Nat)

def sliceV (k : SlK) (x : CV) (lo hi mx : Option Nat) : Option CV :=
  match k, x with
  | .str, .str s => (match mx with
    | none => sliceStr s (lo.getD 0) hi
    | some _ => none)
  | .sl size, .slice b o len c => sliceSl size b o len c (lo.getD 0) hi mx
  | .sl _, .nils => bif isZero lo && isZero hi && isZero mx && mxOk hi mx then some .nils else none
  | .arr n size, .ptr b o => sliceSl size b o n (.ex n) (lo.getD 0) hi mx
  | _, _ => none
def sliceC (k : SlK) (x : Opd) (lo hi mx : Option Opd) (tm : Tm) : Option CV :=
  match x.eval tm, optNat lo tm, optNat hi tm, optNat mx tm with
  | some x, some lo, some hi, some mx => sliceV k x lo hi mx
  | _, _, _, _ => none
def fieldAddrC (off : Nat) : CV → Option CV
  | .ptr b o => some (.ptr b (o + off))
  | _ => none
def fieldC (size : Nat) (agg : Bool) (off : Nat) : CV → Option CV
  | .agg cs => partC size agg cs off
  | _ => none
def indexAddrArr (len size : Nat) (x ix : CV) : Option CV :=
  match x, asNat ix with
  | .ptr b o, some n => bif Nat.blt n len then some (.ptr b (o + n * size)) else none
  | _, _ => none
def indexAddrSl (size : Nat) (x ix : CV) : Option CV :=
  match x, asNat ix with
  | .slice b o len _, some n => bif Nat.blt n len then some (.ptr b (o + n * size)) else none
  | _, _ => none
def indexArr (len size : Nat) (agg : Bool) (x ix : CV) : Option CV :=
  match x, asNat ix with
  | .agg cs, some n => bif Nat.blt n len then partC size agg cs (n * size) else none
  | _, _ => none
def indexStr (x ix : CV) : Option CV :=
  match x, asNat ix with
  | .str s, some n => (match s[n]? with
    | some b => bif Nat.blt b 256 then some (.int .u8 b) else none
    | none => none)
  | _, _ => none
def lookupR (kd : KeyT) (z : CV) (ok : Bool) (m k : Opd) (tm : Tm) (S : St) : Option CV :=
  match m.eval tm, k.eval tm with
  | some m, some k => lookupC kd z ok m k S
  | _, _ => none
def mapUpdateR (kd : KeyT) (m k v : Opd) (tm : Tm) (S : St) : Option (ORes × St) :=
  match m.eval tm, k.eval tm, v.eval tm with
  | some m, some k, some v => unitO (mapUpdateC kd m k v S)
  | _, _, _ => none
def stampOf (k : CV) : List (CV × CV × Nat) → Nat
  | [] => 0
  | (k', _, n) :: es => match keyEq k k' with
    | some true => n
    | _ => stampOf k es
/-- The entry of a key; where there is none, one with the zero value comes. -/
def mapEntryR (kd : KeyT) (z : CV) (m k : Opd) (tm : Tm) (S : St) : Option (ORes × St) :=
  match m.eval tm, k.eval tm, S with
  | some (.map r), some k, ⟨h, nx, nk⟩ => bif plainKey kd k then
    (match h.get r with
    | some (.map es clock) => (match find k es with
      | some (some v) => bif Nat.blt r lim then some (.val (.tup [v, .int .i64 (.ofNat (stampOf k es))]), ⟨h.set big r (some (.map (upd k v es) clock)), nx, nk⟩) else none
      | some none => bif Nat.blt r lim then some (.val (.tup [z, .int .i64 (.ofNat clock)]), ⟨h.set big r (some (.map (es ++ [(k, z, clock)]) (clock + 1))), nx, nk⟩) else none
      | none => none)
    | _ => none)
    else none
  | _, _, _ => none
/-- The entry that bears a stamp gets a value. -/
def setStamp (n : Nat) (v : CV) : List (CV × CV × Nat) → Option (List (CV × CV × Nat))
  | [] => none
  | (k, u, t) :: es => bif Nat.beq t n then some ((k, v, t) :: es) else (match setStamp n v es with
    | some es' => some ((k, u, t) :: es')
    | none => none)
def entryStoreR (m s x : Opd) (tm : Tm) (S : St) : Option (ORes × St) :=
  match m.eval tm, s.eval tm, x.eval tm, S with
  | some (.map r), some (.int _ (.ofNat n)), some v, ⟨h, nx, nk⟩ => (match h.get r with
    | some (.map es clock) => (match setStamp n v es with
      | some es' => bif Nat.blt r lim then some (.undef, ⟨h.set big r (some (.map es' clock)), nx, nk⟩) else none
      | none => none)
    | _ => none)
  | _, _, _, _ => none
def rangeStr (x : Opd) (tm : Tm) : Option (CObj × (Nat → CV)) :=
  match x.eval tm with
  | some (.str s) => some (.siter s 0, fun r => .ptr r 0)
  | _ => none
def nextStr (it : Opd) (tm : Tm) (S : St) : Option (ORes × St) :=
  match it.eval tm, S with
  | some (.ptr r 0), ⟨h, nx, nk⟩ => (match h.get r with
    | some (.siter s pos) =>
      (match s[pos]? with
      | none => some (.val (.tup [.bool false]), ⟨h, nx, nk⟩)
      | some c => bif Nat.blt c 128 && Nat.blt r lim then some (.val (.tup [.bool true, .int .i64 pos, .int .i32 c]), ⟨h.set big r (some (.siter s (pos + 1))), nx, nk⟩) else none)
    | _ => none)
  | _, _ => none
def rangeMapR (x : Opd) (tm : Tm) (S : St) : Option (ORes × St) :=
  match x.eval tm, S with
  | some .nilm, ⟨h, nx, nk⟩ => bif Nat.blt nx lim then some (.val (.ptr nx 0), ⟨h.set big nx (some (.miter none 0 [] 0)), nx + 1, nk⟩) else none
  | some (.map r), ⟨h, nx, nk⟩ => (match h.get r with
    | some (.map _ clock) => bif Nat.blt nx lim then some (.val (.ptr nx 0), ⟨h.set big nx (some (.miter (some r) clock [] clock)), nx + 1, nk⟩) else none
    | _ => none)
  | _, _ => none
def seenB (b : Nat) : List Nat → Bool
  | [] => false
  | x :: l => Nat.beq b x || seenB b l
def notSeen (seen : List Nat) : List (CV × CV × Nat) → List (CV × CV × Nat)
  | [] => []
  | (k, v, b) :: es => bif seenB b seen then notSeen seen es else (k, v, b) :: notSeen seen es
def bornBelow (n : Nat) : List (CV × CV × Nat) → Bool
  | [] => true
  | (_, _, b) :: es => Nat.blt b n && bornBelow n es
/-- A step of a range over a map of which at most one entry is left: no choice is to be made. -/
def nextMapR (it : Opd) (tm : Tm) (S : St) : Option (ORes × St) :=
  match it.eval tm, S with
  | some (.ptr r 0), ⟨h, nx, nk⟩ => (match h.get r with
    | some (.miter none _ _ _) => some (.val (.tup [.bool false]), ⟨h, nx, nk⟩)
    | some (.miter (some m) since seen last) => (match h.get m with
      | some (.map es clock) => bif bornBelow since es && Nat.ble since last && Nat.blt r lim then (match notSeen seen es with
        | [] => some (.val (.tup [.bool false]), ⟨h, nx, nk⟩)
        | [(k, v, b)] => some (.val (.tup [.bool true, k, v]), ⟨h.set big r (some (.miter (some m) since (seen ++ [b]) clock)), nx, nk⟩)
        | _ => none) else none
      | _ => none)
    | _ => none)
  | _, _ => none
def findBorn (b : Nat) : List (CV × CV × Nat) → Option (CV × CV)
  | [] => none
  | (k, v, b') :: es => bif Nat.beq b' b then some (k, v) else findBorn b es
def entryMapR (it : Opd) (tm : Tm) (S : St) : Option CV :=
  match it.eval tm with
  | some (.ptr r 0) => (match S.heap.get r with
    | some (.miter (some m) _ seen last) => (match S.heap.get m, seen.getLast? with
      | some (.map es clock), some b => bif Nat.beq clock last then (match findBorn b es with
        | some (k, v) => some (.tup [k, v])
        | none => none) else none
      | _, _ => none)
    | _ => none)
  | _ => none
def clearR (x : Opd) (tm : Tm) (S : St) : Option (ORes × St) :=
  match x.eval tm, S with
  | some .nilm, ⟨h, nx, nk⟩ => some (.val (.tup []), ⟨h, nx, nk⟩)
  | some (.map r), ⟨h, nx, nk⟩ => (match h.get r with
    | some (.map _ clock) => bif Nat.blt r lim then some (.val (.tup []), ⟨h.set big r (some (.map [] clock)), nx, nk⟩) else none
    | _ => none)
  | _, _ => none
def extractC (i : Nat) : CV → Option CV
  | .tup vs => vs[i]?
  | _ => none
def callC (f : Opd) (args : List Opd) (tm : Tm) (S : St) : Option (ORes × St) :=
  match f.eval tm with
  | some (.func f fi ca) => (match evalL args tm with
    | some args => some (.call f (fi ++ args ++ ca), S)
    | none => none)
  | _ => none
inductive LenK where
  | str | sl | arr (n : Nat)
def lenC (k : LenK) (x : CV) : Option CV :=
  match k, x with
  | .str, .str s => some (.int .i64 s.length)
  | .str, .ustr c lo hi => some (.ulen c lo hi)
  | .sl, .nils => some (.int .i64 0)
  | .sl, .tail _ _ _ _ => some (.int .i64 0)
  | .sl, .slice _ _ n _ => some (.int .i64 n)
  | .arr n, _ => some (.int .i64 n)
  | _, _ => none
def lenMap (x : Opd) (tm : Tm) (S : St) : Option CV :=
  match x.eval tm with
  | some .nilm => some (.int .i64 0)
  | some (.map r) => (match S.heap.get r with
    | some (.map es _) => some (.int .i64 es.length)
    | _ => none)
  | _ => none
def appendR (size bytes e : Nat) (s x : Opd) (tm : Tm) (S : St) : Option (ORes × St) :=
  match s.eval tm, x.eval tm with
  | some s, some x => (match lenOf x with
    | some 0 => (match s with
      | .nils => some (.val s, S)
      | .slice _ _ l c => bif capLe l c then some (.val s, S) else none
      | _ => none)
    | some n => (match firstCells S size n x with
      | some new => bif Nat.blt (n * bytes) lim && Nat.blt n lim && Nat.blt 0 bytes && Nat.beq new.length (n * size) then valO (appendC S size bytes e s n new) else none
      | none => none)
    | none => none)
  | _, _ => none
def minC (x y : CV) : Option CV :=
  match x, y with
  | .int k a, .int k' b => if k = k' then some (.int k (bif intLt b a then b else a)) else none
  | _, _ => none
def maxC (x y : CV) : Option CV :=
  match x, y with
  | .int k a, .int k' b => if k = k' then some (.int k (bif intLt a b then b else a)) else none
  | _, _ => none

/-- The greatest of three. -/
def max3 (a b c : Opd) (tm : Tm) : Option CV :=
  match eval2 a b maxC tm, c.eval tm with
  | some m, some z => maxC m z
  | _, _ => none

def addI (k : IntKind) (a b : Int) : Option CV := litInt k (wr k (Int.add a b))
def subI (k : IntKind) (a b : Int) : Option CV := litInt k (wr k (Int.sub a b))
def eqI (_ : IntKind) (a b : Int) : Option CV := some (.bool (intEq a b))
def neI (_ : IntKind) (a b : Int) : Option CV := some (.bool (!intEq a b))
def ltI (_ : IntKind) (a b : Int) : Option CV := some (.bool (intLt a b))
def leI (_ : IntKind) (a b : Int) : Option CV := some (.bool (!intLt b a))
def gtI (_ : IntKind) (a b : Int) : Option CV := some (.bool (intLt b a))
def geI (_ : IntKind) (a b : Int) : Option CV := some (.bool (!intLt a b))
def intF : BinOp → Option (IntKind → Int → Int → Option CV)
  | .add => some addI
  | .sub => some subI
  | .eql => some eqI
  | .neq => some neI
  | .lss => some ltI
  | .leq => some leI
  | .gtr => some gtI
  | .geq => some geI
  | _ => none

def isNiliConst : Operand → Bool
  | .const .nilIface => true
  | _ => false

def nilRes (op : BinOp) (b : Bool) : Option CV :=
  match op with
  | .eql => some (.bool b)
  | .neq => some (.bool (!b))
  | _ => none

/-- An interface value against nil. -/
def ifNil (op : BinOp) (x : CV) : Option CV :=
  match x with
  | .nili => nilRes op true
  | .iface _ _ => nilRes op false
  | _ => none

def isRecoverC : Callee → Bool
  | .builtin .recover => true
  | _ => false

/-- r := recover(); if r != nil { .. }: the operations. -/
def idleOps (nt t : Nat) (o0 o1 o2 o3 : Oper) : Option TypeId :=
  match o0.guard, o1.guard, o2.guard, o3.guard with
  | none, none, none, none => (match o0.dst, o0.op, o1.dst, o1.op, o2.dst, o2.op, o3.dst, o3.op with
    | some d0, .call c, some d1, .assign (.tmp x1), some d2, .move (.tmp x2), some d3, .binOp .neq ty (.tmp x3) y _ =>
      bif isRecoverC c.callee && Nat.beq x1 d0 && Nat.beq x2 d1 && Nat.beq x3 d2 && Nat.beq t d3 && isNiliConst y && Nat.blt d0 nt && Nat.blt d1 nt && Nat.blt d2 nt && Nat.blt d3 nt then some ty else none
    | _, _, _, _, _, _, _, _ => none)
  | _, _, _, _ => none

def idleCode (nt : Nat) : Code → Option TypeId
  | .seq (.region _ ops0 false) (.seq (.region _ ops1 false) (.cond (.tmp t) _ .skip)) => (match ops0.toList, ops1.toList with
    | [o0, o1], [o2, o3] => idleOps nt t o0 o1 o2 o3
    | _, _ => none)
  | _ => none

def isIfaceD : TypeDesc → Bool
  | .interface _ => true
  | _ => false

/-- A function that does nothing where there is no panic. -/
def idleFn (P : Program) (f : FuncId) : Bool :=
  match P.funcs[f]? with
  | some fn => (match fn.body with
    | some c => (match idleCode fn.ntmps c with
      | some ty => (match tyOf P ty with
        | some i => isIfaceD i.desc && fn.results.isEmpty && !(fn.name == "runtime.NumGoroutine")
        | none => false)
      | none => false)
    | none => false)
  | none => false

/-- A call is put off. -/
def deferR (idle : FuncId → Bool) (x : Opd) (tm : Tm) (S : St) : Option (ORes × St) :=
  match x.eval tm with
  | some (.func f _ _) => bif idle f then some (.undef, S) else none
  | _ => none

/-- copy, where the source is no longer than the goal. -/
def copyR (size : Nat) (d x : Opd) (tm : Tm) (S : St) : Option (ORes × St) :=
  match d.eval tm, x.eval tm with
  | some d, some x => (match lenOf x with
    | some n => bif Nat.beq n 0 then
        (match d with
        | .nils => some (.val (.int .i64 0), S)
        | .slice _ _ _ _ => some (.val (.int .i64 0), S)
        | _ => none)
      else (match d with
        | .slice b o l _ => bif Nat.ble n l then (match firstCells S size n x with
          | some new => bif plainCells new then (match storeN S b o new with
            | some S' => some (.val (.int .i64 n), S')
            | none => none) else none
          | none => none) else none
        | _ => none)
    | none => none)
  | _, _ => none

def builtinC (P : Program) (b : Builtin) (ts : List TypeId) (args : List Operand) : OpC :=
  match b, ts, args with
  | .len, [t], [x] => (match tyOf P t with
    | none => .bad
    | some i => match i.desc with
      | .string => .pure (eval1 (opd P x) (lenC .str))
      | .slice _ => .pure (eval1 (opd P x) (lenC .sl))
      | .array n _ => .pure (eval1 (opd P x) (lenC (.arr n)))
      | .map _ _ => .read (lenMap (opd P x))
      | _ => .bad)
  | .append, [t, u], [s, x] => (match tyOf P t, tyOf P u with
    | some i, some j => (match i.desc, j.desc with
      | .slice _, .int _ => .bad
      | .slice e, _ => (match tyOf P e, zeroOf P e with
        | some ei, some z => bif Nat.beq z.cells.length ei.size && Nat.blt 0 ei.size then .chain (appendR ei.size ei.bytes e (opd P s) (opd P x)) else .bad
        | _, _ => .bad)
      | _, _ => .bad)
    | _, _ => .bad)
  | .clear, [t], [x] => (match tyOf P t with
    | some i => (match i.desc with
      | .map _ _ => .chain (clearR (opd P x))
      | _ => .bad)
    | none => .bad)
  | .unsafeSliceData, _, [x] => .pure (eval1 (opd P x) sliceDataC)
  | .unsafeString, [t, _], [x, n] => (match tyOf P t with
    | some i => (match i.desc with
      | .pointer e => (match tyOf P e with
        | some ei => (match ei.desc with
          | .int .u8 => bif Nat.beq ei.size 1 then .chain (unsafeStringR e (opd P x) (opd P n)) else .bad
          | _ => .bad)
        | none => .bad)
      | _ => .bad)
    | none => .bad)
  | .copy, [t, _], [d, x] => (match tyOf P t with
    | some i => (match i.desc with
      | .slice e => (match tyOf P e with
        | some ei => .chain (copyR ei.size (opd P d) (opd P x))
        | none => .bad)
      | _ => .bad)
    | none => .bad)
  | .min, _, [x, y] => .pure (eval2 (opd P x) (opd P y) minC)
  | .max, _, [x, y] => .pure (eval2 (opd P x) (opd P y) maxC)
  | .max, _, [x, y, z] => .pure (max3 (opd P x) (opd P y) (opd P z))
  | _, _, _ => .bad

def opC (P : Program) (op : Op) : OpC :=
  match op with
  | .move x | .assign x => .pure (opd P x).eval
  | .pick c a b => .pure (pickC (opd P c) (opd P a) (opd P b))
  | .alloc t => (match zeroOf P t with
    | some z => bif Nat.blt z.cells.length lim then .new (fun _ => some (rowOfT (t + 1) z.cells, fun b => .ptr b 0)) else .bad
    | none => .bad)
  | .box _ x => .new (boxC (opd P x))
  | .build t ps => (match tyOf P t, zeroOf P t with
    | some i, some z => (match i.desc with
      | .struct fields => (match places P fields.toList with
        | some pl => (match placed P (pl[·]?) ps.toList with
          | some l => .pure (buildC z.cells l)
          | none => .bad)
        | none => .bad)
      | .array _ e => (match tyOf P e with
        | some ei => (match placed P (fun i => some (i * ei.size, ei.size)) ps.toList with
          | some l => .pure (buildC z.cells l)
          | none => .bad)
        | none => .bad)
      | _ => .bad)
    | _, _ => .bad)
  | .buildSlice t len ps => (match tyOf P t with
    | some i => (match i.desc with
      | .slice e => (match tyOf P e with
        | some ei => (match placed P (fun i => some (i * ei.size, ei.size)) ps.toList with
          | some l => bif Nat.beq (len * ei.size) 0 then .new (buildSliceC len [] l) else
            (match zeroOf P e with
            | some z => bif Nat.ble (len * ei.size) 16777216 && Nat.beq z.cells.length ei.size then .new (buildSliceC len (rep z.cells len) l) else .bad
            | none => .bad)
          | none => .bad)
        | none => .bad)
      | _ => .bad)
    | none => .bad)
  | .load t a => (match tyOf P t with
    | some i => .read (loadR i.size (isAggD i.desc) (opd P a))
    | none => .bad)
  | .store t a x => (match tyOf P t with
    | some i => .chain (storeR i.size (opd P a) (opd P x))
    | none => .bad)
  | .nilCheck x => .pure (eval1 (opd P x) nilCheckC)
  | .binOp op t x y _ => (match tyOf P t with
    | some i => (match i.desc, intF op with
      | .int _, some f => .pure (eval2 (opd P x) (opd P y) (both op f))
      | .interface _, _ => bif isNiliConst y then .pure (eval1 (opd P x) (ifNil op)) else .bad
      | _, _ => bif isEql op && isAggD i.desc && P.eqGuardType P.depth t then .bad else .pure (eval2 (opd P x) (opd P y) (binC op (bif isEql op then eqTy P depth0 t else .no))))
    | none => .bad)
  | .unOp .not _ x => .pure (eval1 (opd P x) notC)
  | .unOp .neg _ x => .pure (eval1 (opd P x) negC)
  | .convert src dst x => (match tyOf P src, tyOf P dst with
    | some i, some j => (match i.desc, j.desc with
      | .int _, .int k => .pure (eval1 (opd P x) (convInt k))
      | .string, .string => .pure (eval1 (opd P x) convStr)
      | .pointer u, .unsafePointer => (match tyOf P u with
        | some ui => bif Nat.beq ui.size 0 then .bad else .read (toUnsafe (opd P x))
        | none => .bad)
      | .unsafePointer, .pointer u => (match tyOf P u with
        | some ui => bif Nat.beq ui.size 0 then .bad else .read (fromUnsafe u ui.size (opd P x))
        | none => .bad)
      | .string, .slice e => (match tyOf P e with
        | some k => (match k.desc with
          | .int .u8 => .chain (strToBytes (opd P x))
          | _ => .bad)
        | none => .bad)
      | .slice e, .string => (match tyOf P e with
        | some k => (match k.desc with
          | .int .u8 => .read (bytesToStr (opd P x))
          | _ => .bad)
        | none => .bad)
      | _, _ => .bad)
    | _, _ => .bad)
  | .makeInterface t x => (match tyOf P t with
    | some i => (match i.desc with
      | .interface _ => .bad
      | _ => .pure (eval1 (opd P x) (mkIface t)))
    | none => .bad)
  | .makeFunc (.func f) fi ca => .pure (mkFunc f (opds P fi.toList) (opds P ca.toList))
  | .makeMap _ none => .new mkMap
  | .makeSlice t l c => (match tyOf P t with
    | some i => (match i.desc with
      | .slice e => (match tyOf P e with
        | some ei => bif Nat.beq ei.size 0 then .bad else (match zeroOf P e with
          | some z => bif Nat.beq z.cells.length ei.size then .new (mkSlice z.cells ei.bytes (opd P l) (opd P c)) else .bad
          | none => .bad)
        | none => .bad)
      | _ => .bad)
    | none => .bad)
  | .slice t x lo hi mx => (match tyOf P t with
    | some i => (match i.desc with
      | .string => .pure (sliceC .str (opd P x) (lo.map (opd P)) (hi.map (opd P)) (mx.map (opd P)))
      | .slice e => (match tyOf P e with
        | some ei => .pure (sliceC (.sl ei.size) (opd P x) (lo.map (opd P)) (hi.map (opd P)) (mx.map (opd P)))
        | none => .bad)
      | .array n e => (match tyOf P e with
        | some ei => .pure (sliceC (.arr n ei.size) (opd P x) (lo.map (opd P)) (hi.map (opd P)) (mx.map (opd P)))
        | none => .bad)
      | _ => .bad)
    | none => .bad)
  | .fieldAddr s x f => (match tyOf P s with
    | some i => (match i.desc with
      | .struct fields => (match fields[f]? with
        | some fd => (match tyOf P fd.type with
          | some fi => bif Nat.beq fi.size 0 then .bad else .pure (eval1 (opd P x) (fieldAddrC fd.offset))
          | none => .bad)
        | none => .bad)
      | _ => .bad)
    | none => .bad)
  | .field t x f => (match tyOf P t with
    | some i => (match i.desc with
      | .struct fields => (match fields[f]? with
        | some fd => (match tyOf P fd.type with
          | some fi => .pure (eval1 (opd P x) (fieldC fi.size (isAggD fi.desc) fd.offset))
          | none => .bad)
        | none => .bad)
      | _ => .bad)
    | none => .bad)
  | .indexAddr t x ix => (match tyOf P t with
    | some i => (match i.desc with
      | .array len e => (match tyOf P e with
        | some ei => .pure (eval2 (opd P x) (opd P ix) (indexAddrArr len ei.size))
        | none => .bad)
      | .slice e => (match tyOf P e with
        | some ei => .pure (eval2 (opd P x) (opd P ix) (indexAddrSl ei.size))
        | none => .bad)
      | _ => .bad)
    | none => .bad)
  | .index t x ix => (match tyOf P t with
    | some i => (match i.desc with
      | .array len e => (match tyOf P e with
        | some ei => .pure (eval2 (opd P x) (opd P ix) (indexArr len ei.size (isAggD ei.desc)))
        | none => .bad)
      | .string => .pure (eval2 (opd P x) (opd P ix) indexStr)
      | _ => .bad)
    | none => .bad)
  | .lookup t x k ok => (match tyOf P t with
    | some i => (match i.desc with
      | .map kt et => (match tyOf P kt, zeroOf P et with
        | some ki, some z => .read (lookupR (keyTy P kt ki.desc) z ok (opd P x) (opd P k))
        | _, _ => .bad)
      | _ => .bad)
    | none => .bad)
  | .mapUpdate t m k x | .insert t m k x => (match tyOf P t with
    | some i => (match i.desc with
      | .map kt _ => (match tyOf P kt with
        | some ki => .chain (mapUpdateR (keyTy P kt ki.desc) (opd P m) (opd P k) (opd P x))
        | none => .bad)
      | _ => .bad)
    | none => .bad)
  | .mapEntry t m k => (match tyOf P t with
    | some i => (match i.desc with
      | .map kt et => (match tyOf P kt, zeroOf P et with
        | some ki, some z => .chain (mapEntryR (keyTy P kt ki.desc) z (opd P m) (opd P k))
        | _, _ => .bad)
      | _ => .bad)
    | none => .bad)
  | .entryStore _ m s x => .chain (entryStoreR (opd P m) (opd P s) (opd P x))
  | .range t x => (match tyOf P t with
    | some i => (match i.desc with
      | .string => .new (rangeStr (opd P x))
      | .map _ _ => .chain (rangeMapR (opd P x))
      | _ => .bad)
    | none => .bad)
  | .next it true => .chain (nextStr (opd P it))
  | .next it false => .chain (nextMapR (opd P it))
  | .entry it => .read (entryMapR (opd P it))
  | .extract t i => .pure (eval1 (opd P t) (extractC i))
  | .call c => (match c.callee with
    | .value f => .chain (callC (opd P f) (opds P c.args.toList))
    | .builtin b => builtinC P b c.argTypes.toList c.args.toList
    | .invoke _ _ => .bad)
  | .defer c => (match c.callee, c.args.toList with
    | .value f, [] => .chain (deferR (idleFn P) (opd P f))
    | _, _ => .bad)
  | _ => .bad

end
end Go.Ev

namespace Go.Ev
noncomputable section

/-- What is called with what. -/
inductive CRes where
  | fail
  | ok (v : CV) (S : St)

abbrev Call := FuncId → List CV → St → CRes

inductive Res where
  | fail
  | normal (tm : Tm) (S : St)
  | exit (id : Nat) (tm : Tm) (S : St)
  | ret (tm : Tm) (S : St)

def nothing : CV := .tup []

/-- Whom an operation's guard asks, and what it wants. -/
def guardOf (all : List Oper) (o : Oper) : Option (Option (Tmp × Bool)) :=
  match o.guard with
  | none => some none
  | some (j, want) => (match all[j]? with
    | some oj => (match oj.dst with
      | some d => some (some (d, want))
      | none => none)
    | none => none)

/-- A guard, made ready. -/
inductive GuC where
  | free
  | on (x : Opd) (want : Bool)
  | bad
def guC (all : List Oper) (o : Oper) : GuC :=
  match guardOf all o with
  | none => .bad
  | some none => .free
  | some (some (d, want)) => .on (tmpO d) want

def wantedC (g : GuC) (tm : Tm) : Option Bool :=
  match g with
  | .free => some true
  | .on x want => (match x.eval tm with
    | some (.bool b) => some (b == want)
    | some _ => some false
    | none => none)
  | .bad => none

/-! ### A region that draws its order -/

def cvEqL (eq : CV → CV → Bool) : List CV → List CV → Bool
  | [], [] => true
  | a :: x, b :: y => eq a b && cvEqL eq x y
  | _, _ => false

def capEq : Cap → Cap → Bool
  | .ex a, .ex b => Nat.beq a b
  | .sy i a, .sy j b => Nat.beq i j && Nat.beq a b
  | _, _ => false

def strSame : List Nat → List Nat → Bool
  | [], [] => true
  | a :: x, b :: y => Nat.beq a b && strSame x y
  | _, _ => false

def kindEq (a b : IntKind) : Bool := decide (a = b)

def cvEq : Nat → CV → CV → Bool
  | 0, _, _ => false
  | n + 1, x, y => match x, y with
    | .bool a, .bool b => a == b
    | .int k a, .int j b => kindEq k j && intEq a b
    | .str a, .str b => strSame a b
    | .nilp, .nilp => true
    | .ptr a i, .ptr b j => Nat.beq a b && Nat.beq i j
    | .nils, .nils => true
    | .slice a i l c, .slice b j m d => Nat.beq a b && Nat.beq i j && Nat.beq l m && capEq c d
    | .nilm, .nilm => true
    | .map a, .map b => Nat.beq a b
    | .func f x y, .func g u v => Nat.beq f g && cvEqL (cvEq n) x u && cvEqL (cvEq n) y v
    | .nilf, .nilf => true
    | .iface t x, .iface u y => Nat.beq t u && cvEq n x y
    | .nili, .nili => true
    | .agg x, .agg y => cvEqL (cvEq n) x y
    | .tup x, .tup y => cvEqL (cvEq n) x y
    | .opq i, .opq j => Nat.beq i j
    | _, _ => false

/-- Is a place in a mask? -/
def bit (m i : Nat) : Bool := Nat.beq (Nat.mod (Nat.shiftRight m i) 2) 1

/-- The predecessors of an operation, all of them, as a mask. -/
def edgesM (done : List Nat) : List Edge → Nat
  | [] => 0
  | e :: l => bif Region.binds .any e then Nat.lor (Nat.lor (Nat.shiftLeft 1 e.on) ((done[e.on]?).getD 0)) (edgesM done l) else edgesM done l
def predsL : List Nat → List Oper → List Nat
  | done, [] => done
  | done, o :: l => predsL (done ++ [edgesM done o.after.toList]) l

def isChain : OpC → Bool
  | .chain _ => true
  | _ => false

/-- An operation of a drawn region, made ready: its place; its predecessors; is there a later operation of the chain that doesn't wait for it? -/
structure DOp where
  i : Nat
  g : GuC
  c : OpC
  dst : Dst
  pre : Nat
  keep : Bool

/-- A read that later operations of the chain do not wait for. -/
structure Rec where
  i : Nat
  pend : List (Nat × Nat × CObj)
  f : St → Option CV
  v : CV

structure DSt where
  tm : Tm
  S : St
  hist : List (Nat × St)              -- the operations of the chain that are done, and the states before them, the last one first
  pend : List (Nat × Nat × CObj)      -- place, block, object
  recs : List Rec

def addAll : List (Nat × Nat × CObj) → St → St
  | [], S => S
  | (_, b, o) :: l, S => addAll l ⟨S.heap.set big b (some o), S.next, S.nk⟩

def splitP (pre : Nat) : List (Nat × Nat × CObj) → List (Nat × Nat × CObj) × List (Nat × Nat × CObj)
  | [] => ([], [])
  | (i, b, o) :: l => match splitP pre l with
    | (x, y) => bif bit pre i then ((i, b, o) :: x, y) else (x, (i, b, o) :: y)

def sameAt (v : CV) (f : St → Option CV) (S : St) : Bool :=
  match f S with
  | some u => cvEq 6 v u
  | none => false

def allSame (pre : Nat) (v : CV) (f : St → Option CV) : List (Nat × St) → Bool
  | [] => true
  | (c, S) :: l => (bit pre c || sameAt v f S) && allSame pre v f l

def recheck (pre : Nat) (S : St) : List Rec → Bool
  | [] => true
  | r :: l => (bit pre r.i || sameAt r.v (fun S => r.f (addAll r.pend S)) S) && recheck pre S l

def dropAll (pre : Nat) : List Rec → List Rec
  | [] => []
  | r :: l => ⟨r.i, (splitP pre r.pend).2, r.f, r.v⟩ :: dropAll pre l

/-- An operation's outcome, its calls made. -/
def callRes (call : Call) (x : Option (ORes × St)) : CRes :=
  match x with
  | some (.val v, S) => .ok v S
  | some (.undef, S) => .ok nothing S
  | some (.call g args, S) => call g args S
  | none => .fail

def dRun (d : DOp) (base : Nat) (call : Call) (x : DSt) : Option (CV × DSt) :=
  match d.c with
  | .pure f => (match f x.tm with
    | some v => some (v, x)
    | none => none)
  | .read f => (match splitP d.pre x.pend with
    | (mine, _) => (match f x.tm (addAll mine x.S) with
      | some v => bif allSame d.pre v (fun S => f x.tm (addAll mine S)) x.hist then
          some (v, ⟨x.tm, x.S, x.hist, x.pend, bif d.keep then ⟨d.i, mine, f x.tm, v⟩ :: x.recs else x.recs⟩) else none
      | none => none))
  | .new f => (match f x.tm with
    | some (o, mk) => bif o.wr then some (mk (base + d.i), ⟨x.tm, x.S, x.hist, (d.i, base + d.i, o) :: x.pend, x.recs⟩) else none
    | none => none)
  | .chain f => (match splitP d.pre x.pend with
    | (mine, rest) => (match callRes call (f x.tm (addAll mine x.S)) with
      | .ok v S => (match dropAll d.pre x.recs with
        | recs => bif recheck d.pre S recs then some (v, ⟨x.tm, S, (d.i, x.S) :: x.hist, rest, recs⟩) else none)
      | .fail => none))
  | .bad => none

def dOps (base : Nat) (call : Call) : List DOp → DSt → Option DSt
  | [], x => some x
  | d :: l, x => (match wantedC d.g x.tm with
    | some true => (match dRun d base call x with
      | some (v, y) => dOps base call l ⟨putD d.dst v y.tm, y.S, y.hist, y.pend, y.recs⟩
      | none => none)
    | some false => dOps base call l ⟨putD d.dst nothing x.tm, x.S, x.hist, x.pend, x.recs⟩
    | none => none)

/-- The names that an operation reads or writes. -/
def namesOf (all : List Oper) (o : Oper) : List Tmp :=
  o.dst.toList ++ (match guardOf all o with | some (some (d, _)) => [d] | _ => []) ++ o.op.operands.toList.filterMap fun | .tmp t => some t | _ => none

def ordered (pres : List Nat) (i j : Nat) : Bool :=
  bif Nat.blt i j then bit ((pres[j]?).getD 0) i else bit ((pres[i]?).getD 0) j

/-- Who writes each temporary. -/
def writersT (t : Tr (List Nat)) (i : Nat) : List Oper → Tr (List Nat)
  | [] => t
  | o :: l => writersT (match o.dst with
    | some d => t.set big d (some (i :: (t.get d).getD []))
    | none => t) (i + 1) l

def namesOk1 (t : Tr (List Nat)) (pres : List Nat) (j : Nat) : List Tmp → Bool
  | [] => true
  | d :: l => (((t.get d).getD []).all fun i => Nat.beq i j || ordered pres i j) && namesOk1 t pres j l

def namesOkL (all : List Oper) (t : Tr (List Nat)) (pres : List Nat) (j : Nat) : List Oper → Bool
  | [] => true
  | o :: l => namesOk1 t pres j (namesOf all o) && namesOkL all t pres (j + 1) l

def smallDst : List Oper → Bool
  | [] => true
  | o :: l => (match o.dst with | some d => Nat.blt d lim | none => true) && smallDst l

def namesOk (all : List Oper) (pres : List Nat) : Bool :=
  smallDst all && namesOkL all (writersT .leaf 0 all) pres 0 all

def chainsOf (P : Program) (i : Nat) : List Oper → List Nat
  | [] => []
  | o :: l => bif isChain (opC P o.op) then i :: chainsOf P (i + 1) l else chainsOf P (i + 1) l

def chainOk (pres : List Nat) : List Nat → Bool
  | [] => true
  | i :: l => (l.all fun j => bit ((pres[j]?).getD 0) i) && chainOk pres l

def edgesOk (i : Nat) : List Oper → Bool
  | [] => true
  | o :: l => (o.after.toList.all fun e => !(Region.binds .any e) || Nat.blt e.on i) && edgesOk (i + 1) l

/-- Are there later operations of the chain that do not wait for place i? -/
def keepOf (pres : List Nat) (ch : List Nat) (i : Nat) : Bool :=
  ch.any fun j => Nat.blt i j && !(bit ((pres[j]?).getD 0) i)

def dopsOf (P : Program) (nt : Nat) (all : List Oper) (pres ch : List Nat) (i : Nat) : List Oper → List Nat → Option (List DOp)
  | o :: l, m :: ms => (match dstOf nt o.dst, dopsOf P nt all pres ch (i + 1) l ms with
    | some dst, some ds => some (DOp.mk i (guC all o) (opC P o.op) dst m (keepOf pres ch i) :: ds)
    | _, _ => none)
  | [], [] => some []
  | _, _ => none

def noSelect (all : List Oper) : Bool := all.all fun o => match o.op with | .select _ _ => false | _ => true

/-- Pure operations and a store. -/
structure StrC where
  pures : List ((Tm → Option CV) × Dst)
  size : Nat
  x : Opd
  y : Opd
  dst : Dst

/-- A drawn region, made ready: one chain; or operations that all later ones wait for, and two strands behind them. -/
inductive DrC where
  | mk (n : Nat) (dops : List DOp)
  | two (n : Nat) (dops : List DOp) (a b : StrC)
  | bad

def drawWith (P : Program) (nt : Nat) (all : List Oper) (pres ch : List Nat) : Option (List DOp) :=
  bif namesOk all pres && chainOk pres ch && edgesOk 0 all && noSelect all then dopsOf P nt all pres ch 0 all pres else none

def rangeAll : Nat → (Nat → Bool) → Bool
  | 0, _ => true
  | n + 1, f => f n && rangeAll n f

def waitsFor (o : Oper) (q : Nat) : Bool := o.after.toList.any fun e => Nat.beq e.on q && Region.binds .any e
def waitsTo (p : Nat) (o : Oper) : Bool := rangeAll p (waitsFor o)
def guardsLow (p : Nat) (o : Oper) : Bool :=
  match o.guard with
  | none => true
  | some (j, _) => Nat.blt j p
def edgeIn (p b i : Nat) (o : Oper) : Bool := o.after.toList.all fun e => !(Region.binds .any e) || Nat.blt e.on p || (Nat.ble b e.on && Nat.blt e.on (b + i))
def prevOk (b : Nat) (o : Oper) : Nat → Bool
  | 0 => true
  | i + 1 => waitsFor o (b + i)
/-- The later operations of a region, from place b on: each waits for the one before it in its strand and for the first p, and for none beyond its strand. -/
def strandOk (p b : Nat) : Nat → List Oper → Bool
  | _, [] => true
  | i, o :: l => o.guard.isNone && prevOk b o i && edgeIn p b i o && waitsTo p o && strandOk p b (i + 1) l
def readsT (x : Nat) (o : Oper) : Bool := o.op.operands.toList.any fun y => match y with | .tmp t => Nat.beq t x | _ => false
def writesT (x : Nat) (o : Oper) : Bool := match o.dst with | some d => Nat.beq d x | none => false
def apartS (l m : List Oper) : Bool := l.all fun o => match o.dst with | some x => m.all fun o' => !(readsT x o') && !(writesT x o') | none => true

def storeOf : Op → Option (TypeId × Operand × Operand)
  | .store t x y => some (t, x, y)
  | _ => none
def strC (P : Program) (nt : Nat) : List Oper → Option StrC
  | [] => none
  | [o] => (match storeOf o.op with
    | some (t, x, y) => (match tyOf P t, dstOf nt o.dst with
      | some ti, some d => some ⟨[], ti.size, opd P x, opd P y, d⟩
      | _, _ => none)
    | none => none)
  | o :: o' :: l => (match opC P o.op with
    | .pure f => (match dstOf nt o.dst, strC P nt (o' :: l) with
      | some d, some s => some ⟨(f, d) :: s.pures, s.size, s.x, s.y, s.dst⟩
      | _, _ => none)
    | _ => none)

def isStore (o : Oper) : Bool := (storeOf o.op).isSome
/-- The last place from which on all operations wait for all before it. -/
def cutAt (p : Nat) : List Oper → Option Nat
  | [] => none
  | o :: l => (match cutAt (p + 1) l with
    | some r => some r
    | none => bif (o :: l).all (waitsTo p) then some p else none)
def firstStore (i : Nat) : List Oper → Option Nat
  | [] => none
  | o :: l => bif isStore o then some i else firstStore (i + 1) l

def twoOf (P : Program) (nt : Nat) (all : List Oper) (p k : Nat) : DrC :=
  bif Nat.ble p all.length && (all.take p).all (guardsLow p) && strandOk p p 0 ((all.drop p).take k) && strandOk p (p + k) 0 ((all.drop p).drop k) && apartS ((all.drop p).take k) ((all.drop p).drop k) && apartS ((all.drop p).drop k) ((all.drop p).take k) then
    (match drawWith P nt (all.take p) (predsL [] (all.take p)) (chainsOf P 0 (all.take p)), strC P nt ((all.drop p).take k), strC P nt ((all.drop p).drop k) with
    | some ds, some a, some b => .two p ds a b
    | _, _, _ => .bad)
  else .bad

def drawTwo (P : Program) (nt : Nat) (all : List Oper) : DrC :=
  match cutAt 0 all with
  | some p => (match firstStore 1 (all.drop p) with
    | some k => twoOf P nt all p k
    | none => .bad)
  | none => .bad

def drawOf (P : Program) (nt : Nat) (all : List Oper) : DrC :=
  match drawWith P nt all (predsL [] all) (chainsOf P 0 all) with
  | some ds => .mk all.length ds
  | none => drawTwo P nt all

/-- What a strand's pure operations give. -/
def valsOf : List ((Tm → Option CV) × Dst) → Tm → Option (List CV × Tm)
  | [], tm => some ([], tm)
  | (f, d) :: l, tm => (match f tm with
    | some v => (match valsOf l (putD d v tm) with
      | some (vs, tm') => some (v :: vs, tm')
      | none => none)
    | none => none)
def replay : List ((Tm → Option CV) × Dst) → List CV → Tm → Tm
  | (_, d) :: l, v :: vs, tm => replay l vs (putD d v tm)
  | _, _, tm => tm
def strRun (s : StrC) (tm : Tm) (S : St) : Option (List CV × Nat × St) :=
  match valsOf s.pures tm with
  | some (vs, tm') => (match s.x.eval tm', s.y.eval tm' with
    | some (.ptr b off), some u => bif Nat.beq u.cells.length s.size && plainCells u.cells then
        (match storeN S b off u.cells with
        | some S' => some (vs, b, S')
        | none => none) else none
    | _, _ => none)
  | none => none

def mkRun (n : Nat) (dops : List DOp) (call : Call) (tm : Tm) (S : St) (k : Tm → St → Res) : Res :=
  match S with
  | ⟨h, next, nk⟩ =>
    bif Nat.blt (next + n) lim then
      (match dOps next call dops ⟨tm, ⟨h, next + n, nk⟩, [], [], []⟩ with
      | some x => k x.tm (addAll x.pend x.S)
      | none => .fail)
    else .fail

def twoRun (a b : StrC) (k : Tm → St → Res) (tm : Tm) (S : St) : Res :=
  match strRun a tm S with
  | some (va, ba, SA) => (match strRun b tm SA with
    | some (vb, bb, SB) => bif Nat.beq ba bb then .fail else k (putD b.dst nothing (replay b.pures vb (putD a.dst nothing (replay a.pures va tm)))) SB
    | none => .fail)
  | none => .fail

def drawRun (d : DrC) (call : Call) (tm : Tm) (S : St) (k : Tm → St → Res) : Res :=
  match d with
  | .mk n dops => mkRun n dops call tm S k
  | .two n dops a b => mkRun n dops call tm S (twoRun a b k)
  | .bad => .fail

/-! ### Statements -/

/-- Code, made ready. -/
inductive CC where
  | fin
  | pure (f : Tm → Option CV) (d : Dst) (next : CC)
  | read (f : Tm → St → Option CV) (d : Dst) (next : CC)
  | new (f : Tm → Option (CObj × (Nat → CV))) (d : Dst) (next : CC)
  | chain (f : Tm → St → Option (ORes × St)) (d : Dst) (next : CC)
  | undef (d : Dst) (next : CC)
  | guard (x : Opd) (want : Bool) (yes no : CC)
  | cond (x : Opd) (yes no : CC)
  | draw (d : DrC) (next : CC)
  | exit (id : Nat)
  | ret
  | block (id : Nat) (body next : CC)
  | loop (body : CC)
  | bad

def opCC (c : OpC) (d : Dst) (next : CC) : CC :=
  match c with
  | .pure f => .pure f d next
  | .read f => .read f d next
  | .new f => .new f d next
  | .chain f => .chain f d next
  | .bad => .bad

def guCC (g : GuC) (d : Dst) (yes next : CC) : CC :=
  match g with
  | .free => yes
  | .on x want => .guard x want yes (.undef d next)
  | .bad => .bad

def opsCC (P : Program) (nt : Nat) (all : List Oper) : List Oper → CC → CC
  | [], next => next
  | o :: l, next => (match dstOf nt o.dst with
    | some d => guCC (guC all o) d (opCC (opC P o.op) d (opsCC P nt all l next)) (opsCC P nt all l next)
    | none => .bad)

def codeCC (P : Program) (nt : Nat) : Code → CC → CC
  | .skip, next => next
  | .label _, next => next
  | .exit id, _ => .exit id
  | .ret, _ => .ret
  | .seq a b, next => codeCC P nt a (codeCC P nt b next)
  | .cond c a b, next => .cond (opd P c) (codeCC P nt a next) (codeCC P nt b next)
  | .block id a, next => .block id (codeCC P nt a .fin) next
  | .loop a, _ => .loop (codeCC P nt a .fin)
  | .region _ ops false, next => opsCC P nt ops.toList ops.toList next
  | .region _ ops true, next => .draw (drawOf P nt ops.toList) next
  | _, _ => .bad

def rounds : Nat := 1000000

def onBool (v : CV) (f : Bool → Res) : Res :=
  CV.casesOn (motive_1 := fun _ => Res) v f (fun _ _ => .fail) (fun _ => .fail) .fail (fun _ _ => .fail) .fail (fun _ _ _ _ => .fail) .fail (fun _ => .fail) (fun _ _ _ => .fail) .fail (fun _ _ => .fail) .fail (fun _ => .fail) (fun _ => .fail) (fun _ => .fail) (fun _ _ _ _ => .fail) (fun _ _ _ => .fail) (fun _ _ _ => .fail)

def runN (rounds : Nat) (c : CC) : Call → Tm → St → Res :=
  CC.rec (motive := fun _ => Call → Tm → St → Res)
    (fun _ tm S => .normal tm S)
    (fun f d _ ih call tm S => Option.rec (motive := fun _ => Res) .fail (fun v => ih call (putD d v tm) S) (f tm))
    (fun f d _ ih call tm S => Option.rec (motive := fun _ => Res) .fail (fun v => ih call (putD d v tm) S) (f tm S))
    (fun f d _ ih call tm S => Option.rec (motive := fun _ => Res) .fail (fun p => Prod.rec (motive := fun _ => Res)
      (fun o mk => Option.rec (motive := fun _ => Res) .fail (fun q => Prod.rec (motive := fun _ => Res) (fun b S => ih call (putD d (mk b) tm) S) q) (alloc S o)) p) (f tm))
    (fun f d _ ih call tm S => CRes.rec (motive := fun _ => Res) .fail (fun v S => ih call (putD d v tm) S) (callRes call (f tm S)))
    (fun d _ ih call tm S => ih call (putD d nothing tm) S)
    (fun x want _ _ yes no call tm S => match x.eval tm with
      | some (.bool b) => bif b == want then yes call tm S else no call tm S
      | some _ => no call tm S
      | none => .fail)
    (fun x _ _ yes no call tm S => Option.rec (motive := fun _ => Res) .fail (fun v => onBool v fun b => Bool.rec (motive := fun _ => Res) (no call tm S) (yes call tm S) b) (x.eval tm))
    (fun d _ ih call tm S => drawRun d call tm S (fun tm S => ih call tm S))
    (fun id _ tm S => .exit id tm S)
    (fun _ tm S => .ret tm S)
    (fun id _ _ body next call tm S => Res.rec (motive := fun _ => Res) .fail (fun tm S => next call tm S)
      (fun i tm S => Bool.rec (motive := fun _ => Res) (.exit i tm S) (next call tm S) (Nat.beq i id)) (fun tm S => .ret tm S) (body call tm S))
    (fun _ body call tm S => Nat.rec (motive := fun _ => Tm → St → Res) (fun _ _ => .fail)
      (fun _ again tm S => Res.rec (motive := fun _ => Res) .fail (fun tm S => again tm S) (fun i tm S => .exit i tm S) (fun tm S => .ret tm S) (body call tm S)) rounds tm S)
    (fun _ _ _ => .fail) c

def runC (c : CC) : Call → Tm → St → Res := runN rounds c

def resC (P : Program) : ResultVar → Option (Tm → St → Option CV)
  | .tmp t => some fun tm _ => (tmpO t).eval tm
  | .cell a t => (match tyOf P t with
    | some i => some (loadR i.size (isAggD i.desc) (tmpO a))
    | none => none)

def resL (P : Program) : List ResultVar → Option (List (Tm → St → Option CV))
  | [] => some []
  | r :: rs => (match resC P r, resL P rs with
    | some f, some l => some (f :: l)
    | _, _ => none)

def readL : List (Tm → St → Option CV) → Tm → St → Option (List CV)
  | [], _, _ => some []
  | f :: l, tm, S => (match f tm S with
    | some v => (match readL l tm S with
      | some vs => some (v :: vs)
      | none => none)
    | none => none)

def tupled : List CV → CV
  | [] => .tup []
  | [v] => v
  | v :: u :: vs => .tup (v :: u :: vs)

/-- A function, made ready. -/
inductive FnC where
  | mk (k : CC) (np : Nat) (res : List (Tm → St → Option CV))
  | none

def fnC (P : Program) (f : FuncId) : FnC :=
  match P.funcs[f]? with
  | some fn => (match fn.body with
    | some c => (match resL P fn.results.toList with
      | some rs => .mk (codeCC P fn.ntmps c .fin) fn.ntmps rs
      | none => .none)
    | none => .none)
  | none => .none

abbrev Prims := FuncId → Option (List CV → St → CRes)

def layT (tm : Tm) (i : Nat) : List CV → Tm
  | [] => tm
  | v :: vs => layT (setT i v tm) (i + 1) vs

def finish (res : List (Tm → St → Option CV)) (tm : Tm) (S : St) : CRes :=
  match readL res tm S with
  | some vs => .ok (tupled vs) S
  | none => .fail

def callK (x : FnC) (call : Call) (args : List CV) (S : St) : CRes :=
  match x with
  | .mk k ntmps res =>
    bif Nat.ble args.length ntmps && Nat.ble args.length 256 then
      Res.rec (motive := fun _ => CRes) .fail (fun tm S => finish res tm S) (fun _ _ _ => .fail) (fun tm S => finish res tm S) (runC k call (layT .empty 0 args) S)
    else .fail
  | .none => .fail

def callF (P : Program) (prims : Prims) (n : Nat) : Call :=
  Nat.rec (motive := fun _ => Call) (fun _ _ _ => .fail)
    (fun _ ih f args S => match prims f with
      | some p => p args S
      | none => callK (fnC P f) ih args S) n

end
end Go.Ev
