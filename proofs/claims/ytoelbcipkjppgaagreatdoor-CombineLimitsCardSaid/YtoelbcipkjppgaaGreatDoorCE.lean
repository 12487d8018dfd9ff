/-
  The plain law: paths, texts, sorted lists. The merge of three versions. (without Little) Little; files that are equal; reports that are clean. The paths of three versions.
-/
import Derived.Test.YtoelbcipkjppgaaGreatDoorCC
import Derived.Test.YtoelbcipkjppgaaGreatDoorStB
import Derived.Laws.StructEq
set_option linter.all false

namespace Go.Proofs
open Classical

theorem mem_collect {p : ByteArray} : ∀ {l : List FileT} {out : List ByteArray}, p ∈ collect out l ↔ p ∈ out ∨ ∃ f ∈ l, f.1 = p
  | [], out => by simp [collect]
  | f :: l, out => by
    have e : collect out (f :: l) = collect (if f.1 ∈ out then out else out ++ [f.1]) l := rfl
    rw [e, mem_collect]
    by_cases h : f.1 ∈ out
    · rw [if_pos h]
      constructor
      · rintro (h1 | ⟨g, h1, h2⟩)
        · exact .inl h1
        · exact .inr ⟨g, List.mem_cons_of_mem _ h1, h2⟩
      · rintro (h1 | ⟨g, h1, h2⟩)
        · exact .inl h1
        · rcases List.mem_cons.1 h1 with rfl | h1
          · exact .inl (h2 ▸ h)
          · exact .inr ⟨g, h1, h2⟩
    · rw [if_neg h]
      constructor
      · rintro (h1 | ⟨g, h1, h2⟩)
        · rcases List.mem_append.1 h1 with h1 | h1
          · exact .inl h1
          · simp only [List.mem_singleton] at h1
            exact .inr ⟨f, List.mem_cons_self, h1.symm⟩
        · exact .inr ⟨g, List.mem_cons_of_mem _ h1, h2⟩
      · rintro (h1 | ⟨g, h1, h2⟩)
        · exact .inl (List.mem_append_left _ h1)
        · rcases List.mem_cons.1 h1 with rfl | h1
          · exact .inl (List.mem_append_right _ (by simp [h2]))
          · exact .inr ⟨g, h1, h2⟩

theorem nodup_collect : ∀ {l : List FileT} {out : List ByteArray}, out.Nodup → (collect out l).Nodup
  | [], out, h => h
  | f :: l, out, h => by
    have e : collect out (f :: l) = collect (if f.1 ∈ out then out else out ++ [f.1]) l := rfl
    rw [e]
    refine nodup_collect ?_
    by_cases h1 : f.1 ∈ out
    · rw [if_pos h1]; exact h
    · rw [if_neg h1]
      exact List.nodup_append.2 ⟨h, by simp, fun a ha b hb => by simp only [List.mem_singleton] at hb; subst hb; exact fun e => h1 (e ▸ ha)⟩

theorem mem_gather {p : ByteArray} {b l r : List FileT} : p ∈ [b, l, r].foldl collect [] ↔ (∃ f ∈ b, f.1 = p) ∨ (∃ f ∈ l, f.1 = p) ∨ ∃ f ∈ r, f.1 = p := by
  simp only [List.foldl_cons, List.foldl_nil, mem_collect, List.not_mem_nil, false_or, or_assoc]
theorem nodup_gather (b l r : List FileT) : ([b, l, r].foldl collect []).Nodup := by
  simp only [List.foldl_cons, List.foldl_nil]
  exact nodup_collect (nodup_collect (nodup_collect List.nodup_nil))

/-- x < y, as the program sees it. -/
def ltB (x y : ByteArray) : Prop := x.data.toList < y.data.toList

theorem ba_ext {x y : ByteArray} (h : x.data.toList = y.data.toList) : x = y := ByteArray.ext (Array.ext' h)
theorem ltB_irrefl (x : ByteArray) : ¬ ltB x x := fun h => Std.lt_irrefl (show x.data.toList < x.data.toList from h)
theorem ltB_trans {x y z : ByteArray} (h : ltB x y) (h' : ltB y z) : ltB x z := Std.lt_trans (show x.data.toList < y.data.toList from h) h'
theorem ltB_total (x y : ByteArray) : ltB x y ∨ x = y ∨ ltB y x := by
  rcases lt_total_list x.data.toList y.data.toList with h | h | h
  · exact .inl h
  · exact .inr (.inl (ba_ext h))
  · exact .inr (.inr h)

theorem mem_sortS {p : ByteArray} {l : List ByteArray} : p ∈ sortS l ↔ p ∈ l := by
  unfold sortS
  rw [List.mem_map]
  constructor
  · rintro ⟨s, hs, rfl⟩
    have := (List.mergeSort_perm (l.map fun s => s.data.toList) (fun x y => decide (x ≤ y))).mem_iff.1 hs
    obtain ⟨t, ht, rfl⟩ := List.mem_map.1 this
    exact ht
  · intro h
    exact ⟨p.data.toList, (List.mergeSort_perm (l.map fun s => s.data.toList) (fun x y => decide (x ≤ y))).mem_iff.2 (List.mem_map.2 ⟨p, h, rfl⟩), rfl⟩

theorem sortS_length (l : List ByteArray) : (sortS l).length = l.length := by
  unfold sortS
  rw [List.length_map, List.length_mergeSort, List.length_map]

theorem sortS_sorted {l : List ByteArray} (h : l.Nodup) : (sortS l).Pairwise ltB := by
  unfold sortS
  rw [List.pairwise_map]
  have h1 : ((l.map fun s => s.data.toList).mergeSort fun x y => decide (x ≤ y)).Pairwise fun x y => decide (x ≤ y) = true :=
    List.pairwise_mergeSort (fun a b c h1 h2 => by
      simp only [decide_eq_true_eq] at h1 h2 ⊢
      exact Std.le_trans h1 h2) (fun a b => by
      simp only [Bool.or_eq_true, decide_eq_true_eq]
      exact Std.le_total) _
  have h2 : ((l.map fun s => s.data.toList).mergeSort fun x y => decide (x ≤ y)).Nodup :=
    ((List.mergeSort_perm _ _).nodup_iff).2 (List.pairwise_map.2 (h.imp fun hne e => hne (ba_ext e)))
  refine (h1.and h2).imp ?_
  rintro x y ⟨hle, hne⟩
  simp only [decide_eq_true_eq] at hle
  show x < y
  rcases lt_total_list x y with h | h | h
  · exact h
  · exact absurd h hne
  · exact absurd hle (by
      intro hle
      have := Std.lt_of_lt_of_le h hle
      exact Std.lt_irrefl this)

/-- Two sorted lists with the same elements are one. -/
theorem sorted_ext {α : Type} {lt : α → α → Prop} (irr : ∀ x, ¬ lt x x) (tr : ∀ x y z, lt x y → lt y z → lt x z) : ∀ {l m : List α}, l.Pairwise lt → m.Pairwise lt → (∀ x, x ∈ l ↔ x ∈ m) → l = m
  | [], [], _, _, _ => rfl
  | [], b :: m, _, _, h => by have := (h b).2 List.mem_cons_self; simp at this
  | a :: l, [], _, _, h => by have := (h a).1 List.mem_cons_self; simp at this
  | a :: l, b :: m, hl, hm, h => by
    obtain ⟨hl1, hl2⟩ := List.pairwise_cons.1 hl
    obtain ⟨hm1, hm2⟩ := List.pairwise_cons.1 hm
    have hab : a = b := by
      rcases List.mem_cons.1 ((h a).1 List.mem_cons_self) with e | e
      · exact e
      · rcases List.mem_cons.1 ((h b).2 List.mem_cons_self) with e' | e'
        · exact e'.symm
        · exact absurd (tr _ _ _ (hm1 a e) (hl1 b e')) (irr b)
    subst hab
    congr 1
    refine sorted_ext irr tr hl2 hm2 fun x => ⟨fun hx => ?_, fun hx => ?_⟩
    · rcases List.mem_cons.1 ((h x).1 (List.mem_cons_of_mem _ hx)) with e | e
      · subst e; exact absurd (hl1 x hx) (irr x)
      · exact e
    · rcases List.mem_cons.1 ((h x).2 (List.mem_cons_of_mem _ hx)) with e | e
      · subst e; exact absurd (hm1 x hx) (irr x)
      · exact e

/-! ### The texts of a version -/

theorem textOf_snoc (l : List FileT) (f : FileT) : textOf (l ++ [f]) = updS (textOf l) f.1 f.2 := by
  unfold textOf
  rw [List.foldl_append]
  rfl

theorem snoc_ind {α : Type} {Q : List α → Prop} (h0 : Q []) (h1 : ∀ l a, Q l → Q (l ++ [a])) (l : List α) : Q l := by
  rw [← List.reverse_reverse l]
  induction l.reverse with
  | nil => exact h0
  | cons a m ih => rw [List.reverse_cons]; exact h1 _ _ ih

theorem textOf_isSome {l : List FileT} {p : ByteArray} : (textOf l p).isSome = true ↔ ∃ f ∈ l, f.1 = p := by
  refine snoc_ind (Q := fun l => (textOf l p).isSome = true ↔ ∃ f ∈ l, f.1 = p) (by simp [textOf]) (fun l f ih => ?_) l
  · rw [textOf_snoc]
    unfold updS
    by_cases h : p = f.1
    · rw [if_pos h]
      simp only [Option.isSome_some, true_iff]
      exact ⟨f, by simp, h.symm⟩
    · rw [if_neg h, ih]
      constructor
      · rintro ⟨g, hg, e⟩
        exact ⟨g, List.mem_append_left _ hg, e⟩
      · rintro ⟨g, hg, e⟩
        rcases List.mem_append.1 hg with hg | hg
        · exact ⟨g, hg, e⟩
        · simp only [List.mem_singleton] at hg
          subst hg
          exact absurd e.symm h

theorem textOf_mem {l : List FileT} {p x : ByteArray} (h : textOf l p = some x) : (p, x) ∈ l := by
  refine snoc_ind (Q := fun l => textOf l p = some x → (p, x) ∈ l) (fun h => by simp [textOf] at h) (fun l f ih h => ?_) l h
  · rw [textOf_snoc] at h
    unfold updS at h
    by_cases e : p = f.1
    · rw [if_pos e] at h
      cases h
      subst e
      exact List.mem_append_right _ (by simp)
    · rw [if_neg e] at h
      exact List.mem_append_left _ (ih h)

/-- The paths are in order, each once. -/
def Ordered (l : List FileT) : Prop := l.Pairwise fun f g => ltB f.1 g.1

theorem leS_false {x y : ByteArray} (h : leS y x = false) : ltB x y := by
  rw [leS_eq] at h
  simp only [Bool.not_eq_false', bytesLess_eq, decide_eq_true_eq, ByteArray.toList_eq] at h
  exact h

theorem ordered_of {l : List FileT} (h : ¬ badOrder l) : Ordered l := by
  have h1 : ∀ i (a b : FileT), l[i]? = some a → l[i + 1]? = some b → ltB a.1 b.1 := by
    intro i a b ha hb
    refine leS_false ?_
    cases hc : leS b.1 a.1 with
    | false => rfl
    | true => exact absurd ⟨i, a, b, ha, hb, hc⟩ h
  clear h
  unfold Ordered
  induction l with
  | nil => exact List.Pairwise.nil
  | cons f l ih =>
    have ih := ih fun i a b ha hb => h1 (i + 1) a b (by simpa using ha) (by simpa using hb)
    refine List.pairwise_cons.2 ⟨fun g hg => ?_, ih⟩
    cases l with
    | nil => simp at hg
    | cons f2 l =>
      have h12 := h1 0 f f2 rfl rfl
      rcases List.mem_cons.1 hg with rfl | hg
      · exact h12
      · exact ltB_trans h12 ((List.pairwise_cons.1 ih).1 g hg)

theorem textOf_of_mem {l : List FileT} (h : Ordered l) {f : FileT} (hf : f ∈ l) : textOf l f.1 = some f.2 := by
  have h1 : (textOf l f.1).isSome = true := textOf_isSome.2 ⟨f, hf, rfl⟩
  obtain ⟨x, hx⟩ := Option.isSome_iff_exists.1 h1
  have hm := textOf_mem hx
  have : f = (f.1, x) := by
    by_cases e : f = (f.1, x)
    · exact e
    · have key : ∀ {a b : FileT}, a ∈ l → b ∈ l → a ≠ b → ltB a.1 b.1 ∨ ltB b.1 a.1 := by
        intro a b ha hb hne
        obtain ⟨i, hi⟩ := List.mem_iff_getElem?.1 ha
        obtain ⟨j, hj⟩ := List.mem_iff_getElem?.1 hb
        obtain ⟨hi1, hi2⟩ := List.getElem?_eq_some_iff.1 hi
        obtain ⟨hj1, hj2⟩ := List.getElem?_eq_some_iff.1 hj
        have hp := List.pairwise_iff_getElem.1 h
        rcases Nat.lt_trichotomy i j with hij | hij | hij
        · left; have := hp i j hi1 hj1 hij; rwa [hi2, hj2] at this
        · subst hij; rw [hi] at hj; exact absurd (Option.some.inj hj) hne
        · right; have := hp j i hj1 hi1 hij; rwa [hi2, hj2] at this
      rcases key hf hm e with h2 | h2
      · exact absurd h2 (ltB_irrefl _)
      · exact absurd h2 (ltB_irrefl _)
  rw [hx, congrArg Prod.snd this]

/-- What the merge keeps, told path by path. -/
theorem filterMap_eq {l : List FileT} (h : Ordered l) {ps : List ByteArray} (hp : ps.Pairwise ltB) (hm : ∀ f ∈ l, f.1 ∈ ps) {g : ByteArray → Option ByteArray} (hg : ∀ p ∈ ps, g p = textOf l p) :
    (ps.filterMap fun p => (g p).map fun t => (p, t)) = l := by
  refine sorted_ext (lt := fun f g : FileT => ltB f.1 g.1) (fun x => ltB_irrefl _) (fun x y z => ltB_trans) ?_ h ?_
  · refine List.pairwise_filterMap.2 (hp.imp ?_)
    intro a b hab x hx y hy
    simp only [Option.map_eq_some_iff] at hx hy
    obtain ⟨t, _, rfl⟩ := hx
    obtain ⟨u, _, rfl⟩ := hy
    exact hab
  · rintro ⟨p, t⟩
    simp only [List.mem_filterMap, Option.map_eq_some_iff, Prod.mk.injEq]
    constructor
    · rintro ⟨q, hq, u, hu, rfl, rfl⟩
      rw [hg q hq] at hu
      exact textOf_mem hu
    · intro hf
      exact ⟨p, hm _ hf, t, by rw [hg p (hm _ hf)]; exact textOf_of_mem h hf, rfl, rfl⟩
end Go.Proofs

namespace Go.Proofs
open Go.RowKit Go.Maps Go.MapKept
open Classical

theorem infoFile : (Tryz.prog.info? 37).map (fun i => (i.zero, i.size, i.bytes)) = some (some (.agg #[.string .empty, .string .empty]), 2, 32) := by kernel_rfl
theorem infoReport : (Tryz.prog.info? 43).map (fun i => (i.zero, i.size, i.bytes)) = some (some (.agg #[.string .empty, .int .i64 0, .slice none 0 0, .slice none 0 0]), 4, 72) := by kernel_rfl

set_option maxHeartbeats 400000 in
theorem open_nil (w : World) : Calls Tryz.prog 15 #[.slice none 0 0] w (Opened w []) := by
  have hmm := @run_makeMap Tryz.prog
  go_enter Tryz.func15, Tryz.ntmps15
  go_wp2
  refine wp_loop_rounds 1 ?_
  rw [rounds_succ]
  go_wp2
  go_ret
  exact ⟨_, rfl, Nat.le_refl _, smap_made w, below_alloc _⟩

theorem open_val (v : Value) (l : List FileT) (w : World) (h : FilesVal w v l) (hl : FilesOK l) : Calls Tryz.prog 15 #[v] w (Opened w l) := by
  rcases h with ⟨rfl, rfl⟩ | ⟨b, off, cap, rfl, hlt, hc⟩
  · exact open_nil w
  · exact open_calls b off cap l w hl hc hlt

/-- The paths of three versions, sorted. -/
noncomputable def pathsL (b l r : List FileT) : List ByteArray := sortS ([b, l, r].foldl collect [])
/-- The files of the merge. -/
noncomputable def mergedL (b l r : List FileT) (ps : List ByteArray) : List FileT := ps.filterMap fun p => (Go.Ev.mergeO (textOf b p) (textOf l p) (textOf r p)).map fun t => (p, t)

def fileCells (f : FileT) : List Value := [.string f.1, .string f.2]
def repCells (p : ByteArray) : List Value := [.string p, .int .i64 1, .slice none 0 0, .slice none 0 0]

/-- A slice of reports of files that were the same. -/
def RepsVal (w : World) (v : Value) (ps : List ByteArray) : Prop :=
  (v = .slice none 0 0 ∧ ps = []) ∨ ∃ b cap, v = .slice (some ⟨b, 0, none⟩) ps.length cap ∧ b < w.heap.size ∧ ∀ i (p : ByteArray), ps[i]? = some p →
    w.cell? ⟨b, i * 4, none⟩ = some (.string p) ∧ w.cell? ⟨b, i * 4 + 1, none⟩ = some (.int .i64 1) ∧ w.cell? ⟨b, i * 4 + 2, none⟩ = some (.slice none 0 0) ∧ w.cell? ⟨b, i * 4 + 3, none⟩ = some (.slice none 0 0)

/-- What comes of a merge. -/
def Merged (w : World) (b l r : List FileT) (e : Ending) (w' : World) : Prop :=
  Below w.heap.size w w' ∧
    ((chk3 b l r ≠ 0 ∧ e = .returned (.tuple #[.slice none 0 0, .slice none 0 0, .int .i64 (chk3 b l r)])) ∨
     (chk3 b l r = 0 ∧ 32 < (mergedL b l r (pathsL b l r)).length ∧ e = .returned (.tuple #[.slice none 0 0, .slice none 0 0, .int .i64 3])) ∨
     (chk3 b l r = 0 ∧ ¬ 32 < (mergedL b l r (pathsL b l r)).length ∧ ∃ fv rv, e = .returned (.tuple #[fv, rv, .int .i64 0]) ∧ FilesVal w' fv (mergedL b l r (pathsL b l r)) ∧ RepsVal w' rv (pathsL b l r)))

theorem chkE_zero {l : List FileT} (h : chkE l = 0) : l.length ≤ 32 ∧ (∀ f ∈ l, pathB f.1 = true) ∧ ¬ badOrder l ∧ ∀ f ∈ l, f.2.size ≤ 65536 := by
  unfold chkE at h
  split at h
  · cases h
  split at h
  · cases h
  split at h
  · cases h
  split at h
  · cases h
  rename_i h1 h2 h3 h4
  refine ⟨by omega, fun f hf => ?_, h3, fun f hf => ?_⟩
  · cases hp : pathB f.1 with
    | true => rfl
    | false => exact absurd ⟨f, hf, hp⟩ h2
  · by_cases hz : 65536 < f.2.size
    · exact absurd ⟨f, hf, hz⟩ h4
    · omega

theorem chk3_zero {a b c : List FileT} (h : chk3 a b c = 0) : chkE a = 0 ∧ chkE b = 0 ∧ chkE c = 0 := by
  unfold chk3 at h
  split at h
  · split at h
    · exact ⟨by assumption, by assumption, h⟩
    · contradiction
  · contradiction

set_option maxRecDepth 100000 in
set_option maxHeartbeats 1000000 in
theorem merge_bad (v0 v1 v2 v3 : Value) (l0 l1 l2 : List FileT) (w : World) (h0 : FilesVal w v0 l0) (h1 : FilesVal w v1 l1) (h2 : FilesVal w v2 l2) (k0 : FilesOK l0) (k1 : FilesOK l1) (k2 : FilesOK l2) (hbad : chk3 l0 l1 l2 ≠ 0) :
    Calls Tryz.prog 6 #[v0, v1, v2, v3] w (Merged w l0 l1 l2) := by
  have hM : ∀ e w', Below w.heap.size w w' → e = .returned (.tuple #[.slice none 0 0, .slice none 0 0, .int .i64 (chk3 l0 l1 l2)]) → Merged w l0 l1 l2 e w' := fun e w' hb he => ⟨hb, .inl ⟨hbad, he⟩⟩
  have HM := Lib.hid hM
  have pc := ccheck_calls v0 v1 v2 l0 l1 l2 w h0 h1 h2 k0 k1 k2
  clear hM
  generalize chk3 l0 l1 l2 = x at *
  go_enter Tryz.func6, Tryz.ntmps6
  go_wp2_with fail
  refine pc.mono ?_
  rintro e w' ⟨rfl, hb⟩
  have HB := Lib.hid hb
  clear hb pc
  go_wp2
  go_ret3
  exact HM.out _ _ HB.out rfl

theorem rows_apart {w : World} {base e1 s1 n1 e2 s2 n2 : Nat} {v1 v2 : Value} {xs1 xs2 : List Value} (h1 : w.ownsRow base e1 s1 v1 n1 xs1) (h2 : w.ownsRow base e2 s2 v2 n2 xs2) (hne : e1 ≠ e2) : v1.ownBlock = none ∨ v1.ownBlock ≠ v2.ownBlock := by
  obtain ⟨_, h1⟩ := h1
  obtain ⟨_, h2⟩ := h2
  rcases h1 with ⟨rfl, _⟩ | ⟨g, cap, cur, rfl, _, hg, _⟩
  · exact .inl rfl
  · refine .inr fun e => ?_
    rcases h2 with ⟨rfl, _⟩ | ⟨g', cap', cur', rfl, _, hg', _⟩
    · cases e
    · cases e
      rw [hg] at hg'
      simp only [Option.some.injEq, Obj.cells.injEq] at hg'
      exact hne hg'.2.1

theorem grown_below {w0 w w' : World} {B : Nat} {row : Option Nat} (h : Below B w0 w) (hg : w.grownBy w' row) (hr : ∀ k, row = some k → B ≤ k) (hB : B ≤ w.heap.size) : Below B w0 w' :=
  h.trans ⟨hg.os, hg.tape, hg.output, hg.size, fun k hk => hg.block k (by omega) fun e => by have := hr k e.symm; omega⟩

theorem new_cells2 (w : World) (x y : Value) (t : TypeId) : ∀ j u, [x, y][j]? = some u → (w.alloc (.cells #[x, y] t)).cell? ((⟨w.heap.size, 0, none⟩ : Addr).add j) = some u := by
  intro j u h
  have := (MapKept.heap_alloc w (.cells #[x, y] t)).1
  match j, h with
  | 0, h => cases h; show (w.alloc (.cells #[x, y] t)).cell? ⟨w.heap.size, 0, none⟩ = some x; simp only [World.cell?, this]; rfl
  | 1, h => cases h; show (w.alloc (.cells #[x, y] t)).cell? ⟨w.heap.size, 0 + 1, none⟩ = some y; simp only [World.cell?, this]; rfl
theorem new_cells4 (w : World) (x y z u : Value) (t : TypeId) : ∀ j c, [x, y, z, u][j]? = some c → (w.alloc (.cells #[x, y, z, u] t)).cell? ((⟨w.heap.size, 0, none⟩ : Addr).add j) = some c := by
  intro j c h
  have := (MapKept.heap_alloc w (.cells #[x, y, z, u] t)).1
  match j, h with
  | 0, h => cases h; show (w.alloc (.cells #[x, y, z, u] t)).cell? ⟨w.heap.size, 0, none⟩ = some x; simp only [World.cell?, this]; rfl
  | 1, h => cases h; show (w.alloc (.cells #[x, y, z, u] t)).cell? ⟨w.heap.size, 0 + 1, none⟩ = some y; simp only [World.cell?, this]; rfl
  | 2, h => cases h; show (w.alloc (.cells #[x, y, z, u] t)).cell? ⟨w.heap.size, 0 + 2, none⟩ = some z; simp only [World.cell?, this]; rfl
  | 3, h => cases h; show (w.alloc (.cells #[x, y, z, u] t)).cell? ⟨w.heap.size, 0 + 3, none⟩ = some u; simp only [World.cell?, this]; rfl
theorem one_file (f : FileT) : ∀ u ∈ fileCells f, u.oneCell' = true := by
  intro u hu
  simp only [fileCells, List.mem_cons, List.not_mem_nil, or_false] at hu
  rcases hu with rfl | rfl <;> rfl
theorem one_rep (p : ByteArray) : ∀ u ∈ repCells p, u.oneCell' = true := by
  intro u hu
  simp only [repCells, List.mem_cons, List.not_mem_nil, or_false] at hu
  rcases hu with rfl | rfl | rfl | rfl <;> rfl

theorem size_alloc (w : World) (o : Obj) : (w.alloc o).heap.size = w.heap.size + 1 := by simp
theorem below_grown {w w' : World} (h : Below w.heap.size w w') : w.grownBy w' none := ⟨h.os, h.tape, h.output, h.size, fun k hk _ => h.block k hk⟩
theorem own_block_ge {w : World} {base e s n : Nat} {v : Value} {xs : List Value} (h : w.ownsRow base e s v n xs) : ∀ k, v.ownBlock = some k → base ≤ k := fun k hk => (World.ownsRow.lt h k hk).1

theorem box_cells {w : World} {B : Nat} {x y z u : Value} {t : TypeId} {fz : Nat × Nat} (h : w.heap[B]? = some (.cells #[x, y, z, u] t fz)) :
    w.cell? ⟨B, 0, none⟩ = some x ∧ w.cell? ⟨B, 1, none⟩ = some y ∧ w.cell? ⟨B, 2, none⟩ = some z ∧ w.cell? ⟨B, 3, none⟩ = some u := by
  refine ⟨?_, ?_, ?_, ?_⟩ <;> (simp only [World.cell?, h]; rfl)

theorem flat_get {α : Type} {f : α → List Value} {c : Nat} (hc : ∀ x, (f x).length = c) : ∀ {l : List α} {i j : Nat} {x : α}, l[i]? = some x → j < c → (l.flatMap f)[i * c + j]? = (f x)[j]?
  | [], _, _, _, h, _ => by simp at h
  | y :: l, 0, j, x, h, hj => by
    cases h
    rw [List.flatMap_cons, Nat.zero_mul, Nat.zero_add, List.getElem?_append_left (by rw [hc]; exact hj)]
  | y :: l, i + 1, j, x, h, hj => by
    rw [List.flatMap_cons, List.getElem?_append_right (by rw [hc, Nat.add_mul]; omega), hc]
    have := flat_get hc (l := l) (i := i) (j := j) (x := x) (by simpa using h) hj
    rw [← this]
    congr 1
    rw [Nat.add_mul]
    omega

theorem files_of_row {w : World} {base e : Nat} {v : Value} {l : List FileT} (h : w.ownsRow base e 2 v l.length (l.flatMap fileCells)) : FilesVal w v l := by
  have h0 := h
  obtain ⟨_, h⟩ := h
  rcases h with ⟨rfl, h⟩ | ⟨g, cap, cur, rfl, _, hg, _⟩
  · exact .inl ⟨rfl, List.length_eq_zero_iff.1 h⟩
  · refine .inr ⟨g, 0, cap, rfl, (Array.getElem?_eq_some_iff.1 hg).1, fun i f hf => ?_⟩
    have hi : i < l.length := (List.getElem?_eq_some_iff.1 hf).1
    have c0 := World.ownsRow.cellAt h0 (i * 2) (by omega)
    have c1 := World.ownsRow.cellAt h0 (i * 2 + 1) (by omega)
    have g0 := flat_get (f := fileCells) (c := 2) (fun _ => rfl) (j := 0) hf (by omega)
    have g1 := flat_get (f := fileCells) (c := 2) (fun _ => rfl) (j := 1) hf (by omega)
    rw [Nat.add_zero] at g0
    rw [g0] at c0
    rw [g1] at c1
    rw [Nat.zero_add]
    exact ⟨c0, c1⟩

theorem reps_of_row {w : World} {base e : Nat} {v : Value} {l : List ByteArray} (h : w.ownsRow base e 4 v l.length (l.flatMap repCells)) : RepsVal w v l := by
  have h0 := h
  obtain ⟨_, h⟩ := h
  rcases h with ⟨rfl, h⟩ | ⟨g, cap, cur, rfl, _, hg, _⟩
  · exact .inl ⟨rfl, List.length_eq_zero_iff.1 h⟩
  · refine .inr ⟨g, cap, rfl, (Array.getElem?_eq_some_iff.1 hg).1, fun i p hp => ?_⟩
    have hi : i < l.length := (List.getElem?_eq_some_iff.1 hp).1
    have at_ : ∀ j, j < 4 → w.cell? ⟨g, i * 4 + j, none⟩ = (repCells p)[j]? := fun j hj => by
      rw [World.ownsRow.cellAt h0 (i * 4 + j) (by omega)]
      exact flat_get (f := repCells) (c := 4) (fun _ => rfl) hp hj
    exact ⟨at_ 0 (by omega), at_ 1 (by omega), at_ 2 (by omega), at_ 3 (by omega)⟩

theorem row_form {w : World} {base e s n : Nat} {v : Value} {xs : List Value} (h : w.ownsRow base e s v n xs) : ∃ a c, v = .slice a n c := by
  obtain ⟨_, h⟩ := h
  rcases h with ⟨rfl, rfl⟩ | ⟨g, cap, cur, rfl, _⟩
  · exact ⟨_, _, rfl⟩
  · exact ⟨_, _, rfl⟩

theorem mergedL_snoc {b l r : List FileT} {ps : List ByteArray} {k : Nat} {p : ByteArray} (h : ps[k]? = some p) :
    mergedL b l r (ps.take (k + 1)) = mergedL b l r (ps.take k) ++ (match Go.Ev.mergeO (textOf b p) (textOf l p) (textOf r p) with | some t => [(p, t)] | none => []) := by
  unfold mergedL
  rw [List.take_add_one, h, List.filterMap_append]
  congr 1
  simp only [Option.toList, List.filterMap_cons, List.filterMap_nil]
  cases Go.Ev.mergeO (textOf b p) (textOf l p) (textOf r p) <;> rfl
theorem mergedL_length (b l r : List FileT) (ps : List ByteArray) : (mergedL b l r ps).length ≤ ps.length := List.length_filterMap_le _ _

set_option maxRecDepth 100000 in
set_option maxHeartbeats 4000000 in
theorem merge_good (v0 v1 v2 : Value) (l0 l1 l2 : List FileT) (w : World) (h0 : FilesVal w v0 l0) (h1 : FilesVal w v1 l1) (h2 : FilesVal w v2 l2) (k0 : FilesOK l0) (k1 : FilesOK l1) (k2 : FilesOK l2) (hgood : chk3 l0 l1 l2 = 0)
    (hor : ∀ p, textOf l1 p = textOf l0 p ∨ textOf l2 p = textOf l0 p ∨ textOf l1 p = textOf l2 p) :
    Calls Tryz.prog 6 #[v0, v1, v2, .slice none 0 0] w (Merged w l0 l1 l2) := by
  obtain ⟨g0, g1, g2⟩ := chk3_zero hgood
  have n0 := (chkE_zero g0).1
  have n1 := (chkE_zero g1).1
  have n2 := (chkE_zero g2).1
  have pc := ccheck_calls v0 v1 v2 l0 l1 l2 w h0 h1 h2 k0 k1 k2
  rw [hgood] at pc
  have HG := Lib.hid (And.intro hgood (And.intro g0 (And.intro g1 g2)))
  clear hgood g0 g1 g2
  obtain ⟨fi, fi0, fz0, fz1, fz2⟩ := info_parts infoFile
  obtain ⟨ri, ri0, rz0, rz1, rz2⟩ := info_parts infoReport
  go_enter Tryz.func6, Tryz.ntmps6
  go_wp2_with fail
  refine pc.mono ?_
  rintro e w1 ⟨rfl, hb⟩
  have HB1 := Lib.hid hb
  clear hb pc
  go_wp2_with fail
  refine (open_val v0 l0 _ (h0.below HB1.out) k0).mono ?_
  rintro e w2 ⟨m0, rfl, hm0, hs0, hb⟩
  have HB2 := Lib.hid (HB1.out.trans (hb.mono HB1.out.size))
  have HS0 := Lib.hid hs0
  clear hb hs0 hm0
  go_wp2_with fail
  refine (open_val v1 l1 _ (h1.below HB2.out) k1).mono ?_
  rintro e w3 ⟨m1, rfl, hm1, hs1, hb⟩
  have HB3 := Lib.hid (HB2.out.trans (hb.mono HB2.out.size))
  have HS0' := Lib.hid (HS0.out.below hb HS0.out.lt)
  have HS1 := Lib.hid hs1
  clear hb hs1 hm1 HS0
  go_wp2_with fail
  refine (open_val v2 l2 _ (h2.below HB3.out) k2).mono ?_
  rintro e w4 ⟨m2, rfl, hm2, hs2, hb⟩
  have HB4 := Lib.hid (HB3.out.trans (hb.mono HB3.out.size))
  have HS0 := Lib.hid (HS0'.out.below hb HS0'.out.lt)
  have HS1' := Lib.hid (HS1.out.below hb HS1.out.lt)
  have HS2 := Lib.hid hs2
  clear hb hs2 hm2 HS0' HS1
  go_wp2_with fail
  have hbo := below_alloc (w := w4) (.cells #[.map (some m0), .map (some m1), .map (some m2), .slice none 0 0] 52)
  have hBo := HB4.out.trans (hbo.mono HB4.out.size)
  refine (paths_calls v0 v1 v2 l0 l1 l2 _ (h0.below hBo) (h1.below hBo) (h2.below hBo) k0 k1 k2 (by omega) (by omega) (by omega)).mono ?_
  rintro e w5 ⟨pv, rfl, hpv, hb⟩
  have HB5 := Lib.hid (hBo.trans (hb.mono hBo.size))
  have hmg : Merger w5 w4.heap.size m0 m1 m2 (textOf l0) (textOf l1) (textOf l2) := by
    refine Merger.below ⟨⟨52, (0, 0), ?_⟩, ⟨_, HS0.out.below hbo HS0.out.lt⟩, ⟨_, HS1'.out.below hbo HS1'.out.lt⟩, ⟨_, HS2.out.below hbo HS2.out.lt⟩⟩ hb
    exact (MapKept.heap_alloc w4 _).1
  have HMG := Lib.hid hmg
  have HPV : Hid (StrsVal w5 pv (pathsL l0 l1 l2)) := Lib.hid hpv
  clear hb hbo hBo hmg hpv HS0 HS1' HS2 h0 h1 h2
  obtain ⟨pp, pcap, rfl⟩ : ∃ p c, pv = .slice p (pathsL l0 l1 l2).length c := by
    rcases HPV.out with ⟨rfl, hn⟩ | ⟨b, cap, rfl, _⟩
    · exact ⟨none, 0, by rw [hn]; rfl⟩
    · exact ⟨_, _, rfl⟩
  have hPL : Hid ((pathsL l0 l1 l2).length ≤ 96) := Lib.hid (by
    unfold pathsL
    rw [sortS_length]
    have h1 := collect_length [] l0
    have h2 := collect_length (collect [] l0) l1
    have h3 := collect_length (collect (collect [] l0) l1) l2
    simp only [List.foldl_cons, List.foldl_nil, List.length_nil] at *
    omega)
  have hPS : Hid (∀ p ∈ pathsL l0 l1 l2, p.size ≤ 9223372036854775807) := Lib.hid (by
    intro p hp
    rcases mem_gather.1 (mem_sortS.1 hp) with ⟨f, hf, rfl⟩ | ⟨f, hf, rfl⟩ | ⟨f, hf, rfl⟩
    · exact (k0.2 f hf).1
    · exact (k1.2 f hf).1
    · exact (k2.2 f hf).1)
  have hT : Hid (∀ p, (∀ x, textOf l0 p = some x → x.size ≤ 65536) ∧ (∀ x, textOf l1 p = some x → x.size ≤ 65536) ∧ (∀ x, textOf l2 p = some x → x.size ≤ 65536)) := Lib.hid (fun p =>
    ⟨fun x h => (chkE_zero HG.out.2.1).2.2.2 _ (textOf_mem h), fun x h => (chkE_zero HG.out.2.2.1).2.2.2 _ (textOf_mem h), fun x h => (chkE_zero HG.out.2.2.2).2.2.2 _ (textOf_mem h)⟩)
  have HPA : Hid (∀ i p, (pathsL l0 l1 l2)[i]? = some p → ∃ b, pp = some ⟨b, 0, none⟩ ∧ b < w5.heap.size ∧ w5.cell? ⟨b, i, none⟩ = some (.string p)) := Lib.hid (by
    intro i p hp
    rcases HPV.out with ⟨_, hn⟩ | ⟨b, cap, e, hlt, hc⟩
    · rw [hn] at hp; simp at hp
    · cases e
      exact ⟨b, rfl, hlt, hc i p hp⟩)
  have HFIN : Hid (∀ e w', Merged w l0 l1 l2 e w' ↔ Merged w l0 l1 l2 e w') := Lib.hid fun _ _ => Iff.rfl
  generalize hP : pathsL l0 l1 l2 = P at *
  have HP := Lib.hid hP
  clear hP HPV
  go_wp2
  go_loopw [13, 14, 42] (fun fv rv i w' => ∃ k : Nat, k ≤ P.length ∧ Below w5.heap.size w5 w' ∧
      w'.ownsRow w5.heap.size 37 2 fv (mergedL l0 l1 l2 (P.take k)).length ((mergedL l0 l1 l2 (P.take k)).flatMap fileCells) ∧ w'.ownsRow w5.heap.size 43 4 rv k ((P.take k).flatMap repCells) ∧ i = .int .i64 k) (fun _ _ i _ => P.length - (intOf i).toNat)
  case atStart => exact ⟨0, by omega, Below.refl _ _, World.ownsRow_nil _ _ _ _, World.ownsRow_nil _ _ _ _, rfl⟩
  case round =>
    rename_i wr hrel
    obtain ⟨k, hk, hbel, hrf, hrr, rfl⟩ := hrel
    have HB := Lib.hid hbel
    have HRF := Lib.hid hrf
    have HRR := Lib.hid hrr
    clear hbel hrf hrr
    by_cases hlt : k < P.length
    · obtain ⟨p, hp⟩ : ∃ p, P[k]? = some p := ⟨P[k], List.getElem?_eq_getElem hlt⟩
      obtain ⟨b, rfl, hbl, hcell⟩ := HPA.out k p hp
      have hcell := (HB.out.cell (p := ⟨b, k, none⟩) hbl).trans hcell
      have hT3 := hT.out p
      have pf := Go.Ev.mfile_calls (HMG.out.below HB.out) (hPS.out p (List.mem_of_getElem? hp)) hT3.1 hT3.2.1 hT3.2.2 (hor p)
      have HPK := Lib.hid hp
      clear hp hT3
      have hml := mergedL_length l0 l1 l2 (P.take k)
      have htl : (P.take k).length ≤ P.length := List.length_take_le' ..
      have hpl := hPL.out
      have HSN := Lib.hid (mergedL_snoc (b := l0) (l := l1) (r := l2) HPK.out)
      have HRS : Hid ((P.take (k + 1)).flatMap repCells = (P.take k).flatMap repCells ++ repCells p) := Lib.hid (by rw [List.take_add_one, HPK.out, List.flatMap_append]; rfl)
      cases hmo : Go.Ev.mergeO (textOf l0 p) (textOf l1 p) (textOf l2 p) with
      | none =>
        rw [hmo] at pf
        have HSN2 : Hid (mergedL l0 l1 l2 (P.take (k + 1)) = mergedL l0 l1 l2 (P.take k)) := Lib.hid (by rw [HSN.out, hmo]; simp)
        have pf2 : Calls Tryz.prog 17 #[.pointer (some ⟨w4.heap.size, 0, none⟩), .string p] wr fun e w' => e = .returned (.tuple #[.string ⟨#[]⟩, .agg #[.string p, .int .i64 1, .slice none 0 0, .slice none 0 0], .bool false, .int .i64 0]) ∧ Below wr.heap.size wr w' := pf
        clear pf hmo HSN
        generalize mergedL l0 l1 l2 (P.take k) = ml at *
        go_wp2_with fail
        refine pf2.mono ?_
        rintro e w6 ⟨rfl, hb⟩
        have HB6 := Lib.hid hb
        have HR6 : Hid (w6.ownsRow w5.heap.size 43 4 u14 k ((P.take k).flatMap repCells)) := Lib.hid (World.ownsRow.kept HRR.out (below_grown hb) (by rcases u14.ownBlock with _ | g; exact .inl rfl; exact .inr (by simp)))
        have HF6 : Hid (w6.ownsRow w5.heap.size 37 2 u13 ml.length (ml.flatMap fileCells)) := Lib.hid (World.ownsRow.kept HRF.out (below_grown hb) (by rcases u13.ownBlock with _ | g; exact .inl rfl; exact .inr (by simp)))
        have hn4 := Lib.hid (new_cells4 (w6.alloc (.cells #[.string p, .int .i64 1, .slice none 0 0, .slice none 0 0] 43)) (.string p) (.int .i64 1) (.slice none 0 0) (.slice none 0 0) 43)
        have hb5 : Hid (w5.heap.size ≤ w6.heap.size) := Lib.hid (Nat.le_trans HB.out.size hb.size)
        clear hb pf2
        go_wp2_with (at_builtin; refine wpList_append_own _ rfl (.tmp 64) (.tmp 66) 27 rfl w5.heap.size 43 ri _ 4 72 Tryz.underlying27 ri0 rz0 rz1 rz2 rfl (by decide) _ k ((P.take k).flatMap repCells) rfl (World.ownsRow.alloc (World.ownsRow.alloc HR6.out _) _) ⟨w6.heap.size + 1, 0, none⟩ 1 1 (repCells p) rfl rfl (by have := hn4.out; rw [size_alloc] at this; exact this) (one_rep p) (le_max (by omega)) (by omega) (by rw [size_alloc, size_alloc]; have := hb5.out; omega) ?_; intro v' w7 hown7 hgrow7 hnil7)
        go_roundw
        case rel =>
          refine ⟨k + 1, by omega, ?_, ?_, ?_, by go_num⟩
          · exact grown_below (HB.out.trans ((HB6.out.mono HB.out.size).trans (((below_alloc _).mono hb5.out).trans ((below_alloc _).mono (by rw [size_alloc]; have := hb5.out; omega))))) hgrow7 (own_block_ge HR6.out) (by rw [size_alloc, size_alloc]; have := hb5.out; omega)
          · rw [HSN2.out]
            exact World.ownsRow.kept (World.ownsRow.alloc (World.ownsRow.alloc HF6.out _) _) hgrow7 (rows_apart HF6.out HR6.out (by decide))
          · rw [HRS.out]
            exact hown7
        case measure => simp [intOf]; omega
      | some t =>
        rw [hmo] at pf
        have HSN2 : Hid (mergedL l0 l1 l2 (P.take (k + 1)) = mergedL l0 l1 l2 (P.take k) ++ [(p, t)]) := Lib.hid (by rw [HSN.out, hmo])
        have pf2 : Calls Tryz.prog 17 #[.pointer (some ⟨w4.heap.size, 0, none⟩), .string p] wr fun e w' => e = .returned (.tuple #[.string t, .agg #[.string p, .int .i64 1, .slice none 0 0, .slice none 0 0], .bool true, .int .i64 0]) ∧ Below wr.heap.size wr w' := pf
        clear pf hmo HSN
        generalize mergedL l0 l1 l2 (P.take k) = ml at *
        go_wp2_with fail
        refine pf2.mono ?_
        rintro e w6 ⟨rfl, hb⟩
        have HB6 := Lib.hid hb
        have HR6 : Hid (w6.ownsRow w5.heap.size 43 4 u14 k ((P.take k).flatMap repCells)) := Lib.hid (World.ownsRow.kept HRR.out (below_grown hb) (by rcases u14.ownBlock with _ | g; exact .inl rfl; exact .inr (by simp)))
        have HF6 : Hid (w6.ownsRow w5.heap.size 37 2 u13 ml.length (ml.flatMap fileCells)) := Lib.hid (World.ownsRow.kept HRF.out (below_grown hb) (by rcases u13.ownBlock with _ | g; exact .inl rfl; exact .inr (by simp)))
        have hn2 := Lib.hid (new_cells2 (w6.alloc (.cells #[.string p, .int .i64 1, .slice none 0 0, .slice none 0 0] 43)) (.string p) (.string t) 37)
        have hb5 : Hid (w5.heap.size ≤ w6.heap.size) := Lib.hid (Nat.le_trans HB.out.size hb.size)
        have hbx := Lib.hid (MapKept.heap_alloc w6 (.cells #[.string p, .int .i64 1, .slice none 0 0, .slice none 0 0] 43)).1
        clear hb pf2
        have hn4 := fun w7 => Lib.hid (new_cells4 w7 (.string p) (.int .i64 1) (.slice none 0 0) (.slice none 0 0) 43)
        have hne6 : Hid (some w6.heap.size ≠ u13.ownBlock) := Lib.hid (fun e => by have := (World.ownsRow.lt HF6.out _ e.symm).2; omega)
        go_wp2_with (first
          | (at_builtin; refine wpList_append_own _ rfl (.tmp 58) (.tmp 62) 23 rfl w5.heap.size 37 fi _ 2 32 Tryz.underlying23 fi0 fz0 fz1 fz2 rfl (by decide) _ ml.length (ml.flatMap fileCells) rfl (World.ownsRow.alloc (World.ownsRow.alloc HF6.out _) _) ⟨w6.heap.size + 1, 0, none⟩ 1 1 (fileCells (p, t)) rfl rfl (by have := hn2.out; rw [size_alloc] at this; exact this) (one_file (p, t)) (le_max (by omega)) (by omega) (by rw [size_alloc, size_alloc]; have := hb5.out; omega) ?_; intro v' w7 hown7 hgrow7 hnil7; clear hn2;
             obtain ⟨q0, q1, q2, q3⟩ := box_cells ((hgrow7.block w6.heap.size (by rw [size_alloc, size_alloc]; omega) hne6.out).trans (((below_alloc _).block _ (by rw [size_alloc]; omega)).trans hbx.out));
             have HF7 := Lib.hid hown7;
             have HR7 := Lib.hid (World.ownsRow.kept (World.ownsRow.alloc (World.ownsRow.alloc HR6.out _) _) hgrow7 (rows_apart HR6.out HF6.out (by decide)));
             have hs7 : Hid (w5.heap.size ≤ w7.heap.size) := Lib.hid (Nat.le_trans hb5.out (Nat.le_trans (by rw [size_alloc, size_alloc]; omega) hgrow7.size));
             have HB7 := Lib.hid (grown_below (HB.out.trans ((HB6.out.mono HB.out.size).trans (((below_alloc _).mono hb5.out).trans ((below_alloc _).mono (by rw [size_alloc]; have := hb5.out; omega))))) hgrow7 (own_block_ge HF6.out) (by rw [size_alloc, size_alloc]; have := hb5.out; omega));
             clear hown7 hgrow7 hnil7)
          | (at_builtin; refine wpList_append_own _ rfl (.tmp 64) (.tmp 66) 27 rfl w5.heap.size 43 ri _ 4 72 Tryz.underlying27 ri0 rz0 rz1 rz2 rfl (by decide) _ k ((P.take k).flatMap repCells) rfl (World.ownsRow.alloc HR7.out _) ⟨w7.heap.size, 0, none⟩ 1 1 (repCells p) rfl rfl (hn4 w7).out (one_rep p) (le_max (by omega)) (by omega) (Nat.le_trans hs7.out (below_alloc _).size) ?_; intro v8 w8 hown8 hgrow8 hnil8))
        go_roundw
        case rel =>
          refine ⟨k + 1, by omega, ?_, ?_, ?_, by go_num⟩
          · exact grown_below (HB7.out.trans ((below_alloc _).mono hs7.out)) hgrow8 (own_block_ge HR7.out) (Nat.le_trans hs7.out (below_alloc _).size)
          · rw [HSN2.out, List.length_append, List.flatMap_append]
            have := World.ownsRow.kept (World.ownsRow.alloc HF7.out _) hgrow8 (rows_apart HF7.out HR7.out (by decide))
            simpa using this
          · rw [HRS.out]
            exact hown8
        case measure => simp [intOf]; omega
    · have hkl : k = P.length := by omega
      subst hkl
      have hfr := HRF.out
      have hrr := HRR.out
      rw [List.take_length] at hfr hrr
      clear HRF HRR
      have hff := Lib.hid (files_of_row hfr)
      have hrv := Lib.hid (reps_of_row hrr)
      obtain ⟨fa, fc, rfl⟩ := row_form hfr
      have HE := HP.out
      have hb9 := HB5.out.trans (HB.out.mono HB5.out.size)
      have hpost : Hid (∀ e, (32 < (mergedL l0 l1 l2 P).length ∧ e = .returned (.tuple #[.slice none 0 0, .slice none 0 0, .int .i64 3])) ∨ (¬ 32 < (mergedL l0 l1 l2 P).length ∧ e = .returned (.tuple #[.slice fa (mergedL l0 l1 l2 P).length fc, u14, .int .i64 0])) → Merged w l0 l1 l2 e wr) := Lib.hid (by
        rintro e (⟨h1, h2⟩ | ⟨h1, h2⟩)
        · exact ⟨hb9, .inr (.inl ⟨HG.out.1, by rw [HE]; exact h1, h2⟩)⟩
        · exact ⟨hb9, .inr (.inr ⟨HG.out.1, by rw [HE]; exact h1, _, _, h2, by rw [HE]; exact hff.out, by rw [HE]; exact hrv.out⟩)⟩)
      have hml := mergedL_length l0 l1 l2 P
      have hpl := hPL.out
      clear hfr hrr hff hrv HE hb9
      generalize (mergedL l0 l1 l2 P).length = n at *
      by_cases h32 : 32 < n
      · go_wp2
        go_ret3
        exact hpost.out _ (.inl ⟨h32, rfl⟩)
      · go_wp2
        go_ret3
        exact hpost.out _ (.inr ⟨h32, rfl⟩)

theorem merge_calls (v0 v1 v2 : Value) (l0 l1 l2 : List FileT) (w : World) (h0 : FilesVal w v0 l0) (h1 : FilesVal w v1 l1) (h2 : FilesVal w v2 l2) (k0 : FilesOK l0) (k1 : FilesOK l1) (k2 : FilesOK l2)
    (hor : ∀ p, textOf l1 p = textOf l0 p ∨ textOf l2 p = textOf l0 p ∨ textOf l1 p = textOf l2 p) :
    Calls Tryz.prog 6 #[v0, v1, v2, .slice none 0 0] w (Merged w l0 l1 l2) := by
  by_cases h : chk3 l0 l1 l2 = 0
  · exact merge_good v0 v1 v2 l0 l1 l2 w h0 h1 h2 k0 k1 k2 h hor
  · exact merge_bad v0 v1 v2 _ l0 l1 l2 w h0 h1 h2 k0 k1 k2 h
end Go.Proofs

namespace Go.Proofs
open Go.RowKit Go.Maps Go.MapKept
open Classical

set_option maxRecDepth 100000 in
set_option maxHeartbeats 1000000 in
theorem samefiles_calls (v1 v2 : Value) (l : List FileT) (w : World) (h1 : FilesVal w v1 l) (h2 : FilesVal w v2 l) (hll : l.length ≤ 9223372036854775807) :
    Calls Tryz.prog 10 #[v1, v2] w fun e w' => e = .returned (.bool true) ∧ Below w.heap.size w w' := by
  obtain ⟨a1, c1, rfl⟩ := h1.slice
  obtain ⟨a2, c2, rfl⟩ := h2.slice
  go_enter Tryz.func10, Tryz.ntmps10
  go_wp2
  go_loopw [5] (fun i w' => ∃ k : Nat, k ≤ l.length ∧ Below w.heap.size w w' ∧ i = .int .i64 k) (fun i _ => l.length - (intOf i).toNat)
  case atStart => exact ⟨0, by omega, Below.refl _ _, rfl⟩
  case round =>
    rename_i wr hrel
    obtain ⟨k, hk, hbel, rfl⟩ := hrel
    have HB := Lib.hid hbel
    clear hbel
    by_cases hlt : k < l.length
    · obtain ⟨b1, o1, rfl, hb1, hc1⟩ : ∃ b off, a1 = some ⟨b, off, none⟩ ∧ b < w.heap.size ∧ FilesAt w b off l := by
        rcases h1 with ⟨_, hnil⟩ | ⟨b, off, cap, e, hb, hc⟩
        · subst hnil; simp at hlt
        · cases e; exact ⟨b, off, rfl, hb, hc⟩
      obtain ⟨b2, o2, rfl, hb2, hc2⟩ : ∃ b off, a2 = some ⟨b, off, none⟩ ∧ b < w.heap.size ∧ FilesAt w b off l := by
        rcases h2 with ⟨_, hnil⟩ | ⟨b, off, cap, e, hb, hc⟩
        · subst hnil; simp at hlt
        · cases e; exact ⟨b, off, rfl, hb, hc⟩
      obtain ⟨f, hf⟩ : ∃ f, l[k]? = some f := ⟨l[k], List.getElem?_eq_getElem hlt⟩
      obtain ⟨d1, d2⟩ := below_cells hc1 hb1 HB.out k f hf
      obtain ⟨e1, e2⟩ := below_cells hc2 hb2 HB.out k f hf
      clear hf
      go_wp2
      go_quiet (fail)
      go_wp2
      go_roundw
      case rel => exact ⟨k + 1, by omega, below_drewN HB.out, by go_num⟩
      case measure => simp [intOf]; omega
    · go_wp2
      go_ret
      exact ⟨rfl, HB.out⟩

theorem RepsVal.below {w wr : World} {v : Value} {l : List ByteArray} (h : RepsVal w v l) (hb : Below w.heap.size w wr) : RepsVal wr v l := by
  rcases h with h | ⟨b, cap, hv, hlt, hc⟩
  · exact .inl h
  · refine .inr ⟨b, cap, hv, Nat.lt_of_lt_of_le hlt hb.size, fun i p hp => ?_⟩
    obtain ⟨c0, c1, c2, c3⟩ := hc i p hp
    exact ⟨(hb.cell (p := ⟨b, _, none⟩) hlt).trans c0, (hb.cell (p := ⟨b, _, none⟩) hlt).trans c1, (hb.cell (p := ⟨b, _, none⟩) hlt).trans c2, (hb.cell (p := ⟨b, _, none⟩) hlt).trans c3⟩

end Go.Proofs

namespace Go.Proofs
open Go.RowKit Go.Maps Go.MapKept
open Classical

theorem pathsL_sorted (b l r : List FileT) : (pathsL b l r).Pairwise ltB := sortS_sorted (nodup_gather b l r)
theorem mem_pathsL {p : ByteArray} {b l r : List FileT} : p ∈ pathsL b l r ↔ (∃ f ∈ b, f.1 = p) ∨ (∃ f ∈ l, f.1 = p) ∨ ∃ f ∈ r, f.1 = p := by
  unfold pathsL
  rw [mem_sortS, mem_gather]

/-- A merge that gives the other version. -/
theorem pathsL_length {b l r : List FileT} (h : chk3 b l r = 0) : (pathsL b l r).length ≤ 96 := by
  obtain ⟨g0, g1, g2⟩ := chk3_zero h
  have n0 := (chkE_zero g0).1
  have n1 := (chkE_zero g1).1
  have n2 := (chkE_zero g2).1
  unfold pathsL
  rw [sortS_length]
  have h1 := collect_length [] b
  have h2 := collect_length (collect [] b) l
  have h3 := collect_length (collect (collect [] b) l) r
  simp only [List.foldl_cons, List.foldl_nil, List.length_nil] at *
  omega

end Go.Proofs
