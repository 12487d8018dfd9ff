/-
  An argument that is a list of files: what it holds. What a row asks behind the call.
-/
import Derived.Test.YtlkfgnknkoeepaaGreatDoorCB
import Derived.Deep.Slices
import Derived.Deep.Fields
import Derived.ChangeSame
import Derived.Below
set_option linter.all false

namespace Go.Proofs
open Go.ChangeShapes Go.WideShapes Go.Deep Go.RowKit

section
variable {H : Type} {enc : TypeId × Value → H} {P : Program} {w : World} {base : Nat} {spare : Nat → Bool} {held : Bool}
theorem open_slice_fields {t e : TypeId} {fs : Array Field} {fuel : Nat} {cs : List Value} {x : DataW H × List MemPlace} (ht : P.underlying t = some (.slice e)) (he : P.underlying e = some (.struct fs))
    (hone : oneCellFields P fs = true) (hC : P.cellsOf e = fs.size) (h : DataW.trod enc P w base spare held fuel t cs = some x) :
    (cs = [.slice none 0 0] ∧ x = (.nil, [])) ∨
    ∃ (a : Addr) (len cap m : Nat) (D : Nat → DataW H) (Pl : Nat → List MemPlace), cs = [.slice (some a) len cap] ∧ base ≤ a.block ∧ len ≤ cap ∧ cap ≤ maxLen ∧ m = (if spare a.block then cap else len) ∧
      x = (.slice ((List.range len).map D) ((List.range (m - len)).map fun j => D (len + j)), MemPlace.row a (m * fs.size) ++ (List.range m).flatMap Pl) ∧
      ∀ i, i < m → ∃ (ys : List (DataW H × List MemPlace)) (n : Nat), D i = .agg (ys.map (·.1)) ∧ Pl i = ys.flatMap (·.2) ∧ ys.length = fs.size ∧
        ∀ (j : Nat) (f : Field), fs[j]? = some f → ∃ (v : Value) (y : DataW H × List MemPlace), w.cell? (a.add (i * fs.size + j)) = some v ∧ ys[j]? = some y ∧ DataW.trod enc P w base spare held n f.type [v] = some y := by
  rcases open_slice ht h with h0 | ⟨a, len, cap, m, n, D, Pl, hcs, hb, hl, hm, hmm, hx, hi⟩
  · exact .inl h0
  · refine .inr ⟨a, len, cap, m, D, Pl, hcs, hb, hl, hm, hmm, by rw [hC] at hx; exact hx, fun i him => ?_⟩
    obtain ⟨cs', hc, ht'⟩ := hi i him
    rw [hC] at hc
    obtain ⟨ys, n', hn', hy, hlen, hyl, hf⟩ := DataW.trod_struct he ht'
    obtain ⟨_, hcl, hat⟩ := World.cells?_some hc
    simp only [Prod.mk.injEq] at hy
    refine ⟨ys, n', hy.1, hy.2, hyl, fun j f hj => ?_⟩
    obtain ⟨ho, hk⟩ := hone_of hone j f hj
    have hjl : j < fs.size := (Array.getElem?_eq_some_iff.1 hj).1
    have hcell := hat j hjl
    have hv : cs'[j]? = some (cs'[j]'(by omega)) := List.getElem?_eq_getElem (by omega)
    have h1 := hf j f hj
    rw [ho, hk] at h1
    have hone' : (cs'.drop j).take 1 = [cs'[j]'(by omega)] := by
      rw [List.drop_eq_getElem_cons (by omega)]
      rfl
    rw [hone'] at h1
    have hys : ys[j]? = some (ys[j]'(by omega)) := List.getElem?_eq_getElem (by omega)
    refine ⟨_, _, ?_, hys, h1.trans hys⟩
    rw [← Go.Deep.add_add, hcell, hv]

theorem post_of_below {f : Func} {s : ChangeSpec} {apart fresh handsOn again : Bool} {W W' : World} {args : Array Value} {v : Value} {ds gs : List (DataW H)} {before pa pv : List MemPlace}
    (hW : DataW.Whole enc P f.params.toList s.vars apart W args.toList ds gs before)
    (hres : ∀ (b : Nat) (sp : Nat → Bool) (hd : Bool), DataW.TrodAll enc P W' b sp hd f.resultTypes.toList (v.resultList f.resultTypes.size) (s.fn H (ds ++ gs)).results [])
    (hargs : ∀ sp : Nat → Bool, (∀ p ∈ before, sp p.block = true) → DataW.TrodAll enc P W' 0 sp true f.params.toList args.toList (s.fn H (ds ++ gs)).args pa)
    (hvars : ∀ sp : Nat → Bool, (∀ p ∈ before, sp p.block = true) → DataW.TrodVars enc P W' sp s.vars (s.fn H (ds ++ gs)).vars pv)
    (hps : before = pa ++ pv) (hb : Below W.heap.size W W')
    (hok : ∀ (j : Nat) (t : TypeId) (r : Value), f.resultTypes[j]? = some t → (v.resultList f.resultTypes.size)[j]? = some r → Value.okWide P W' .any 0 t r) :
    s.post enc P f apart fresh handsOn again W args v W' := by
  have hlt : ∀ p ∈ before, p.block < W.heap.size := fun p hp => hW.lt p hp
  have hold : ∀ p ∈ before, (fun b => decide (b < W.heap.size)) p.block = true := fun p hp => by simpa using hlt p hp
  refine ⟨ds, gs, before, [], pa, pv, hW, hres _ _ _, hargs _ hold, hvars _ hold, World.keptBut_mono (fun p hp => ⟨hp, ?_⟩) (hb.frame (· ∈ before)), fun _ => ?_⟩
  · rw [hps, List.mem_append] at hp
    exact Or.inr hp
  · obtain ⟨_, _, _, _, _, hz, hn⟩ := hW
    refine ⟨hok, _, _, ([] ++ pa) ++ pv, ⟨[] ++ pa, pv, trodAll_append (hargs _ (fun _ _ => rfl)) (hres _ _ _), hvars _ (fun _ _ => rfl), rfl, ?_, ?_⟩, ?_⟩
    · intro b off hp
      have hin : MemPlace.cell b off ∈ before := by rw [hps]; simpa using hp
      rw [hb.frozen (hlt _ hin)]
      exact hz b off hin
    · intro ha
      have := hn ha
      rw [hps] at this
      simpa using this
    · intro p hp _
      rw [hps]
      simpa using hp
end

theorem add_alone (b o n : Nat) : (⟨b, o, none⟩ : Addr).add n = ⟨b, o + n, none⟩ := by
  unfold Addr.add
  split
  · subst_vars
    rfl
  · rfl

theorem cell_alone {w : World} {a : Addr} {v : Value} (h : w.cell? a = some v) : a = ⟨a.block, a.off, none⟩ := by
  obtain ⟨b, o, s⟩ := a
  cases s with
  | none => rfl
  | some s =>
    exfalso
    unfold World.cell? at h
    split at h <;> simp_all

set_option maxRecDepth 100000
/-- A list of files, as its cells are read. -/
theorem open_files_at {H : Type} {enc : TypeId × Value → H} {W : World} {b1 base : Nat} {spare : Nat → Bool} {held : Bool} {fuel : Nat} {v : Value} {x : DataW H × List MemPlace}
    (hv : Cell.okWide Tryz.prog W .any b1 22 v) (h : DataW.trod enc Tryz.prog W base spare held fuel 22 [v] = some x) : ∃ l, FilesVal W v l ∧ FilesOK l := by
  have u0 : Tryz.prog.underlying 22 = some (.slice 43) := Tryz.underlying22
  rcases open_slice_fields (fs := _) u0 Tryz.underlying43 (by kernel_rfl) (by kernel_rfl) h with ⟨hn, _⟩ | ⟨a, len, cap, m, D, Pl, hcs, hb, hl, hm, hmm, hx, hi⟩
  · injection hn with hn
    subst hn
    exact ⟨[], .inl ⟨rfl, rfl⟩, by simp [FilesOK]⟩
  · injection hcs with hcs
    subst hcs
    unfold Cell.okWide at hv
    simp only [u0] at hv
    unfold Cell.ok at hv
    simp only [u0] at hv
    obtain ⟨_, _, _, hspot, row, cells, hsh, _⟩ := hv
    have ha : a = ⟨a.block, a.off, none⟩ := by
      obtain ⟨b, o, s⟩ := a
      simp only at hspot
      rw [hspot]
    have hlt : a.block < W.heap.size := by
      unfold World.shape? at hsh
      split at hsh
      · rename_i h'
        exact (Array.getElem?_eq_some_iff.1 h').1
      · cases hsh
    have hlm : len ≤ m := by rw [hmm]; split <;> omega
    have key : ∀ i, i < len → ∃ f : FileT, W.cell? ⟨a.block, a.off + i * 2, none⟩ = some (.string f.1) ∧ W.cell? ⟨a.block, a.off + i * 2 + 1, none⟩ = some (.string f.2) ∧ f.1.size ≤ maxLen ∧ f.2.size ≤ maxLen := by
      intro i hil
      obtain ⟨ys, n, _, _, _, hf⟩ := hi i (by omega)
      obtain ⟨v0, y0, c0, _, t0⟩ := hf 0 _ rfl
      obtain ⟨v1, y1, c1, _, t1⟩ := hf 1 _ rfl
      obtain ⟨s0, e0, _, k0⟩ := DataW.trod_string Tryz.underlying9 t0
      obtain ⟨s1, e1, _, k1⟩ := DataW.trod_string Tryz.underlying9 t1
      injection e0 with e0
      injection e1 with e1
      subst e0
      subst e1
      have hadd : ∀ n : Nat, a.add n = ⟨a.block, a.off + n, none⟩ := fun n => by
        rw [ha]
        exact add_alone _ _ _
      rw [hadd] at c0 c1
      exact ⟨(s0, s1), by simpa using c0, by simpa [Nat.add_assoc] using c1, k0, k1⟩
    obtain ⟨F, hF⟩ : ∃ F : Nat → FileT, ∀ i, i < len → W.cell? ⟨a.block, a.off + i * 2, none⟩ = some (.string (F i).1) ∧ W.cell? ⟨a.block, a.off + i * 2 + 1, none⟩ = some (.string (F i).2) ∧ (F i).1.size ≤ maxLen ∧ (F i).2.size ≤ maxLen := by
      refine ⟨fun i => if h : i < len then Classical.choose (key i h) else default, fun i hil => ?_⟩
      simp only [hil, dif_pos]
      exact Classical.choose_spec (key i hil)
    refine ⟨(List.range len).map F, .inr ⟨a.block, a.off, cap, ?_, hlt, fun i f hif => ?_⟩, ?_, fun f hf => ?_⟩
    · rw [← ha]
      simp
    · have hil : i < len := by
        have := (List.getElem?_eq_some_iff.1 hif).1
        simpa using this
      have hf : f = F i := by simpa [hil] using hif.symm
      subst hf
      exact ⟨(hF i hil).1, (hF i hil).2.1⟩
    · simp only [List.length_map, List.length_range]
      have : maxLen ≤ 9223372036854775807 := by decide
      omega
    · obtain ⟨i, hil, rfl⟩ := List.mem_map.1 hf
      have := hF i (List.mem_range.1 hil)
      have hm2 : maxLen ≤ 9223372036854775807 := by decide
      exact ⟨by omega, by omega⟩

theorem open_files {H : Type} {enc : TypeId × Value → H} {W : World} {b0 b1 : Nat} {spare : Nat → Bool} {held : Bool} {v : Value} {d : DataW H} {p : List MemPlace}
    (hv : Value.okWide Tryz.prog W .any b1 22 v) (h : DataW.Trod enc Tryz.prog W b0 spare held 22 v d p) : ∃ l, FilesVal W v l ∧ FilesOK l := by
  have u0 : Tryz.prog.underlying 22 = some (.slice 43) := Tryz.underlying22
  obtain ⟨a, len, cap, rfl⟩ := okWide_slice u0 hv
  obtain ⟨fuel, hf⟩ := h
  unfold Value.okWide at hv
  simp only [u0] at hv
  exact open_files_at hv hf
end Go.Proofs
