/- The evaluator's structs and slices made whole, conversions, make, append, copy, len; each against the model's own: an append to a slice whose room isn't known has one abstract outcome for both ways. No condition. -/
import Derived.Test.YtmmfpkkkpeapeaaGreatDoorEvE
import Derived.Laws.Append
set_option linter.unusedSectionVars false
set_option linter.unusedVariables false
set_option linter.unusedSimpArgs false
namespace Go.Proofs.YtmmfpkkkpeapeaaGreatDoor.Ev
open Go Go.RowKit
variable [Sym]

section
variable {E : Env} {P : Program} {G : Nat} {B : Bd} {ι : Ren} {st st' : St} {w : World}
theorem run_mapM_list {α β : Type} (f : α → Sem β) (g : α → β) (w : World) : ∀ l : List α, (∀ x ∈ l, (f x).run P w = .ok (g x) w) → (l.mapM f).run P w = .ok (l.map g) w
  | [], _ => by simp
  | x :: l, h => by
    rw [List.mapM_cons]
    simp only [Sem.run_bind, h x (by simp), Result.andThen_ok, run_mapM_list f g w l (fun y hy => h y (by simp [hy])), Sem.run_pure, List.map_cons]
theorem run_mapM_array {α β : Type} (f : α → Sem β) (g : α → β) (w : World) (a : Array α) (h : ∀ x ∈ a.toList, (f x).run P w = .ok (g x) w) : (a.mapM f).run P w = .ok (a.map g) w := by
  rw [Array.mapM_eq_mapM_toList]
  simp only [Sem.run_map, run_mapM_list f g w _ h, Result.andThen_ok]
  congr 1
  rw [← Array.toList_map, Array.toArray_toList]
/-! ### parts laid into cells -/
inductive PartsRel (ι : Ren) : List (Nat × Value) → List (Nat × Value) → Prop
  | nil : PartsRel ι [] []
  | cons {i : Nat} {v v' : Value} {l l' : List (Nat × Value)} (h : VRel ι v v') (hl : PartsRel ι l l') : PartsRel ι ((i, v) :: l) ((i, v') :: l')
theorem PartsRel.mono {ι ι' : Ren} (le : ι.le ι') {l l' : List (Nat × Value)} (h : PartsRel ι l l') : PartsRel ι' l l' := by
  induction h with
  | nil => exact .nil
  | cons h _ ih => exact .cons (h.mono le) ih
theorem fold_set (off : Nat) : ∀ (l : List Value) (k : Nat) (cs : Array Value), (l.zipIdx k).foldl (fun cs p => cs.setIfInBounds (off + p.2) p.1) cs = writeC cs (off + k) l
  | [], _, _ => rfl
  | v :: l, k, cs => by
    simp only [List.zipIdx_cons, List.foldl_cons, writeC]
    rw [fold_set off l (k + 1)]
    rfl
theorem fold_set_array (off : Nat) (c cs : Array Value) : c.zipIdx.foldl (fun cs p => cs.setIfInBounds (off + p.2) p.1) cs = writeC cs off c.toList := by
  rw [← Array.foldl_toList, Array.toList_zipIdx]
  have := fold_set off c.toList 0 cs
  simpa using this
theorem fill_rel {place : Nat → Option (Nat × Nat)} {l l' : List (Nat × Value)} (h : PartsRel ι l l') : ∀ {cs cs' out : Array Value}, l.all (fun p => p.2.cells.toList.all cellOk) = true → ARel ι cs cs' → Instr.fill place cs l = some out → ∃ out', Instr.fill place cs' l' = some out' ∧ ARel ι out out' := by
  induction h with
  | nil => intro cs cs' out _ hc h; cases h; exact ⟨cs', rfl, hc⟩
  | cons hv _ ih =>
    intro cs cs' out hall hc h
    simp only [List.all_cons, Bool.and_eq_true] at hall
    unfold Instr.fill at h ⊢
    split at h
    · cases h
    · rename_i off size hp
      split at h
      · cases h
      · rename_i hb
        have hcv := hv.cells (not_top hall.1)
        have e1 : ∀ c cs : Array Value, c.zipIdx.foldl (fun cs (x : Value × Nat) => match x with | (c, j) => cs.setIfInBounds (off + j) c) cs = writeC cs off c.toList := fun c cs => fold_set_array off c cs
        rw [hcv.1, hc.1, if_neg hb]
        refine ih hall.2 ?_ h
        rw [e1, e1]
        refine ⟨by rw [writeC_size, writeC_size, hc.1], fun i hi => ?_⟩
        rw [writeC_size] at hi
        exact writeC_rel _ _ _ _ off (by simp [hcv.1]) (cells_get hcv) (by rw [hc.1]; exact Nat.le_refl _) hc.2 i hi
def placesOf (E : Env) (fs : Array Field) : Array (Nat × Nat) := fs.map fun f => (f.offset, ((E.tab f.type).map (·.size)).getD 0)
def aBuild (E : Env) (t : TypeId) (parts : Array (Nat × Value)) : Option Value :=
  match E.tab t with
  | none => none
  | some ti =>
    if parts.toList.all (fun p => p.2.cells.toList.all cellOk) then
      match ti.desc with
      | .struct fs =>
        if fs.toList.all (fun f => (E.tab f.type).isSome) then (Instr.fill ((placesOf E fs)[·]?) ti.zero.cells parts.toList).map .agg else none
      | .array _ e => match E.tab e with
        | none => none
        | some te => (Instr.fill (fun i => some (i * te.size, te.size)) ti.zero.cells parts.toList).map .agg
      | _ => none
    else none
theorem build_run (ok : E.Ok P) {t : TypeId} {parts parts' : Array (Nat × Value)} {v : Value} (hp : PartsRel ι parts.toList parts'.toList) (h : aBuild E t parts = some v) : Ans P ι w (Instr.build t parts') v := by
  unfold aBuild at h
  split at h
  · cases h
  rename_i ti et
  have hu := run_underlying_tab ok et w
  have hz := zero_cells ok et ι
  split at h
  · rename_i hall
    split at h
    · rename_i fs hd
      split at h
      · rename_i hfs
        cases hf : Instr.fill ((placesOf E fs)[·]?) ti.zero.cells parts.toList with
        | none => rw [hf] at h; cases h
        | some out =>
          rw [hf] at h
          cases h
          obtain ⟨out', e, hr⟩ := fill_rel hp hall hz hf
          refine ⟨.agg out', ?_, .agg hr.1 hr.2⟩
          have hm : (fs.mapM fun f => (do pure (f.offset, ← sizeOf f.type) : Sem (Nat × Nat))).run P w = .ok (placesOf E fs) w := by
            refine run_mapM_array _ _ w fs fun f hf => ?_
            have := List.all_eq_true.1 hfs f hf
            obtain ⟨tf, etf⟩ := Option.isSome_iff_exists.1 this
            simp [run_sizeOf_tab ok etf, etf]
          simp only [Instr.build, Sem.run_bind, run_zero_tab ok et, Result.andThen_ok, hu, hd, hm, e, Sem.run_pure]
      · cases h
    · rename_i n e hd
      split at h
      · cases h
      · rename_i te ee
        cases hf : Instr.fill (fun i => some (i * te.size, te.size)) ti.zero.cells parts.toList with
        | none => rw [hf] at h; cases h
        | some out =>
          rw [hf] at h
          cases h
          obtain ⟨out', e, hr⟩ := fill_rel hp hall hz hf
          refine ⟨.agg out', ?_, .agg hr.1 hr.2⟩
          simp only [Instr.build, Sem.run_bind, run_zero_tab ok et, Result.andThen_ok, hu, hd, run_sizeOf_tab ok ee, e, Sem.run_pure]
    · cases h
  · cases h
theorem zeros_rel (ok : E.Ok P) {t : TypeId} {i : TI} (h : E.tab t = some i) (n : Nat) : ARel ι ((Array.range n).map fun j => i.zero.cells[j % i.zero.cells.size]!) ((Array.range n).map fun j => i.zero.cells[j % i.zero.cells.size]!) := by
  refine ARel.map _ _ _ fun j => ?_
  have hz := zero_cells ok h ι
  by_cases hj : j % i.zero.cells.size < i.zero.cells.size
  · have := hz.2 _ hj
    simp only [Array.getD, hj, dite_true] at this
    rw [getElem!_pos i.zero.cells (j % i.zero.cells.size) hj]
    exact this
  · rw [getElem!_neg i.zero.cells (j % i.zero.cells.size) hj]
    exact .bool _
def zerosOf (te : TI) (n : Nat) : Array Value := if n = 0 then #[] else (Array.range n).map fun j => te.zero.cells[j % te.zero.cells.size]!
theorem zerosOf_rel (ok : E.Ok P) {t : TypeId} {i : TI} (h : E.tab t = some i) (n : Nat) : ARel ι (zerosOf i n) (zerosOf i n) := by
  unfold zerosOf
  split
  · exact ARel.nil ι
  · exact zeros_rel ok h n
def aBuildSlice (E : Env) (t : TypeId) (len : Nat) (parts : Array (Nat × Value)) : LM Value := do
  let ti ← LM.ofOption (E.tab t)
  match ti.desc with
  | .slice e => do
    let te ← LM.ofOption (E.tab e)
    LM.guard (decide (len * te.size ≤ 16777216 ∧ len < 4611686018427387904) && parts.toList.all (fun p => p.2.cells.toList.all cellOk))
    let cells ← LM.ofOption (Instr.fill (fun i => some (i * te.size, te.size)) (zerosOf te (len * te.size)) parts.toList)
    let b ← LM.new (.cells cells e false 0)
    pure (.slice (some ⟨b, 0, none⟩) len len)
  | _ => LM.fail
theorem buildSlice_does (ok : E.Ok P) (hw : WRel E.G B ι st w) {t : TypeId} {n : Nat} {parts parts' : Array (Nat × Value)} {v : Value} (hp : PartsRel ι parts.toList parts'.toList) (hfree : Free ι st.next st'.next) (h : Run (aBuildSlice E t n parts) st v st') :
    Does P E.G B ι st w st' (Instr.buildSlice t n parts') fun ι' y => VRel ι' v y := by
  unfold aBuildSlice at h
  replace h := Run.bind.1 h
  obtain ⟨ti, st1, h1, h⟩ := h
  replace h1 := Run.ofOption.1 h1
  obtain ⟨et, rfl⟩ := h1
  have hu := run_underlying_tab ok et w
  split at h
  · rename_i e hd
    replace h := Run.bind.1 h
    obtain ⟨te, st2, h1, h⟩ := h
    replace h1 := Run.ofOption.1 h1
    obtain ⟨ee, rfl⟩ := h1
    replace h := Run.bind.1 h
    obtain ⟨u, st2, h1, h⟩ := h
    replace h1 := Run.guard.1 h1
    obtain ⟨g1, rfl⟩ := h1
    replace h := Run.bind.1 h
    obtain ⟨cells, st2, h1, h⟩ := h
    replace h1 := Run.ofOption.1 h1
    obtain ⟨hf, rfl⟩ := h1
    replace h := Run.bind.1 h
    obtain ⟨b, st2, h1, h⟩ := h
    obtain ⟨rfl, rfl⟩ := Run.pure.1 h
    simp only [Bool.and_eq_true, decide_eq_true_eq] at g1
    obtain ⟨⟨g1, g2⟩, g3⟩ := g1
    have hz := zerosOf_rel (ι := ι) ok ee (n * te.size)
    obtain ⟨out', e2, hr⟩ := fill_rel hp g3 hz hf
    obtain ⟨rfl, hpost⟩ := newCells_post (B := B) (w := w) (c' := out') (fr := (0, 0)) hw 0 0 hfree h1 (by rw [hr.1]; exact Nat.le_refl _) hr.2 (fun _ => rfl) (fun h => absurd rfl h)
    refine ⟨_, _, .slice (some ⟨w.heap.size, 0, none⟩) n n, ?_, hpost, .sl _ ⟨upd_to_same _ _ _ _, rfl, rfl, rfl⟩ g2⟩
    have h24 : ¬ (n * te.size > 2 ^ 24) := by
      have : (2 : Nat) ^ 24 = 16777216 := by decide
      omega
    unfold zerosOf at e2
    by_cases h0 : n * te.size = 0
    · rw [if_pos h0] at e2
      have hr0 : (Array.range (n * te.size)).map (fun j => (#[] : Array Value)[j % (#[] : Array Value).size]!) = #[] := by rw [h0]; simp
      simp only [Instr.buildSlice, Sem.run_bind, hu, Result.andThen_ok, hd, run_sizeOf_tab ok ee, if_neg h24, Sem.run_pure, if_pos h0]
      rw [hr0, e2]
      simp only [newRow, Sem.run_bind, run_newObj, Result.andThen_ok, Sem.run_pure, World.alloc_eq]
    · rw [if_neg h0] at e2
      simp only [Instr.buildSlice, Sem.run_bind, hu, Result.andThen_ok, hd, run_sizeOf_tab ok ee, if_neg h24, Sem.run_pure, if_neg h0, run_zero_tab ok ee]
      rw [e2]
      simp only [newRow, Sem.run_bind, run_newObj, Result.andThen_ok, Sem.run_pure, World.alloc_eq]
  · exact (Run.fail.1 h).elim
end
end Go.Proofs.YtmmfpkkkpeapeaaGreatDoor.Ev
