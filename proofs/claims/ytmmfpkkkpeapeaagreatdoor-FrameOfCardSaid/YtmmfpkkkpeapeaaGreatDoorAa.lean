/- What an arena holds behind Put: plain laws. -/
import Derived.Test.YtmmfpkkkpeapeaaGreatDoorAo
set_option linter.unusedVariables false
namespace Go.Proofs.YtmmfpkkkpeapeaaGreatDoor.ar
set_option maxHeartbeats 400000
/-- There is room for k objects more; what is free is unused. -/
structure Room (A : Ar) (k : Nat) : Prop where
  sl : A.slots.length + k < 1000000
  us : ∀ s ∈ A.slots, s.uses + k < 1000000
  fr : ∀ n ∈ A.free, ∃ s, A.slots[n]? = some s ∧ s.used = false
  nd : A.free.Nodup
  fl : A.free.length + k < 1000000
/-- Behind grow: what there was stands, the free end is there and unused. -/
theorem Room.grown {A : Ar} {k : Nat} (h : Room A (k + 1)) :
    (∀ (n : Nat) s, A.slots[n]? = some s → A.grow.slots[n]? = some s) ∧ (∃ s, A.grow.slots[A.top]? = some s ∧ s.used = false) ∧
    (∀ n ∈ A.grow.free, ∃ s, A.grow.slots[n]? = some s ∧ s.used = false) ∧ A.grow.free.Nodup ∧ A.grow.slots.length ≤ A.slots.length + 1 ∧
    (∀ s ∈ A.grow.slots, s.uses + k + 1 < 1000000) ∧ A.grow.free ≠ [] ∧ A.grow.free.length ≤ A.free.length + 1 := by
  have hsl := h.sl
  unfold Ar.top
  by_cases hf : A.free = []
  · have e : A.grow = { A with slots := A.slots ++ [sl0], free := [A.slots.length] } := by unfold Ar.grow; rw [if_pos hf]
    rw [e]
    refine ⟨fun n s hs => ?_, ⟨sl0, by simp, rfl⟩, fun n hn => ?_, by simp, by simp, fun s hs => ?_, by simp, by simp⟩
    · rw [List.getElem?_append_left (List.getElem?_eq_some_iff.1 hs).1]; exact hs
    · have : n = A.slots.length := by simpa using hn
      subst this
      exact ⟨sl0, by simp, rfl⟩
    · rcases List.mem_append.1 hs with h1 | h1
      · have := h.us s h1; omega
      · have : s = sl0 := by simpa using h1
        subst this
        show 0 + k + 1 < 1000000
        omega
  · have e : A.grow = A := by unfold Ar.grow; rw [if_neg hf]
    rw [e]
    have hm : A.free.getLastD 0 ∈ A.free := by
      rw [List.getLastD_eq_getLast?, List.getLast?_eq_some_getLast hf]
      exact List.getLast_mem hf
    exact ⟨fun n s hs => hs, h.fr _ hm, h.fr, h.nd, by omega, fun s hs => by have := h.us s hs; omega, hf, by omega⟩
theorem top_mem {A : Ar} {k : Nat} (h : Room A (k + 1)) : A.grow.free.dropLast ++ [A.top] = A.grow.free := by
  obtain ⟨-, -, -, -, -, -, hne, -⟩ := h.grown
  have e : A.top = A.grow.free.getLast hne := by
    unfold Ar.top
    rw [List.getLastD_eq_getLast?, List.getLast?_eq_some_getLast hne]; rfl
  rw [e]
  exact List.dropLast_concat_getLast hne
theorem top_not {A : Ar} {k : Nat} (h : Room A (k + 1)) : ∀ n ∈ A.grow.free.dropLast, n ≠ A.top := by
  have hm := top_mem h
  obtain ⟨-, -, -, hnd, -⟩ := h.grown
  rw [← hm] at hnd
  intro n hn he
  subst he
  exact (List.nodup_append.1 hnd).2.2 _ hn _ (by simp) rfl
theorem Room.add {A : Ar} {k : Nat} (h : Room A (k + 1)) (o : Ob) : Room (A.add o) k := by
  obtain ⟨g1, ⟨st, hst, hst2⟩, g3, g4, g5, g6, g7, g8⟩ := h.grown
  have hsl := h.sl
  have hfl := h.fl
  have hold : A.old = st.uses := by unfold Ar.old; rw [List.getD_eq_getElem?_getD, hst]; rfl
  refine ⟨?_, fun s hs => ?_, fun n hn => ?_, ?_, ?_⟩
  · show (A.grow.slots.set _ _).length + k < _
    rw [List.length_set]; omega
  · have hs' : s ∈ A.grow.slots.set A.top ⟨A.old + 1, true, o⟩ := hs
    rcases List.mem_or_eq_of_mem_set hs' with h1 | h1
    · have := g6 s h1; omega
    · subst h1
      have := g6 st (List.mem_of_getElem? hst)
      show A.old + 1 + k < _
      omega
  · have hn' : n ∈ A.grow.free.dropLast := hn
    obtain ⟨s, hs, hu⟩ := g3 n (List.dropLast_subset _ hn')
    refine ⟨s, ?_, hu⟩
    show (A.grow.slots.set _ _)[n]? = _
    rw [List.getElem?_set_ne (fun e => top_not h n hn' e.symm)]
    exact hs
  · show A.grow.free.dropLast.Nodup
    exact List.Sublist.nodup (List.dropLast_sublist _) g4
  · show A.grow.free.dropLast.length + k < _
    rw [List.length_dropLast]; omega
theorem find_add_old {A : Ar} {k : Nat} (h : Room A (k + 1)) (o : Ob) {r : Nat} {x : Ob} (hf : A.find r = some x) : (A.add o).find r = some x := by
  obtain ⟨g1, ⟨st, hst, hst2⟩, -⟩ := h.grown
  unfold Ar.find at hf
  split at hf
  · rename_i s hs
    split at hf
    · rename_i hu
      have hs' := g1 _ _ hs
      have hne : A.top ≠ r % 4294967296 := by
        intro e
        rw [e, hs'] at hst
        cases hst
        rw [hu.1] at hst2
        cases hst2
      unfold Ar.find
      have e2 : (A.add o).slots[r % 4294967296]? = some s := by
        show (A.grow.slots.set _ _)[_]? = _
        rw [List.getElem?_set_ne hne]; exact hs'
      rw [e2]
      simp only [if_pos hu]
      exact hf
    · cases hf
  · cases hf
theorem top_lt {A : Ar} {k : Nat} (h : Room A (k + 1)) : A.top < 1000000 ∧ A.old < 1000000 := by
  obtain ⟨g1, ⟨st, hst, hst2⟩, -, -, g5, g6, -, -⟩ := h.grown
  have h1 := (List.getElem?_eq_some_iff.1 hst).1
  have h2 := g6 st (List.mem_of_getElem? hst)
  have hold : A.old = st.uses := by unfold Ar.old; rw [List.getD_eq_getElem?_getD, hst]; rfl
  have := h.sl
  omega
theorem name_lt {A : Ar} {k : Nat} (h : Room A (k + 1)) : A.name < 9223372036854775808 := by
  have := top_lt h
  unfold Ar.name
  omega
theorem name_mod {A : Ar} {k : Nat} (h : Room A (k + 1)) : A.name % 4294967296 = A.top ∧ A.name / 4294967296 = A.old + 1 := by
  have := top_lt h
  unfold Ar.name
  omega
theorem find_add_new {A : Ar} {k : Nat} (h : Room A (k + 1)) (o : Ob) : (A.add o).find A.name = some o := by
  obtain ⟨g1, ⟨st, hst, hst2⟩, -⟩ := h.grown
  obtain ⟨e1, e2⟩ := name_mod h
  unfold Ar.find
  rw [e1, e2]
  have e3 : (A.add o).slots[A.top]? = some ⟨A.old + 1, true, o⟩ := by
    show (A.grow.slots.set _ _)[_]? = _
    rw [List.getElem?_set_self (List.getElem?_eq_some_iff.1 hst).1]
  rw [e3]
  simp
/-- Another name than the new one's. -/
theorem name_ne {A : Ar} {k : Nat} (h : Room A (k + 1)) {r : Nat} {x : Ob} (hf : A.find r = some x) : r ≠ A.name := by
  rintro rfl
  obtain ⟨g1, ⟨st, hst, hst2⟩, -⟩ := h.grown
  obtain ⟨e1, e2⟩ := name_mod h
  unfold Ar.find at hf
  rw [e1, e2] at hf
  split at hf
  · rename_i s hs
    have := g1 _ _ hs
    rw [hst] at this
    cases this
    simp [hst2] at hf
  · cases hf
end Go.Proofs.YtmmfpkkkpeapeaaGreatDoor.ar
