/- Who comes to whom: plain. -/
import Derived.Test.YtkcljohkcpdfaaaGreatDoorMem
set_option linter.unusedVariables false
namespace Go.Proofs.YtkcljohkcpdfaaaGreatDoor.gr
open Go.RowKit Go.Maps mem
set_option maxHeartbeats 400000
/-- From a one comes to x, by steps between those below n. -/
inductive Rch (n : Nat) (adj : Nat → Nat → Prop) (a : Nat) : Nat → Prop
  | refl : a < n → Rch n adj a a
  | step {x y : Nat} : Rch n adj a x → adj x y → y < n → Rch n adj a y
section
variable {n : Nat} {adj adj' : Nat → Nat → Prop} {a b c : Nat}
theorem Rch.lt (h : Rch n adj a b) : b < n := by cases h <;> assumption
theorem Rch.lt0 (h : Rch n adj a b) : a < n := by
  induction h with
  | refl h => exact h
  | step _ _ _ ih => exact ih
theorem Rch.trans (h : Rch n adj a b) (k : Rch n adj b c) : Rch n adj a c := by
  induction k with
  | refl _ => exact h
  | step _ e l ih => exact .step ih e l
theorem Rch.sym (hs : ∀ x y, adj x y → adj y x) (h : Rch n adj a b) : Rch n adj b a := by
  induction h with
  | refl h => exact .refl h
  | step hx e l ih => exact Rch.trans (.step (.refl l) (hs _ _ e) hx.lt) ih
theorem Rch.mono (hm : ∀ x y, adj x y → adj' x y) (h : Rch n adj a b) : Rch n adj' a b := by
  induction h with
  | refl h => exact .refl h
  | step _ e l ih => exact .step ih (hm _ _ e) l
theorem Rch.same (hs : ∀ x y, adj x y → adj y x) (h : Rch n adj a b) (x : Nat) : Rch n adj b x ↔ Rch n adj a x := ⟨fun k => h.trans k, fun k => (h.sym hs).trans k⟩
end
/-- How many below n aren't seen. -/
def unseen : Nat → (Nat → Bool) → Nat
  | 0, _ => 0
  | n + 1, S => unseen n S + (if S n = true then 0 else 1)
theorem unseen_le {S T : Nat → Bool} (h : ∀ x, S x = true → T x = true) : ∀ n, unseen n T ≤ unseen n S
  | 0 => Nat.le_refl _
  | n + 1 => by
    have h1 := unseen_le h n
    unfold unseen
    by_cases h2 : S n = true
    · rw [if_pos h2, if_pos (h n h2)]; omega
    · rw [if_neg h2]; split <;> omega
theorem unseen_lt {S T : Nat → Bool} (h : ∀ x, S x = true → T x = true) {x : Nat} (hs : S x = false) (ht : T x = true) : ∀ n, x < n → unseen n T < unseen n S
  | 0, hn => absurd hn (Nat.not_lt_zero _)
  | n + 1, hn => by
    unfold unseen
    by_cases e : x = n
    · have h1 := unseen_le h n
      subst e
      rw [if_pos ht, if_neg (by rw [hs]; decide)]
      omega
    · have h1 := unseen_lt h hs ht n (by omega)
      by_cases h2 : S n = true
      · rw [if_pos h2, if_pos (h n h2)]; omega
      · rw [if_neg h2]; split <;> omega
/-- Behind a walk from a. -/
structure Grew (n : Nat) (adj : Nat → Nat → Prop) (a : Nat) (S T : Nat → Bool) : Prop where
  ge : ∀ x, S x = true → T x = true
  me : T a = true
  rc : ∀ x, x < n → T x = true → S x = false → Rch n adj a x
  cl : ∀ x, x < n → T x = true → S x = false → ∀ y, y < n → adj x y → T y = true
/-- Within it: those below k have been looked at. -/
structure Gl (n : Nat) (adj : Nat → Nat → Prop) (a : Nat) (S T : Nat → Bool) (k : Nat) : Prop where
  ge : ∀ x, S x = true → T x = true
  me : T a = true
  rc : ∀ x, x < n → T x = true → S x = false → Rch n adj a x
  cl : ∀ x, x < n → T x = true → S x = false → x ≠ a → ∀ y, y < n → adj x y → T y = true
  na : ∀ y, y < k → adj a y → T y = true
def setS (S : Nat → Bool) (a : Nat) : Nat → Bool := fun x => if x = a then true else S x
section
variable {n : Nat} {adj : Nat → Nat → Prop} {a k : Nat} {S T T' : Nat → Bool}
theorem Gl.start (ha : a < n) : Gl n adj a S (setS S a) 0 := by
  refine ⟨fun x h => ?_, by simp [setS], fun x hx ht hs => ?_, fun x hx ht hs hne => ?_, fun y hy => absurd hy (Nat.not_lt_zero _)⟩
  · unfold setS; split
    · rfl
    · exact h
  · unfold setS at ht
    split at ht
    · rename_i e; rw [e]; exact .refl ha
    · rw [hs] at ht; cases ht
  · unfold setS at ht
    rw [if_neg hne, hs] at ht
    cases ht
theorem Gl.skip (h : Gl n adj a S T k) (hk : ¬ adj a k) : Gl n adj a S T (k + 1) :=
  ⟨h.ge, h.me, h.rc, h.cl, fun y hy e => by
    by_cases e1 : y = k
    · rw [e1] at e; exact absurd e hk
    · exact h.na y (by omega) e⟩
theorem Gl.old (h : Gl n adj a S T k) (hk : T k = true) : Gl n adj a S T (k + 1) :=
  ⟨h.ge, h.me, h.rc, h.cl, fun y hy e => by
    by_cases e1 : y = k
    · rw [e1]; exact hk
    · exact h.na y (by omega) e⟩
theorem Gl.next (h : Gl n adj a S T k) (ha : a < n) (hk : k < n) (e : adj a k) (g : Grew n adj k T T') : Gl n adj a S T' (k + 1) := by
  refine ⟨fun x hx => g.ge x (h.ge x hx), g.ge a h.me, fun x hx ht hs => ?_, fun x hx ht hs hne y hy e2 => ?_, fun y hy e2 => ?_⟩
  · cases ho : T x with
    | true => exact h.rc x hx ho hs
    | false => exact Rch.trans (.step (.refl ha) e hk) (g.rc x hx ht ho)
  · cases ho : T x with
    | true => exact g.ge y (h.cl x hx ho hs hne y hy e2)
    | false => exact g.cl x hx ht ho y hy e2
  · by_cases e1 : y = k
    · rw [e1]; exact g.me
    · exact g.ge y (h.na y (by omega) e2)
theorem Gl.done (h : Gl n adj a S T n) : Grew n adj a S T :=
  ⟨h.ge, h.me, h.rc, fun x hx ht hs y hy e => by
    by_cases e1 : x = a
    · rw [e1] at e; exact h.na y hy e
    · exact h.cl x hx ht hs e1 y hy e⟩
/-- A walk from a where none was seen: those to whom one comes. -/
theorem Grew.all (h : Grew n adj a S T) (ha : a < n) (hs : ∀ x, x < n → S x = false) (x : Nat) (hx : x < n) : T x = true ↔ Rch n adj a x := by
  refine ⟨fun ht => h.rc x hx ht (hs x hx), fun hr => ?_⟩
  clear hx
  induction hr with
  | refl _ => exact h.me
  | step hr e l ih => exact h.cl _ hr.lt ih (hs _ hr.lt) _ l e
end
/-- The answer: those of whom S says so, rising. -/
def outL (n : Nat) (S : Nat → Bool) : List Int := ((List.range n).filter S).map (fun x : Nat => (x : Int))
theorem outL_eq {n : Nat} {S T : Nat → Bool} (h : ∀ x, x < n → (S x = true ↔ T x = true)) : outL n S = outL n T := by
  unfold outL
  congr 1
  apply List.filter_congr
  intro x hx
  have h1 := h x (List.mem_range.1 hx)
  cases h2 : S x <;> cases h3 : T x <;> simp_all
theorem outL_mem {n : Nat} {S : Nat → Bool} {v : Int} (h : v ∈ outL n S) : ∃ x : Nat, v = (x : Int) ∧ x < n ∧ S x = true := by
  unfold outL at h
  obtain ⟨x, hx, rfl⟩ := List.mem_map.1 h
  obtain ⟨h1, h2⟩ := List.mem_filter.1 hx
  exact ⟨x, rfl, List.mem_range.1 h1, h2⟩
theorem outL_of {n : Nat} {S : Nat → Bool} {x : Nat} (hx : x < n) (h : S x = true) : (x : Int) ∈ outL n S := by
  unfold outL
  exact List.mem_map.2 ⟨x, List.mem_filter.2 ⟨List.mem_range.2 hx, h⟩, rfl⟩
theorem outL_len (n : Nat) (S : Nat → Bool) : (outL n S).length ≤ n := by
  unfold outL
  rw [List.length_map]
  have := List.length_filter_le S (List.range n)
  rw [List.length_range] at this
  exact this
theorem outL_succ (n : Nat) (S : Nat → Bool) : outL (n + 1) S = outL n S ++ (if S n = true then [(n : Int)] else []) := by
  unfold outL
  rw [List.range_succ, List.filter_append, List.map_append]
  congr 1
  by_cases h : S n = true
  · rw [if_pos h]; simp [h]
  · rw [if_neg h]; simp [h]
/-! ### membranes -/
abbrev Mb := Int × Int × Bool
def opens (L : List Mb) (a b : Int) : Prop := ∃ m ∈ L, m.2.2 = false ∧ ((m.1 = a ∧ m.2.1 = b) ∨ (m.2.1 = a ∧ m.1 = b))
def adjL (L : List Mb) (a b : Nat) : Prop := opens L (a : Int) (b : Int)
theorem adjL_sym (L : List Mb) (x y : Nat) (h : adjL L x y) : adjL L y x := by
  obtain ⟨m, hm, hd, h⟩ := h
  exact ⟨m, hm, hd, h.symm.imp (fun e => ⟨e.2, e.1⟩) (fun e => ⟨e.2, e.1⟩)⟩
theorem adjL_mono {L L' : List Mb} (h : ∀ m ∈ L, m ∈ L') (x y : Nat) (k : adjL L x y) : adjL L' x y := by
  obtain ⟨m, hm, hd⟩ := k
  exact ⟨m, h m hm, hd⟩
theorem adjL_live (L : List Mb) (x y : Nat) : adjL (L.filter fun m => !m.2.2) x y ↔ adjL L x y := by
  refine ⟨adjL_mono (fun m hm => (List.mem_filter.1 hm).1) x y, ?_⟩
  rintro ⟨m, hm, hd, h⟩
  exact ⟨m, List.mem_filter.2 ⟨hm, by simp [hd]⟩, hd, h⟩
theorem opens_snoc (L : List Mb) (m : Mb) (a b : Int) : opens (L ++ [m]) a b ↔ opens L a b ∨ (m.2.2 = false ∧ ((m.1 = a ∧ m.2.1 = b) ∨ (m.2.1 = a ∧ m.1 = b))) := by
  unfold opens
  constructor
  · rintro ⟨x, hx, h⟩
    rcases List.mem_append.1 hx with h1 | h1
    · exact .inl ⟨x, h1, h⟩
    · rw [List.mem_singleton.1 h1] at h; exact .inr h
  · rintro (⟨x, hx, h⟩ | h)
    · exact ⟨x, List.mem_append_left _ hx, h⟩
    · exact ⟨m, List.mem_append_right _ (List.mem_singleton.2 rfl), h⟩
end Go.Proofs.YtkcljohkcpdfaaaGreatDoor.gr
