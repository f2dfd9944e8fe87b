/- The evaluator's remaining built-in calls: len, cap, max, min, copy, make; and keys of maps. No condition. -/
import Derived.Test.YtmmfpkkkpeapeaaGreatDoorEvH
import Derived.MapKept
set_option linter.unusedSectionVars false
set_option linter.unusedVariables false
set_option linter.unusedSimpArgs false
namespace Go.Proofs.YtmmfpkkkpeapeaaGreatDoor.Ev
open Go Go.RowKit
variable [Sym]

section
variable {α β : Type} {st st' : St} {y : β}
theorem Run.bindOpt {o : Option α} {f : α → LM β} (h : Run (LM.ofOption o >>= f) st y st') : ∃ x, o = some x ∧ Run (f x) st y st' := by
  obtain ⟨x, st1, h1, h2⟩ := Run.bind.1 h
  obtain ⟨e, rfl⟩ := Run.ofOption.1 h1
  exact ⟨x, e, h2⟩
theorem Run.bindGuard {c : Bool} {f : Unit → LM β} (h : Run (LM.guard c >>= f) st y st') : c = true ∧ Run (f ()) st y st' := by
  obtain ⟨x, st1, h1, h2⟩ := Run.bind.1 h
  obtain ⟨e, rfl⟩ := Run.guard.1 h1
  exact ⟨e, h2⟩
theorem Run.bindCells {b : Nat} {f : Array Value × TypeId × Bool × Nat → LM β} (h : Run (Ev.cellsAt b >>= f) st y st') : ∃ p, st.get b = some (.cells p.1 p.2.1 p.2.2.1 p.2.2.2) ∧ Run (f p) st y st' := by
  obtain ⟨x, st1, h1, h2⟩ := Run.bind.1 h
  obtain ⟨e, rfl⟩ := Run.cellsAt h1
  exact ⟨x, e, h2⟩
theorem Run.bindLook {b : Nat} {f : AObj → LM β} (h : Run (LM.look b >>= f) st y st') : ∃ o, st.get b = some o ∧ Run (f o) st y st' := by
  obtain ⟨x, st1, h1, h2⟩ := Run.bind.1 h
  obtain ⟨rfl, e⟩ := Run.look.1 h1
  exact ⟨x, e, h2⟩
end
theorem arr1 {α : Type} {a : Array α} {x : α} (h : a.size = 1) (e : a[0]? = some x) : a = #[x] := by
  apply Array.ext_getElem?
  intro i
  match i with
  | 0 => rw [e]; rfl
  | k + 1 => rw [Array.getElem?_eq_none (by omega)]; rfl
theorem arr2 {α : Type} {a : Array α} {x y : α} (h : a.size = 2) (e : a[0]? = some x) (e2 : a[1]? = some y) : a = #[x, y] := by
  apply Array.ext_getElem?
  intro i
  match i with
  | 0 => rw [e]; rfl
  | 1 => rw [e2]; rfl
  | k + 2 => rw [Array.getElem?_eq_none (by omega)]; rfl
theorem ARel.inv1 {ι : Ren} {x : Value} {c' : Array Value} (h : ARel ι #[x] c') : ∃ x', c' = #[x'] ∧ VRel ι x x' := by
  obtain ⟨x', e, hx⟩ := h.get? (i := 0) (v := x) rfl
  exact ⟨x', arr1 h.1 e, hx⟩
theorem ARel.inv2 {ι : Ren} {x y : Value} {c' : Array Value} (h : ARel ι #[x, y] c') : ∃ x' y', c' = #[x', y'] ∧ VRel ι x x' ∧ VRel ι y y' := by
  obtain ⟨x', e, hx⟩ := h.get? (i := 0) (v := x) rfl
  obtain ⟨y', e2, hy⟩ := h.get? (i := 1) (v := y) rfl
  exact ⟨x', y', arr2 h.1 e e2, hx, hy⟩

/-! ### maps' blocks -/
inductive EL (ι : Ren) : List MapEntry → List MapEntry → Prop
  | nil : EL ι [] []
  | cons {e e' : MapEntry} {l l' : List MapEntry} (h : EntryRel ι e e') (t : EL ι l l') : EL ι (e :: l) (e' :: l')
theorem EL.of_get {ι : Ren} : ∀ (l l' : List MapEntry), l'.length = l.length → (∀ i, i < l.length → EntryRel ι (l.getD i default) (l'.getD i default)) → EL ι l l'
  | [], [], _, _ => .nil
  | [], _ :: _, h, _ => by simp at h
  | _ :: _, [], h, _ => by simp at h
  | e :: l, e' :: l', h, k => .cons (k 0 (by simp)) (EL.of_get l l' (by simpa using h) fun i hi => by have := k (i + 1) (by simp; omega); simpa using this)
theorem EL.get {ι : Ren} {l l' : List MapEntry} (h : EL ι l l') : l'.length = l.length ∧ ∀ i, i < l.length → EntryRel ι (l.getD i default) (l'.getD i default) := by
  induction h with
  | nil => exact ⟨rfl, fun i hi => absurd hi (by simp)⟩
  | cons h _ ih =>
    refine ⟨by simp [ih.1], fun i hi => ?_⟩
    cases i with
    | zero => exact h
    | succ i => have := ih.2 i (by simpa using hi); simpa using this
theorem EntriesRel.list {ι : Ren} {es es' : Array MapEntry} (h : EntriesRel ι es es') : EL ι es.toList es'.toList := by
  refine EL.of_get _ _ (by simpa using h.1) fun i hi => ?_
  have := h.2 i (by simpa using hi)
  simpa only [Array.getD_eq_getD_getElem?, List.getD_eq_getElem?_getD, Array.getElem?_toList] using this
theorem EL.entries {ι : Ren} {es es' : Array MapEntry} (h : EL ι es.toList es'.toList) : EntriesRel ι es es' := by
  refine ⟨by simpa using h.get.1, fun i hi => ?_⟩
  have := h.get.2 i (by simpa using hi)
  simpa only [Array.getD_eq_getD_getElem?, List.getD_eq_getElem?_getD, Array.getElem?_toList] using this
theorem EL.append {ι : Ren} {a a' b b' : List MapEntry} (h : EL ι a a') (k : EL ι b b') : EL ι (a ++ b) (a' ++ b') := by
  induction h with
  | nil => exact k
  | cons h _ ih => exact .cons h ih
theorem EL.filter {ι : Ren} (p : Nat → Bool) {l l' : List MapEntry} (h : EL ι l l') : EL ι (l.filter fun e => p e.born) (l'.filter fun e => p e.born) := by
  induction h with
  | nil => exact .nil
  | cons h _ ih =>
    simp only [List.filter_cons, h.born]
    split
    · exact .cons h ih
    · exact ih
theorem EL.all {ι : Ren} (p : Nat → Bool) {l l' : List MapEntry} (h : EL ι l l') : l'.all (fun e => p e.born) = l.all fun e => p e.born := by
  induction h with
  | nil => rfl
  | cons h _ ih => simp only [List.all_cons, ih, h.born]
theorem EL.erase {ι : Ren} {l l' : List MapEntry} (h : EL ι l l') (i : Nat) : EL ι (l.eraseIdx i) (l'.eraseIdx i) := by
  induction h generalizing i with
  | nil => exact .nil
  | cons h t ih =>
    cases i with
    | zero => exact t
    | succ i => exact .cons h (ih i)
theorem EL.modify {ι : Ren} {l l' : List MapEntry} (h : EL ι l l') (i : Nat) {f f' : MapEntry → MapEntry} (hf : ∀ e e', EntryRel ι e e' → EntryRel ι (f e) (f' e')) : EL ι (l.modify i f) (l'.modify i f') := by
  induction h generalizing i with
  | nil => cases i <;> exact .nil
  | cons h t ih =>
    cases i with
    | zero => exact .cons (hf _ _ h) t
    | succ i => exact .cons h (ih i)
theorem EL.mono {ι ι' : Ren} (le : ι.le ι') {l l' : List MapEntry} (h : EL ι l l') : EL ι' l l' := by
  induction h with
  | nil => exact .nil
  | cons h _ ih => exact .cons ⟨h.key.mono le, h.val.mono le, h.born⟩ ih
theorem EL.find {ι : Ren} (p : Nat → Bool) {l l' : List MapEntry} (h : EL ι l l') {e : MapEntry} (hf : l.find? (fun e => p e.born) = some e) : ∃ e', l'.find? (fun e => p e.born) = some e' ∧ EntryRel ι e e' := by
  induction h with
  | nil => cases hf
  | cons h _ ih =>
    simp only [List.find?_cons, h.born] at hf ⊢
    split at hf
    · cases hf; exact ⟨_, rfl, h⟩
    · exact ih hf
/-- Closed values are what they are. -/
theorem plainV_eq {ι : Ren} : ∀ (d : Nat) (v v' : Value), plainV d v = true → VRel ι v v' → v' = v := by
  intro d
  induction d with
  | zero => intro v v' h; simp [plainV] at h
  | succ d ih =>
    have all : ∀ c c' : Array Value, c.all (plainV d) = true → c'.size = c.size → (∀ i, i < c.size → VRel ι (c.getD i undef) (c'.getD i undef)) → c' = c := by
      intro c c' h hs hr
      rw [Array.all_eq_true] at h
      apply Array.ext hs
      intro i h1 h2
      have := hr i h2
      simp only [Array.getD, h1, h2, dite_true] at this
      exact ih _ _ (h i h2) this
    intro v v' h hv
    cases hv with
    | top => simp [plainV] at h
    | tok i => simp [plainV] at h
    | bool b => rfl
    | int k n => rfl
    | str s => rfl
    | ptr0 => rfl
    | ptr h' => simp [plainV] at h
    | sl0 n c => rfl
    | sl n h' hc => simp [plainV] at h
    | slg n h' _ _ _ _ _ => simp [plainV] at h
    | slv n h' _ _ => simp [plainV] at h
    | map0 => rfl
    | map h' => simp [plainV] at h
    | nilFunc => rfl
    | func hf hx hc h1 h2 =>
      cases hf with
      | func f =>
        simp only [plainV, Bool.and_eq_true, Array.isEmpty_iff] at h
        obtain ⟨rfl, rfl⟩ := h
        have e1 := Array.eq_empty_of_size_eq_zero (by simpa using hx)
        have e2 := Array.eq_empty_of_size_eq_zero (by simpa using hc)
        rw [e1, e2]
      | yield h' => simp [plainV] at h
    | nilIface => rfl
    | iface t h' => rw [ih _ _ h h']
    | agg hc h' => rw [all _ _ h hc h']
    | tuple hc h' => rw [all _ _ h hc h']
end Go.Proofs.YtmmfpkkkpeapeaaGreatDoor.Ev
