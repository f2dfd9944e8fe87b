/- The evaluator's tables out of a program; the functions without a Go body that it knows. No condition. -/
import Derived.Test.YtmmfpkkkpeapeaaGreatDoorEvU
import Derived.Laws.Externs
set_option linter.unusedSectionVars false
set_option linter.unusedVariables false
set_option linter.unusedSimpArgs false
namespace Go.Proofs.YtmmfpkkkpeapeaaGreatDoor.Ev
open Go Go.RowKit
variable [Sym]

/-- A list's element, so that the kernel is quick at it. -/
def nth {α : Type} (l : List α) (n : Nat) : Option α :=
  Nat.rec (motive := fun _ => List α → Option α) (fun l => List.casesOn (motive := fun _ => Option α) l none fun a _ => some a) (fun _ ih l => List.casesOn (motive := fun _ => Option α) l none fun _ t => ih t) n l
omit [Sym] in
theorem nth_eq {α : Type} : ∀ (n : Nat) (l : List α), nth l n = l[n]?
  | 0, [] => rfl
  | 0, _ :: _ => rfl
  | _ + 1, [] => rfl
  | n + 1, _ :: l => (nth_eq n l).trans (by simp)
def infoF (P : Program) (t : Nat) : Option TypeInfo := nth P.types.toList t
omit [Sym] in
theorem infoF_some {P : Program} {t : Nat} {i : TypeInfo} (h : infoF P t = some i) : P.info? t = some i := by
  unfold infoF at h
  rw [nth_eq, Array.getElem?_toList] at h
  have hlt : t < P.types.size := by
    rcases Nat.lt_or_ge t P.types.size with h' | h'
    · exact h'
    · rw [Array.getElem?_eq_none h'] at h; cases h
  unfold Tables.info?
  rw [if_pos hlt]
  exact h
def undF (P : Program) (t : Nat) : Option TypeDesc :=
  match infoF P t with
  | some { desc := .named _ u, .. } => (infoF P u).map (·.desc)
  | some i => some i.desc
  | none => none
omit [Sym] in
theorem undF_some {P : Program} {t : Nat} {d : TypeDesc} (h : undF P t = some d) : P.underlying t = some d := by
  unfold undF at h
  unfold Program.underlying
  split at h
  · rename_i e
    rw [infoF_some e]
    obtain ⟨j, ej, hj⟩ := Option.map_eq_some_iff.1 h
    dsimp only
    rw [infoF_some ej]
    exact congrArg some hj
  · rename_i i hn e
    rw [infoF_some e]
    cases h
    split
    · rename_i h2; cases h2; exact absurd rfl (hn _ _ _ _ _ _ _ _ _ _ _)
    · rename_i h2; cases h2; rfl
    · rename_i h2; cases h2
  · cases h
def tiOf (P : Program) (t : Nat) : Option TI :=
  match undF P t, infoF P t with
  | some d, some i => match i.zero with
    | some z => if plainV 6 z && decide (z.cells.size = i.size) then some ⟨d, i.size, i.bytes, z, !P.stoodInHeld t && !P.eqGuardType P.depth t⟩ else none
    | none => none
  | _, _ => none
def fnOf (P : Program) (f : Nat) : Option Func :=
  match nth P.funcs.toList f with
  | some fn => if fn.body.isSome && !(fn.name == "runtime.NumGoroutine") then some fn else none
  | none => none
def envOf (P : Program) (G : Nat) (eqT : Nat → Value → Value → Option Bool) : Env := ⟨tiOf P, fnOf P, G, eqT⟩
theorem envOf_ok (P : Program) (G : Nat) {eqT : Nat → Value → Value → Option Bool} (hq : ∀ κ x y b, eqT κ x y = some b → ∀ ι x' y', VRel ι x x' → VRel ι y y' → eqScal κ x' y' = some b) : (envOf P G eqT).Ok P := by
  have key : ∀ t i, tiOf P t = some i → P.underlying t = some i.desc ∧ (∃ info, P.info? t = some info ∧ info.size = i.size ∧ info.bytes = i.bytes ∧ info.zero = some i.zero) ∧ plainV 6 i.zero = true ∧ i.zero.cells.size = i.size ∧ (i.eqOk = true → P.stoodInHeld t = false ∧ P.eqGuardType P.depth t = false) := by
    intro t i h
    unfold tiOf at h
    split at h
    · rename_i d info e1 e2
      have e1 := undF_some e1
      have e2 := infoF_some e2
      split at h
      · rename_i z ez
        split at h
        · rename_i g
          cases h
          rw [Bool.and_eq_true, decide_eq_true_eq] at g
          refine ⟨e1, ⟨info, e2, rfl, rfl, ez⟩, g.1, g.2, fun h => ?_⟩
          simpa using h
        · cases h
      · cases h
    · cases h
  refine ⟨fun t i h => ⟨(key t i h).1, (key t i h).2.1⟩, fun t i h => ⟨(key t i h).2.2.1, (key t i h).2.2.2.1⟩, fun t i h => (key t i h).2.2.2.2, fun f fn h => ?_, hq⟩
  have h : fnOf P f = some fn := h
  unfold fnOf at h
  rw [nth_eq, Array.getElem?_toList] at h
  split at h
  · rename_i fn' e
    split at h
    · rename_i g
      cases h
      rw [Bool.and_eq_true, Bool.not_eq_true'] at g
      refine ⟨e, g.1, fun args w => ?_⟩
      have h1 : fn.name ≠ "runtime.NumGoroutine" := by simpa using g.2
      have h2 : ¬ fn.body = none := by
        intro hq; rw [hq] at g; cases g.1
      simp [callFunc, e, h1, h2]
    · cases h
  · cases h
def aNoEsc (a : Array Value) : LM Value := do
  LM.guard (decide (a.size = 1))
  LM.ofOption a[0]?
def aIdxB (a : Array Value) : LM Value := do
  LM.guard (decide (a.size = 2))
  let x ← LM.ofOption a[0]?
  let y ← LM.ofOption a[1]?
  match x, y with
  | .string s, .int .u8 c => pure (match (List.range s.size).find? fun i => s[i]! == c.toNat.toUInt8 with
    | some i => goInt i
    | none => goInt (-1))
  | _, _ => LM.fail
/-- Function f is internal/abi.NoEscape (0: there is none in the program). -/
def EscRun (P : Program) (f : Nat) : Prop := f = 0 ∨ ∀ args w, (callFunc f args).run P w = ((Extern.AbiNoEscape.same args).run P w).andThen fun v w' => .ok (.value v) w'
/-- Function f is internal/bytealg.IndexByteString (0: there is none in the program). -/
def IdxRun (P : Program) (f : Nat) : Prop := f = 0 ∨ ∀ args w, (callFunc f args).run P w = ((Extern.BytealgIndexByte.indexByte args).run P w).andThen fun v w' => .ok (.value v) w'
def extOf (f1 f2 : Nat) (fact : FK → List Value → Option Value) : Ext := ⟨fun f => if f = 0 then none else if f = f1 then some aNoEsc else if f = f2 then some aIdxB else none, fact⟩
theorem extOf_ok {E : Env} {P : Program} {B : Bd} {f1 f2 : Nat} {fact : FK → List Value → Option Value} (hf : ∀ k vs v, fact k vs = some v → ∀ ι vs', VL ι vs vs' → ∀ w, B.J w → ∃ v', FK.Runs P w v' k vs' ∧ VRel ι v v') (h1 : EscRun P f1)
    (h2 : IdxRun P f2) : (extOf f1 f2 fact).Ok E P B := by
  refine ⟨?_, hf⟩
  intro f g hg ι st w args args' v st' hw hfree ha h
  dsimp only [extOf] at hg
  split at hg
  · cases hg
  rename_i hz
  split at hg
  · rename_i e
    subst e
    replace h1 := h1.resolve_left hz
    cases hg
    unfold aNoEsc at h
    replace h := Run.bindGuard h
    obtain ⟨hs, h⟩ := h
    obtain ⟨e, rfl⟩ := Run.ofOption.1 h
    obtain ⟨x', e', hx⟩ := ha.get? e
    have haa := arr1 (ha.1.trans (of_decide_eq_true hs)) e'
    subst haa
    refine Does.same hw (y := .value x') ?_ ⟨x', rfl, hx⟩
    have hs1 : Extern.AbiNoEscape.same #[x'] = pure x' := rfl
    rw [h1, hs1]
    rfl
  · split at hg
    · rename_i e
      subst e
      replace h2 := h2.resolve_left hz
      cases hg
      unfold aIdxB at h
      replace h := Run.bindGuard h
      obtain ⟨hs, h⟩ := h
      replace h := Run.bindOpt h
      obtain ⟨x, e1, h⟩ := h
      replace h := Run.bindOpt h
      obtain ⟨y, e2, h⟩ := h
      obtain ⟨x', e1', hx⟩ := ha.get? e1
      obtain ⟨y', e2', hy⟩ := ha.get? e2
      have haa := arr2 (ha.1.trans (of_decide_eq_true hs)) e1' e2'
      subst haa
      split at h
      · rename_i s c
        obtain ⟨rfl, rfl⟩ := Run.pure.1 h
        cases hx
        cases hy
        refine Does.same hw (y := .value (match (List.range s.size).find? fun i => s[i]! == c.toNat.toUInt8 with | some i => goInt i | none => goInt (-1))) ?_ ⟨_, rfl, ?_⟩
        · have hs2 : Extern.BytealgIndexByte.indexByte #[.string s, .int .u8 c] = (do
              let b ← Extern.Bytes.bytesOf (.string s)
              let c ← Extern.Bytes.asByte (.int .u8 c)
              match (List.range b.size).find? fun i => b[i]! == c with
              | some i => pure (goInt i)
              | none => pure (goInt (-1))) := rfl
          rw [h2, hs2]
          simp only [Extern.Bytes.bytesOf, Extern.Bytes.asByte, Sem.run_bind, Sem.run_pure, Result.andThen_ok]
          cases (List.range s.size).find? fun i => s[i]! == c.toNat.toUInt8 <;> rfl
        · cases (List.range s.size).find? fun i => s[i]! == c.toNat.toUInt8 <;> exact .int _ _
      · exact (Run.fail.1 h).elim
    · cases hg
end Go.Proofs.YtmmfpkkkpeapeaaGreatDoor.Ev
