/- graph's map of pairs: what it holds. Plain. -/
import Derived.Test.YtkcljohkcpdfaaaGreatDoorProg
import Derived.Test.YtkcljohkcpdfaaaGreatDoorHp
import Derived.Laws.BitsLemmas
import Derived.DeepKeys4
import Derived.Maps.OwnOps
import Derived.Maps.Views
import Derived.OwnWalk
import Derived.ChangeAlike
import Derived.ProofKit
import Derived.Lib.Bytes
set_option linter.unusedVariables false
namespace Go.Proofs.YtkcljohkcpdfaaaGreatDoor.gr
open Go.RowKit Go.Maps mem
set_option maxRecDepth 100000
set_option maxHeartbeats 400000
theorem laidOutP : laidOutB Tryz.prog = true := by kernel_rfl
theorem sizeP : Tryz.prog.types.size + 1 = (Tryz.prog.types.size - 1) + 1 + 1 := by kernel_rfl
def pairV (a b : Int) : Value := .agg #[.int .i64 a, .int .i64 b]
theorem rowP : (41 : TypeId) < Tryz.prog.types.size := of_decide_eq_true (by kernel_rfl)
theorem deepP : Tryz.prog.keyTypeAt (Tryz.prog.types.size + 1) 41 = true := by kernel_rfl
theorem deepP3 : Tryz.prog.keyTypeAt 3 41 = true := by kernel_rfl
theorem KP : Maps.Keyed Tryz.prog 41 := Maps.Keyed.of_law (deep_law_laid laidOutP (m := 3) (by omega) rowP deepP3 (by rw [Tryz.underlying41]))
theorem cellsP : Tryz.prog.cellsOf 41 = 2 := by kernel_rfl
theorem wf_i64 {a : Int} (h : -9223372036854775808 ≤ a ∧ a ≤ 9223372036854775807) : (Lit.int .i64 a).wf = true := by
  show (decide (IntKind.i64.min ≤ a) && decide (a ≤ IntKind.i64.max)) = true
  simpa [IntKind.min, IntKind.max, IntKind.signed, IntKind.bits] using h
theorem key_pair (a b : Int) (ha : (Lit.int .i64 a).wf = true) (hb : (Lit.int .i64 b).wf = true) : ∃ l, keyOf Tryz.prog 41 (pairV a b) = some l := by
  have hf : (pairV a b).formed Tryz.prog 41 = true := by simp [pairV, Value.formed, Tryz.underlying41, cellsP]
  have c2 : Tryz.prog.cellsOf 3 = 1 := by kernel_rfl
  have hl : ∃ ls, Tryz.prog.keyLits (Tryz.prog.types.size + 1) 41 [.int .i64 a, .int .i64 b] = some ls := by
    obtain ⟨d, hd⟩ : ∃ d, Tryz.prog.types.size + 1 = d + 1 + 1 := ⟨_, sizeP⟩
    have one : ∀ x : Int, (Lit.int .i64 x).wf = true → Tryz.prog.keyLits (d + 1) 3 [.int .i64 x] = some [.int .i64 x] := fun x hx => by simp [Program.keyLits, Tryz.underlying3, hx]
    have hlen : ([Value.int .i64 a, Value.int .i64 b] : List Value).length = Tryz.prog.cellsOf 41 := by rw [cellsP]; rfl
    refine ⟨[.int .i64 a, .int .i64 b], ?_⟩
    rw [hd, Program.keyLits.eq_def]
    simp only [Tryz.underlying41]
    rw [if_pos hlen]
    simp only [c2, show List.range 2 = [0, 1] from rfl]
    simp [one a ha, one b hb]
  obtain ⟨ls, hl⟩ := hl
  refine ⟨.string (keyBytes ls), ?_⟩
  unfold keyOf
  rw [Tryz.underlying41]
  simp only [Program.keyType, deepP, hf, Bool.and_self, if_true]
  rw [show (pairV a b).cells.toList = [.int .i64 a, .int .i64 b] from rfl, hl]
  rfl
theorem pair_inj {a b a' b' : Int} {l : Lit} (h : keyOf Tryz.prog 41 (pairV a b) = some l) (h' : keyOf Tryz.prog 41 (pairV a' b') = some l) : a = a' ∧ b = b' := by
  have := KP.inj h h'
  simp [pairV] at this
  exact this
/-- What the map of pairs holds: a number above none just where Pr holds. -/
structure OpD (D : DataW Nat) (Pr : Int → Int → Prop) (m : Nat) : Prop where
  td : Tidy D
  at_ : ∀ a b l, keyOf Tryz.prog 41 (pairV a b) = some l → ∃ c : Int, D.atKey l (.lit (.int .i64 0)) = .lit (.int .i64 c) ∧ 0 ≤ c ∧ c ≤ m ∧ (0 < c ↔ Pr a b)
theorem OpD.nil : OpD (.map []) (fun _ _ => False) 0 := ⟨⟨[], rfl, List.Pairwise.nil⟩, fun a b l h => ⟨0, rfl, by omega, by omega, by simp⟩⟩
theorem OpD.put {D : DataW Nat} {Pr Pr' : Int → Int → Prop} {m : Nat} (h : OpD D Pr m) {x y c : Int} {l : Lit} (hl : keyOf Tryz.prog 41 (pairV x y) = some l) (hc : D.atKey l (.lit (.int .i64 0)) = .lit (.int .i64 c))
    (hp : ∀ a b, Pr' a b ↔ Pr a b ∨ (x = a ∧ y = b)) : OpD (D.put l (.lit (.int .i64 (c + 1)))) Pr' (m + 1) := by
  have hm : IsMap D := by obtain ⟨es, he, -⟩ := h.td; exact ⟨es, he⟩
  obtain ⟨c', h1, h2, h3, -⟩ := h.at_ x y l hl
  have hcc : c = c' := by rw [hc] at h1; simpa using h1
  subst hcc
  refine ⟨Tidy.put h.td (KP.key hl) _, fun a b l' hl' => ?_⟩
  by_cases e : x = a ∧ y = b
  · obtain ⟨rfl, rfl⟩ := e
    rw [hl] at hl'
    cases hl'
    rw [atKey_put_same hm (KP.key hl)]
    exact ⟨c + 1, rfl, by omega, by omega, ⟨fun _ => (hp _ _).2 (.inr ⟨rfl, rfl⟩), fun _ => by omega⟩⟩
  · have hne : l' ≠ l := by
      rintro rfl
      exact e (pair_inj hl hl')
    rw [atKey_put_other hne]
    obtain ⟨d, g1, g2, g3, g4⟩ := h.at_ a b l' hl'
    exact ⟨d, g1, g2, by omega, g4.trans ⟨fun k => (hp _ _).2 (.inl k), fun k => ((hp _ _).1 k).resolve_right e⟩⟩
theorem OpD.same {D : DataW Nat} {Pr Pr' : Int → Int → Prop} {m : Nat} (h : OpD D Pr m) (hp : ∀ a b, Pr' a b ↔ Pr a b) : OpD D Pr' m :=
  ⟨h.td, fun a b l hl => by obtain ⟨c, h1, h2, h3, h4⟩ := h.at_ a b l hl; exact ⟨c, h1, h2, h3, h4.trans (hp a b).symm⟩⟩
end Go.Proofs.YtkcljohkcpdfaaaGreatDoor.gr
