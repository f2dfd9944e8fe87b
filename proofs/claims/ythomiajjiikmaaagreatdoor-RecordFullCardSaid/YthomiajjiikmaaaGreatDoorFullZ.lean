/- RecordFull: numbers. -/
import Derived.Test.YthomiajjiikmaaaGreatDoorAwake
set_option linter.unusedVariables false
set_option linter.unusedSimpArgs false
set_option maxRecDepth 100000
namespace Go.Proofs.YthomiajjiikmaaaGreatDoor.full
open Go Go.RowKit Ev
theorem ne_small {m : Int} (h : 64 ≤ m) (i : Int) (hi : i < 64) : (m == i) = false := by
  simp only [beq_eq_false_iff_ne, ne_eq]; omega
theorem small_ne {m : Int} (h : 64 ≤ m) (i : Int) (hi : i < 64) : (i == m) = false := by
  simp only [beq_eq_false_iff_ne, ne_eq]; omega
theorem rem64 (k : Int) (h : 0 ≤ k) : ∃ j : Nat, j < 64 ∧ Int.tmod k 64 = (j : Int) :=
  ⟨(k % 64).toNat, by omega, by rw [Int.tmod_eq_emod_of_nonneg h]; omega⟩
end Go.Proofs.YthomiajjiikmaaaGreatDoor.full
