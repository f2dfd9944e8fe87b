import Derived.Test.YtjhpigbilfbikaaMk
import Derived.Lib.Bytes
set_option linter.unusedVariables false
namespace Go.Proofs.Ytjhpigbilfbikaa.Eq
open Go.RowKit Mk
set_option maxHeartbeats 400000
theorem guard_val (p q : Int × Int × ByteArray) (x y : Operand) (W : World) : (eqGuard .eql 29 x y (val p) (val q)).run Try.prog W = .ok () W := by
  obtain ⟨a, b, c⟩ := p
  obtain ⟨a', b', c'⟩ := q
  simp only [val]
  go_simp
theorem toList_inj (c c' : ByteArray) : (c.toList = c'.toList) = (c = c') := propext ⟨fun h => by
  rw [Lib.toList_data, Lib.toList_data] at h
  exact ByteArray.ext (by simpa using h), fun h => by rw [h]⟩
theorem eq_val (p q : Int × Int × ByteArray) (W : World) : (binOp .eql 29 (val p) (val q)).run Try.prog W = .ok (.bool (decide (p = q))) W := by
  obtain ⟨a, b, c⟩ := p
  obtain ⟨a', b', c'⟩ := q
  simp only [val]
  go_simp
  simp only [toList_inj]
  by_cases h1 : a = a' <;> by_cases h2 : b = b' <;> by_cases h3 : c = c' <;> simp [h1, h2, h3]
end Go.Proofs.Ytjhpigbilfbikaa.Eq
