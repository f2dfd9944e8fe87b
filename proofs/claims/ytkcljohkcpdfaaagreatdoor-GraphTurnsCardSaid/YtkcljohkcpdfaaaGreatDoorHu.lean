/- GraphTurns: the law. -/
import Derived.Test.YtkcljohkcpdfaaaGreatDoorHt
import Derived.Test.YtkcljohkcpdfaaaGreatDoorHh
set_option linter.unusedVariables false
namespace Go.Proofs.YtkcljohkcpdfaaaGreatDoor.gr
open Go.RowKit Go.Maps mem
theorem turns_law (v : Value) (d mx my : Int) (w : World) (hL : Laid w) (h : Handed 2 P2At v w) (hd : 0 ≤ d ∧ d ≤ 255) (hmx : 0 ≤ mx ∧ mx ≤ 255) (hmy : 0 ≤ my ∧ my ≤ 255) :
    Calls Tryz.prog 3 #[v, .int .u8 d, .agg #[.int .u8 mx, .int .u8 my]] w fun e w' => e = .returned (.bool true) ∧ Below w.heap.size w w' := by
  obtain ⟨la, n, lc, ps, rfl, hl⟩ := h
  exact turns la n lc ps d mx my w hL hd hmx hmy hl
end Go.Proofs.YtkcljohkcpdfaaaGreatDoor.gr
