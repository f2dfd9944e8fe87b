/- A world in which the laid variables read as they are laid: the witness of the rows. -/
import Derived.Test.YtjhpigbilfbikaaDoorBase
import Derived.Test.YtjhpigbilfbikaaDoorFrm
import Derived.Lay
set_option maxRecDepth 100000
set_option linter.unusedVariables false
namespace Go.Proofs.YtjhpigbilfbikaaDoor
open Go Go.ChangeShapes Go.WideShapes Go.RowKit
noncomputable def laidWorld (os : Os) : World := World.laidAll Tryd.prog os laid0
theorem own : ownKnob Tryd.prog.godebug = none := by kernel_rfl
theorem laidOut : laidOutB Tryd.prog = true := by kernel_rfl
theorem laid_plain : (laid0.all fun x => x.2.handleName?.isNone) = true := by kernel_rfl
theorem laid_met {w : World} (h : laidMetH Tryd.prog laid0 w) : laidMet Tryd.prog laid0 w := by
  rw [MakeChecks.laidMetH_plain _ _ _ laid_plain] at h
  exact h
theorem laidWorld_met (os : Os) (args : Array Value) : laidMetH Tryd.prog laid0 ((laidWorld os).forCall (fun _ _ => 0) ⟨#[], args, []⟩).memory := by
  rw [MakeChecks.laidMetH_plain _ _ _ laid_plain]
  exact laidMet_laidAll _ (by kernel_rfl) (by kernel_rfl)
theorem big {w : World} (h : w.ShapedOpen Tryd.prog) : 10 ≤ w.heap.size := Frm.big_of_shape (g := 9) h (of_decide_eq_true (by kernel_rfl)) (by kernel_rfl)
theorem laid_of {w : World} (h : laidMetH Tryd.prog laid0 w) (hs : w.ShapedOpen Tryd.prog) : Laid w := laid_of_met (laid_met h) (big hs)
end Go.Proofs.YtjhpigbilfbikaaDoor
