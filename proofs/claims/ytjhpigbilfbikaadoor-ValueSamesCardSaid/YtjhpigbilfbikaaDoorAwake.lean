/- The packages' Awake, each by one run of the evaluator over the one below. No condition but that the laid variables read as they are laid. -/
import Derived.Test.YtjhpigbilfbikaaDoorBase
set_option maxRecDepth 100000
namespace Go.Proofs.YtjhpigbilfbikaaDoor
open Go Go.RowKit Ev
theorem awake01 (w : World) (hL : Laid w) : Calls Tryd.prog 14 #[] w fun e w' => e = .returned (.bool true) ∧ Below w.heap.size w w' :=
  tab [] [] [] [] [] 14 [] (.bool true) rfl rfl trivial trivial trivial (by kernel_rfl) rfl rfl w hL
theorem awake02 (w : World) (hL : Laid w) : Calls Tryd.prog 5 #[] w fun e w' => e = .returned (.bool true) ∧ Below w.heap.size w w' :=
  tab [] [] [] [] [(14, [], .bool true)] 5 [] (.bool true) rfl rfl trivial trivial ⟨⟨rfl, fun w h => awake01 w h⟩, trivial⟩ (by kernel_rfl) rfl rfl w hL
end Go.Proofs.YtjhpigbilfbikaaDoor
