/- The packages' Awake, each by one run of the evaluator over the one below. No condition but that the laid variables read as they are laid. -/
import Derived.Test.YthppammjopifbaaGreatDoorBase
set_option maxRecDepth 100000
namespace Go.Proofs.YthppammjopifbaaGreatDoor
open Go Go.RowKit Ev
theorem awake01 (w : World) (hL : Laid w) : Calls Tryz.prog 221 #[] w fun e w' => e = .returned (.bool true) ∧ Below w.heap.size w w' :=
  tab [] [] [] [] [] 221 [] (.bool true) rfl rfl trivial trivial trivial (by kernel_rfl) rfl rfl w hL
theorem awake02 (w : World) (hL : Laid w) : Calls Tryz.prog 208 #[] w fun e w' => e = .returned (.bool true) ∧ Below w.heap.size w w' :=
  tab [] [] [] [] [(221, [], .bool true)] 208 [] (.bool true) rfl rfl trivial trivial ⟨⟨rfl, fun w h => awake01 w h⟩, trivial⟩ (by kernel_rfl) rfl rfl w hL
theorem awake03 (w : World) (hL : Laid w) : Calls Tryz.prog 182 #[] w fun e w' => e = .returned (.bool true) ∧ Below w.heap.size w w' :=
  tab [] [] [] [] [(208, [], .bool true)] 182 [] (.bool true) rfl rfl trivial trivial ⟨⟨rfl, fun w h => awake02 w h⟩, trivial⟩ (by kernel_rfl) rfl rfl w hL
theorem awake04 (w : World) (hL : Laid w) : Calls Tryz.prog 161 #[] w fun e w' => e = .returned (.bool true) ∧ Below w.heap.size w w' :=
  tab [] [] [] [] [(182, [], .bool true)] 161 [] (.bool true) rfl rfl trivial trivial ⟨⟨rfl, fun w h => awake03 w h⟩, trivial⟩ (by kernel_rfl) rfl rfl w hL
theorem awake05 (w : World) (hL : Laid w) : Calls Tryz.prog 143 #[] w fun e w' => e = .returned (.bool true) ∧ Below w.heap.size w w' :=
  tab [] [] [] [] [(161, [], .bool true)] 143 [] (.bool true) rfl rfl trivial trivial ⟨⟨rfl, fun w h => awake04 w h⟩, trivial⟩ (by kernel_rfl) rfl rfl w hL
theorem awake06 (w : World) (hL : Laid w) : Calls Tryz.prog 123 #[] w fun e w' => e = .returned (.bool true) ∧ Below w.heap.size w w' :=
  tab [] [] [] [] [(143, [], .bool true)] 123 [] (.bool true) rfl rfl trivial trivial ⟨⟨rfl, fun w h => awake05 w h⟩, trivial⟩ (by kernel_rfl) rfl rfl w hL
theorem awake07 (w : World) (hL : Laid w) : Calls Tryz.prog 108 #[] w fun e w' => e = .returned (.bool true) ∧ Below w.heap.size w w' :=
  tab [] [] [] [] [(123, [], .bool true)] 108 [] (.bool true) rfl rfl trivial trivial ⟨⟨rfl, fun w h => awake06 w h⟩, trivial⟩ (by kernel_rfl) rfl rfl w hL
theorem awake08 (w : World) (hL : Laid w) : Calls Tryz.prog 91 #[] w fun e w' => e = .returned (.bool true) ∧ Below w.heap.size w w' :=
  tab [] [] [] [] [(108, [], .bool true)] 91 [] (.bool true) rfl rfl trivial trivial ⟨⟨rfl, fun w h => awake07 w h⟩, trivial⟩ (by kernel_rfl) rfl rfl w hL
theorem awake09 (w : World) (hL : Laid w) : Calls Tryz.prog 84 #[] w fun e w' => e = .returned (.bool true) ∧ Below w.heap.size w w' :=
  tab [] [] [] [] [(91, [], .bool true)] 84 [] (.bool true) rfl rfl trivial trivial ⟨⟨rfl, fun w h => awake08 w h⟩, trivial⟩ (by kernel_rfl) rfl rfl w hL
theorem awake10 (w : World) (hL : Laid w) : Calls Tryz.prog 73 #[] w fun e w' => e = .returned (.bool true) ∧ Below w.heap.size w w' :=
  tab [] [] [] [] [(84, [], .bool true)] 73 [] (.bool true) rfl rfl trivial trivial ⟨⟨rfl, fun w h => awake09 w h⟩, trivial⟩ (by kernel_rfl) rfl rfl w hL
theorem awake11 (w : World) (hL : Laid w) : Calls Tryz.prog 67 #[] w fun e w' => e = .returned (.bool true) ∧ Below w.heap.size w w' :=
  tab [] [] [] [] [(73, [], .bool true)] 67 [] (.bool true) rfl rfl trivial trivial ⟨⟨rfl, fun w h => awake10 w h⟩, trivial⟩ (by kernel_rfl) rfl rfl w hL
theorem awake12 (w : World) (hL : Laid w) : Calls Tryz.prog 59 #[] w fun e w' => e = .returned (.bool true) ∧ Below w.heap.size w w' :=
  tab [] [] [] [] [(67, [], .bool true)] 59 [] (.bool true) rfl rfl trivial trivial ⟨⟨rfl, fun w h => awake11 w h⟩, trivial⟩ (by kernel_rfl) rfl rfl w hL
theorem awake13 (w : World) (hL : Laid w) : Calls Tryz.prog 47 #[] w fun e w' => e = .returned (.bool true) ∧ Below w.heap.size w w' :=
  tab [] [] [] [] [(59, [], .bool true)] 47 [] (.bool true) rfl rfl trivial trivial ⟨⟨rfl, fun w h => awake12 w h⟩, trivial⟩ (by kernel_rfl) rfl rfl w hL
theorem awake14 (w : World) (hL : Laid w) : Calls Tryz.prog 13 #[] w fun e w' => e = .returned (.bool true) ∧ Below w.heap.size w w' :=
  tab [] [] [] [] [(47, [], .bool true)] 13 [] (.bool true) rfl rfl trivial trivial ⟨⟨rfl, fun w h => awake13 w h⟩, trivial⟩ (by kernel_rfl) rfl rfl w hL
theorem awake15 (w : World) (hL : Laid w) : Calls Tryz.prog 22 #[] w fun e w' => e = .returned (.bool true) ∧ Below w.heap.size w w' :=
  tab [] [] [] [] [(13, [], .bool true)] 22 [] (.bool true) rfl rfl trivial trivial ⟨⟨rfl, fun w h => awake14 w h⟩, trivial⟩ (by kernel_rfl) rfl rfl w hL
theorem awake16 (w : World) (hL : Laid w) : Calls Tryz.prog 36 #[] w fun e w' => e = .returned (.bool true) ∧ Below w.heap.size w w' :=
  tab [] [] [] [] [(22, [], .bool true)] 36 [] (.bool true) rfl rfl trivial trivial ⟨⟨rfl, fun w h => awake15 w h⟩, trivial⟩ (by kernel_rfl) rfl rfl w hL
end Go.Proofs.YthppammjopifbaaGreatDoor
