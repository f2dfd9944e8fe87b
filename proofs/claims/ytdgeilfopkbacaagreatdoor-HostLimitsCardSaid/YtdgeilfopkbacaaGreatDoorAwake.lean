/- The packages' Awake, each by one run of the evaluator over the one below. No condition but that the laid variables read as they are laid. -/
import Derived.Test.YtdgeilfopkbacaaGreatDoorBase
set_option maxRecDepth 100000
namespace Go.Proofs.YtdgeilfopkbacaaGreatDoor
open Go Go.RowKit Ev
theorem awake01 (w : World) (hL : Laid w) : Calls Tryz.prog 319 #[] w fun e w' => e = .returned (.bool true) ∧ Below w.heap.size w w' :=
  tab [] [] [] [] [] 319 [] (.bool true) rfl rfl trivial trivial trivial (by kernel_rfl) rfl rfl w hL
theorem awake02 (w : World) (hL : Laid w) : Calls Tryz.prog 317 #[] w fun e w' => e = .returned (.bool true) ∧ Below w.heap.size w w' :=
  tab [] [] [] [] [(319, [], .bool true)] 317 [] (.bool true) rfl rfl trivial trivial ⟨⟨rfl, fun w h => awake01 w h⟩, trivial⟩ (by kernel_rfl) rfl rfl w hL
theorem awake03 (w : World) (hL : Laid w) : Calls Tryz.prog 310 #[] w fun e w' => e = .returned (.bool true) ∧ Below w.heap.size w w' :=
  tab [] [] [] [] [(317, [], .bool true)] 310 [] (.bool true) rfl rfl trivial trivial ⟨⟨rfl, fun w h => awake02 w h⟩, trivial⟩ (by kernel_rfl) rfl rfl w hL
theorem awake04 (w : World) (hL : Laid w) : Calls Tryz.prog 307 #[] w fun e w' => e = .returned (.bool true) ∧ Below w.heap.size w w' :=
  tab [] [] [] [] [(310, [], .bool true)] 307 [] (.bool true) rfl rfl trivial trivial ⟨⟨rfl, fun w h => awake03 w h⟩, trivial⟩ (by kernel_rfl) rfl rfl w hL
theorem awake05 (w : World) (hL : Laid w) : Calls Tryz.prog 305 #[] w fun e w' => e = .returned (.bool true) ∧ Below w.heap.size w w' :=
  tab [] [] [] [] [(307, [], .bool true)] 305 [] (.bool true) rfl rfl trivial trivial ⟨⟨rfl, fun w h => awake04 w h⟩, trivial⟩ (by kernel_rfl) rfl rfl w hL
theorem awake06 (w : World) (hL : Laid w) : Calls Tryz.prog 297 #[] w fun e w' => e = .returned (.bool true) ∧ Below w.heap.size w w' :=
  tab [] [] [] [] [(305, [], .bool true)] 297 [] (.bool true) rfl rfl trivial trivial ⟨⟨rfl, fun w h => awake05 w h⟩, trivial⟩ (by kernel_rfl) rfl rfl w hL
theorem awake07 (w : World) (hL : Laid w) : Calls Tryz.prog 279 #[] w fun e w' => e = .returned (.bool true) ∧ Below w.heap.size w w' :=
  tab [] [] [] [] [(297, [], .bool true)] 279 [] (.bool true) rfl rfl trivial trivial ⟨⟨rfl, fun w h => awake06 w h⟩, trivial⟩ (by kernel_rfl) rfl rfl w hL
theorem awake08 (w : World) (hL : Laid w) : Calls Tryz.prog 247 #[] w fun e w' => e = .returned (.bool true) ∧ Below w.heap.size w w' :=
  tab [] [] [] [] [(279, [], .bool true)] 247 [] (.bool true) rfl rfl trivial trivial ⟨⟨rfl, fun w h => awake07 w h⟩, trivial⟩ (by kernel_rfl) rfl rfl w hL
theorem awake09 (w : World) (hL : Laid w) : Calls Tryz.prog 221 #[] w fun e w' => e = .returned (.bool true) ∧ Below w.heap.size w w' :=
  tab [] [] [] [] [(247, [], .bool true)] 221 [] (.bool true) rfl rfl trivial trivial ⟨⟨rfl, fun w h => awake08 w h⟩, trivial⟩ (by kernel_rfl) rfl rfl w hL
theorem awake10 (w : World) (hL : Laid w) : Calls Tryz.prog 191 #[] w fun e w' => e = .returned (.bool true) ∧ Below w.heap.size w w' :=
  tab [] [] [] [] [(221, [], .bool true)] 191 [] (.bool true) rfl rfl trivial trivial ⟨⟨rfl, fun w h => awake09 w h⟩, trivial⟩ (by kernel_rfl) rfl rfl w hL
theorem awake11 (w : World) (hL : Laid w) : Calls Tryz.prog 152 #[] w fun e w' => e = .returned (.bool true) ∧ Below w.heap.size w w' :=
  tab [] [] [] [] [(191, [], .bool true)] 152 [] (.bool true) rfl rfl trivial trivial ⟨⟨rfl, fun w h => awake10 w h⟩, trivial⟩ (by kernel_rfl) rfl rfl w hL
theorem awake12 (w : World) (hL : Laid w) : Calls Tryz.prog 120 #[] w fun e w' => e = .returned (.bool true) ∧ Below w.heap.size w w' :=
  tab [] [] [] [] [(152, [], .bool true)] 120 [] (.bool true) rfl rfl trivial trivial ⟨⟨rfl, fun w h => awake11 w h⟩, trivial⟩ (by kernel_rfl) rfl rfl w hL
theorem awake13 (w : World) (hL : Laid w) : Calls Tryz.prog 93 #[] w fun e w' => e = .returned (.bool true) ∧ Below w.heap.size w w' :=
  tab [] [] [] [] [(120, [], .bool true)] 93 [] (.bool true) rfl rfl trivial trivial ⟨⟨rfl, fun w h => awake12 w h⟩, trivial⟩ (by kernel_rfl) rfl rfl w hL
theorem awake14 (w : World) (hL : Laid w) : Calls Tryz.prog 63 #[] w fun e w' => e = .returned (.bool true) ∧ Below w.heap.size w w' :=
  tab [] [] [] [] [(93, [], .bool true)] 63 [] (.bool true) rfl rfl trivial trivial ⟨⟨rfl, fun w h => awake13 w h⟩, trivial⟩ (by kernel_rfl) rfl rfl w hL
theorem awake15 (w : World) (hL : Laid w) : Calls Tryz.prog 15 #[] w fun e w' => e = .returned (.bool true) ∧ Below w.heap.size w w' :=
  tab [] [] [] [] [(63, [], .bool true)] 15 [] (.bool true) rfl rfl trivial trivial ⟨⟨rfl, fun w h => awake14 w h⟩, trivial⟩ (by kernel_rfl) rfl rfl w hL
theorem awake16 (w : World) (hL : Laid w) : Calls Tryz.prog 26 #[] w fun e w' => e = .returned (.bool true) ∧ Below w.heap.size w w' :=
  tab [] [] [] [] [(15, [], .bool true)] 26 [] (.bool true) rfl rfl trivial trivial ⟨⟨rfl, fun w h => awake15 w h⟩, trivial⟩ (by kernel_rfl) rfl rfl w hL
theorem awake17 (w : World) (hL : Laid w) : Calls Tryz.prog 35 #[] w fun e w' => e = .returned (.bool true) ∧ Below w.heap.size w w' :=
  tab [] [] [] [] [(26, [], .bool true)] 35 [] (.bool true) rfl rfl trivial trivial ⟨⟨rfl, fun w h => awake16 w h⟩, trivial⟩ (by kernel_rfl) rfl rfl w hL
theorem awake18 (w : World) (hL : Laid w) : Calls Tryz.prog 75 #[] w fun e w' => e = .returned (.bool true) ∧ Below w.heap.size w w' :=
  tab [] [] [] [] [(35, [], .bool true)] 75 [] (.bool true) rfl rfl trivial trivial ⟨⟨rfl, fun w h => awake17 w h⟩, trivial⟩ (by kernel_rfl) rfl rfl w hL
theorem awake19 (w : World) (hL : Laid w) : Calls Tryz.prog 39 #[] w fun e w' => e = .returned (.bool true) ∧ Below w.heap.size w w' :=
  tab [] [] [] [] [(75, [], .bool true)] 39 [] (.bool true) rfl rfl trivial trivial ⟨⟨rfl, fun w h => awake18 w h⟩, trivial⟩ (by kernel_rfl) rfl rfl w hL
theorem awake20 (w : World) (hL : Laid w) : Calls Tryz.prog 49 #[] w fun e w' => e = .returned (.bool true) ∧ Below w.heap.size w w' :=
  tab [] [] [] [] [(39, [], .bool true)] 49 [] (.bool true) rfl rfl trivial trivial ⟨⟨rfl, fun w h => awake19 w h⟩, trivial⟩ (by kernel_rfl) rfl rfl w hL
end Go.Proofs.YtdgeilfopkbacaaGreatDoor
