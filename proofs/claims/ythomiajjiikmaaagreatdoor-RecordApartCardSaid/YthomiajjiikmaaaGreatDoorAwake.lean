/- The packages' Awake, each by one run of the evaluator over the one below. No condition but that the laid variables read as they are laid. -/
import Derived.Test.YthomiajjiikmaaaGreatDoorBase
set_option maxRecDepth 100000
namespace Go.Proofs.YthomiajjiikmaaaGreatDoor
open Go Go.RowKit Ev
theorem awake01 (w : World) (hL : Laid w) : Calls Tryz.prog 190 #[] w fun e w' => e = .returned (.bool true) ∧ Below w.heap.size w w' :=
  tab [] [] [] [] [] 190 [] (.bool true) rfl rfl trivial trivial trivial (by kernel_rfl) rfl rfl w hL
theorem awake02 (w : World) (hL : Laid w) : Calls Tryz.prog 175 #[] w fun e w' => e = .returned (.bool true) ∧ Below w.heap.size w w' :=
  tab [] [] [] [] [(190, [], .bool true)] 175 [] (.bool true) rfl rfl trivial trivial ⟨⟨rfl, fun w h => awake01 w h⟩, trivial⟩ (by kernel_rfl) rfl rfl w hL
theorem awake03 (w : World) (hL : Laid w) : Calls Tryz.prog 151 #[] w fun e w' => e = .returned (.bool true) ∧ Below w.heap.size w w' :=
  tab [] [] [] [] [(175, [], .bool true)] 151 [] (.bool true) rfl rfl trivial trivial ⟨⟨rfl, fun w h => awake02 w h⟩, trivial⟩ (by kernel_rfl) rfl rfl w hL
theorem awake04 (w : World) (hL : Laid w) : Calls Tryz.prog 134 #[] w fun e w' => e = .returned (.bool true) ∧ Below w.heap.size w w' :=
  tab [] [] [] [] [(151, [], .bool true)] 134 [] (.bool true) rfl rfl trivial trivial ⟨⟨rfl, fun w h => awake03 w h⟩, trivial⟩ (by kernel_rfl) rfl rfl w hL
theorem awake05 (w : World) (hL : Laid w) : Calls Tryz.prog 117 #[] w fun e w' => e = .returned (.bool true) ∧ Below w.heap.size w w' :=
  tab [] [] [] [] [(134, [], .bool true)] 117 [] (.bool true) rfl rfl trivial trivial ⟨⟨rfl, fun w h => awake04 w h⟩, trivial⟩ (by kernel_rfl) rfl rfl w hL
theorem awake06 (w : World) (hL : Laid w) : Calls Tryz.prog 98 #[] w fun e w' => e = .returned (.bool true) ∧ Below w.heap.size w w' :=
  tab [] [] [] [] [(117, [], .bool true)] 98 [] (.bool true) rfl rfl trivial trivial ⟨⟨rfl, fun w h => awake05 w h⟩, trivial⟩ (by kernel_rfl) rfl rfl w hL
theorem awake07 (w : World) (hL : Laid w) : Calls Tryz.prog 86 #[] w fun e w' => e = .returned (.bool true) ∧ Below w.heap.size w w' :=
  tab [] [] [] [] [(98, [], .bool true)] 86 [] (.bool true) rfl rfl trivial trivial ⟨⟨rfl, fun w h => awake06 w h⟩, trivial⟩ (by kernel_rfl) rfl rfl w hL
theorem awake08 (w : World) (hL : Laid w) : Calls Tryz.prog 76 #[] w fun e w' => e = .returned (.bool true) ∧ Below w.heap.size w w' :=
  tab [] [] [] [] [(86, [], .bool true)] 76 [] (.bool true) rfl rfl trivial trivial ⟨⟨rfl, fun w h => awake07 w h⟩, trivial⟩ (by kernel_rfl) rfl rfl w hL
theorem awake09 (w : World) (hL : Laid w) : Calls Tryz.prog 68 #[] w fun e w' => e = .returned (.bool true) ∧ Below w.heap.size w w' :=
  tab [] [] [] [] [(76, [], .bool true)] 68 [] (.bool true) rfl rfl trivial trivial ⟨⟨rfl, fun w h => awake08 w h⟩, trivial⟩ (by kernel_rfl) rfl rfl w hL
theorem awake10 (w : World) (hL : Laid w) : Calls Tryz.prog 53 #[] w fun e w' => e = .returned (.bool true) ∧ Below w.heap.size w w' :=
  tab [] [] [] [] [(68, [], .bool true)] 53 [] (.bool true) rfl rfl trivial trivial ⟨⟨rfl, fun w h => awake09 w h⟩, trivial⟩ (by kernel_rfl) rfl rfl w hL
theorem awake11 (w : World) (hL : Laid w) : Calls Tryz.prog 15 #[] w fun e w' => e = .returned (.bool true) ∧ Below w.heap.size w w' :=
  tab [] [] [] [] [(53, [], .bool true)] 15 [] (.bool true) rfl rfl trivial trivial ⟨⟨rfl, fun w h => awake10 w h⟩, trivial⟩ (by kernel_rfl) rfl rfl w hL
theorem awake12 (w : World) (hL : Laid w) : Calls Tryz.prog 19 #[] w fun e w' => e = .returned (.bool true) ∧ Below w.heap.size w w' :=
  tab [] [] [] [] [(15, [], .bool true)] 19 [] (.bool true) rfl rfl trivial trivial ⟨⟨rfl, fun w h => awake11 w h⟩, trivial⟩ (by kernel_rfl) rfl rfl w hL
theorem awake13 (w : World) (hL : Laid w) : Calls Tryz.prog 32 #[] w fun e w' => e = .returned (.bool true) ∧ Below w.heap.size w w' :=
  tab [] [] [] [] [(19, [], .bool true)] 32 [] (.bool true) rfl rfl trivial trivial ⟨⟨rfl, fun w h => awake12 w h⟩, trivial⟩ (by kernel_rfl) rfl rfl w hL
theorem awake14 (w : World) (hL : Laid w) : Calls Tryz.prog 42 #[] w fun e w' => e = .returned (.bool true) ∧ Below w.heap.size w w' :=
  tab [] [] [] [] [(32, [], .bool true)] 42 [] (.bool true) rfl rfl trivial trivial ⟨⟨rfl, fun w h => awake13 w h⟩, trivial⟩ (by kernel_rfl) rfl rfl w hL
end Go.Proofs.YthomiajjiikmaaaGreatDoor
