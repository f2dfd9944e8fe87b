/- The packages' Awake, each by one run of the evaluator over the one below. No condition but that the laid variables read as they are laid. -/
import Derived.Test.YtojbphnkabfkpaaGreatDoorBase
set_option maxRecDepth 100000
namespace Go.Proofs.YtojbphnkabfkpaaGreatDoor
open Go Go.RowKit Ev
theorem awake01 (w : World) (hL : Laid w) : Calls Tryz.prog 222 #[] w fun e w' => e = .returned (.bool true) ∧ Below w.heap.size w w' :=
  tab [] [] [] [] [] 222 [] (.bool true) rfl rfl trivial trivial trivial (by kernel_rfl) rfl rfl w hL
theorem awake02 (w : World) (hL : Laid w) : Calls Tryz.prog 209 #[] w fun e w' => e = .returned (.bool true) ∧ Below w.heap.size w w' :=
  tab [] [] [] [] [(222, [], .bool true)] 209 [] (.bool true) rfl rfl trivial trivial ⟨⟨rfl, fun w h => awake01 w h⟩, trivial⟩ (by kernel_rfl) rfl rfl w hL
theorem awake03 (w : World) (hL : Laid w) : Calls Tryz.prog 183 #[] w fun e w' => e = .returned (.bool true) ∧ Below w.heap.size w w' :=
  tab [] [] [] [] [(209, [], .bool true)] 183 [] (.bool true) rfl rfl trivial trivial ⟨⟨rfl, fun w h => awake02 w h⟩, trivial⟩ (by kernel_rfl) rfl rfl w hL
theorem awake04 (w : World) (hL : Laid w) : Calls Tryz.prog 162 #[] w fun e w' => e = .returned (.bool true) ∧ Below w.heap.size w w' :=
  tab [] [] [] [] [(183, [], .bool true)] 162 [] (.bool true) rfl rfl trivial trivial ⟨⟨rfl, fun w h => awake03 w h⟩, trivial⟩ (by kernel_rfl) rfl rfl w hL
theorem awake05 (w : World) (hL : Laid w) : Calls Tryz.prog 143 #[] w fun e w' => e = .returned (.bool true) ∧ Below w.heap.size w w' :=
  tab [] [] [] [] [(162, [], .bool true)] 143 [] (.bool true) rfl rfl trivial trivial ⟨⟨rfl, fun w h => awake04 w h⟩, trivial⟩ (by kernel_rfl) rfl rfl w hL
theorem awake06 (w : World) (hL : Laid w) : Calls Tryz.prog 119 #[] w fun e w' => e = .returned (.bool true) ∧ Below w.heap.size w w' :=
  tab [] [] [] [] [(143, [], .bool true)] 119 [] (.bool true) rfl rfl trivial trivial ⟨⟨rfl, fun w h => awake05 w h⟩, trivial⟩ (by kernel_rfl) rfl rfl w hL
theorem awake07 (w : World) (hL : Laid w) : Calls Tryz.prog 99 #[] w fun e w' => e = .returned (.bool true) ∧ Below w.heap.size w w' :=
  tab [] [] [] [] [(119, [], .bool true)] 99 [] (.bool true) rfl rfl trivial trivial ⟨⟨rfl, fun w h => awake06 w h⟩, trivial⟩ (by kernel_rfl) rfl rfl w hL
theorem awake08 (w : World) (hL : Laid w) : Calls Tryz.prog 89 #[] w fun e w' => e = .returned (.bool true) ∧ Below w.heap.size w w' :=
  tab [] [] [] [] [(99, [], .bool true)] 89 [] (.bool true) rfl rfl trivial trivial ⟨⟨rfl, fun w h => awake07 w h⟩, trivial⟩ (by kernel_rfl) rfl rfl w hL
theorem awake09 (w : World) (hL : Laid w) : Calls Tryz.prog 82 #[] w fun e w' => e = .returned (.bool true) ∧ Below w.heap.size w w' :=
  tab [] [] [] [] [(89, [], .bool true)] 82 [] (.bool true) rfl rfl trivial trivial ⟨⟨rfl, fun w h => awake08 w h⟩, trivial⟩ (by kernel_rfl) rfl rfl w hL
theorem awake10 (w : World) (hL : Laid w) : Calls Tryz.prog 71 #[] w fun e w' => e = .returned (.bool true) ∧ Below w.heap.size w w' :=
  tab [] [] [] [] [(82, [], .bool true)] 71 [] (.bool true) rfl rfl trivial trivial ⟨⟨rfl, fun w h => awake09 w h⟩, trivial⟩ (by kernel_rfl) rfl rfl w hL
theorem awake11 (w : World) (hL : Laid w) : Calls Tryz.prog 65 #[] w fun e w' => e = .returned (.bool true) ∧ Below w.heap.size w w' :=
  tab [] [] [] [] [(71, [], .bool true)] 65 [] (.bool true) rfl rfl trivial trivial ⟨⟨rfl, fun w h => awake10 w h⟩, trivial⟩ (by kernel_rfl) rfl rfl w hL
theorem awake12 (w : World) (hL : Laid w) : Calls Tryz.prog 52 #[] w fun e w' => e = .returned (.bool true) ∧ Below w.heap.size w w' :=
  tab [] [] [] [] [(65, [], .bool true)] 52 [] (.bool true) rfl rfl trivial trivial ⟨⟨rfl, fun w h => awake11 w h⟩, trivial⟩ (by kernel_rfl) rfl rfl w hL
theorem awake13 (w : World) (hL : Laid w) : Calls Tryz.prog 12 #[] w fun e w' => e = .returned (.bool true) ∧ Below w.heap.size w w' :=
  tab [] [] [] [] [(52, [], .bool true)] 12 [] (.bool true) rfl rfl trivial trivial ⟨⟨rfl, fun w h => awake12 w h⟩, trivial⟩ (by kernel_rfl) rfl rfl w hL
theorem awake14 (w : World) (hL : Laid w) : Calls Tryz.prog 22 #[] w fun e w' => e = .returned (.bool true) ∧ Below w.heap.size w w' :=
  tab [] [] [] [] [(12, [], .bool true)] 22 [] (.bool true) rfl rfl trivial trivial ⟨⟨rfl, fun w h => awake13 w h⟩, trivial⟩ (by kernel_rfl) rfl rfl w hL
theorem awake15 (w : World) (hL : Laid w) : Calls Tryz.prog 31 #[] w fun e w' => e = .returned (.bool true) ∧ Below w.heap.size w w' :=
  tab [] [] [] [] [(22, [], .bool true)] 31 [] (.bool true) rfl rfl trivial trivial ⟨⟨rfl, fun w h => awake14 w h⟩, trivial⟩ (by kernel_rfl) rfl rfl w hL
theorem awake16 (w : World) (hL : Laid w) : Calls Tryz.prog 41 #[] w fun e w' => e = .returned (.bool true) ∧ Below w.heap.size w w' :=
  tab [] [] [] [] [(31, [], .bool true)] 41 [] (.bool true) rfl rfl trivial trivial ⟨⟨rfl, fun w h => awake15 w h⟩, trivial⟩ (by kernel_rfl) rfl rfl w hL
end Go.Proofs.YtojbphnkabfkpaaGreatDoor
