/- The packages' Awake, each by one run of the evaluator over the one below. No condition but that the laid variables read as they are laid. -/
import Derived.Test.YtffcdoiikefpcaaGreatDoorBase
set_option maxRecDepth 100000
namespace Go.Proofs.YtffcdoiikefpcaaGreatDoor
open Go Go.RowKit Ev
theorem awake01 (w : World) (hL : Laid w) : Calls Tryz.prog 145 #[] w fun e w' => e = .returned (.bool true) ∧ Below w.heap.size w w' :=
  tab [] [] [] [] [] 145 [] (.bool true) rfl rfl trivial trivial trivial (by kernel_rfl) rfl rfl w hL
theorem awake02 (w : World) (hL : Laid w) : Calls Tryz.prog 123 #[] w fun e w' => e = .returned (.bool true) ∧ Below w.heap.size w w' :=
  tab [] [] [] [] [(145, [], .bool true)] 123 [] (.bool true) rfl rfl trivial trivial ⟨⟨rfl, fun w h => awake01 w h⟩, trivial⟩ (by kernel_rfl) rfl rfl w hL
theorem awake03 (w : World) (hL : Laid w) : Calls Tryz.prog 90 #[] w fun e w' => e = .returned (.bool true) ∧ Below w.heap.size w w' :=
  tab [] [] [] [] [(123, [], .bool true)] 90 [] (.bool true) rfl rfl trivial trivial ⟨⟨rfl, fun w h => awake02 w h⟩, trivial⟩ (by kernel_rfl) rfl rfl w hL
theorem awake04 (w : World) (hL : Laid w) : Calls Tryz.prog 69 #[] w fun e w' => e = .returned (.bool true) ∧ Below w.heap.size w w' :=
  tab [] [] [] [] [(90, [], .bool true)] 69 [] (.bool true) rfl rfl trivial trivial ⟨⟨rfl, fun w h => awake03 w h⟩, trivial⟩ (by kernel_rfl) rfl rfl w hL
theorem awake05 (w : World) (hL : Laid w) : Calls Tryz.prog 51 #[] w fun e w' => e = .returned (.bool true) ∧ Below w.heap.size w w' :=
  tab [] [] [] [] [(69, [], .bool true)] 51 [] (.bool true) rfl rfl trivial trivial ⟨⟨rfl, fun w h => awake04 w h⟩, trivial⟩ (by kernel_rfl) rfl rfl w hL
theorem awake06 (w : World) (hL : Laid w) : Calls Tryz.prog 32 #[] w fun e w' => e = .returned (.bool true) ∧ Below w.heap.size w w' :=
  tab [] [] [] [] [(51, [], .bool true)] 32 [] (.bool true) rfl rfl trivial trivial ⟨⟨rfl, fun w h => awake05 w h⟩, trivial⟩ (by kernel_rfl) rfl rfl w hL
theorem awake07 (w : World) (hL : Laid w) : Calls Tryz.prog 22 #[] w fun e w' => e = .returned (.bool true) ∧ Below w.heap.size w w' :=
  tab [] [] [] [] [(32, [], .bool true)] 22 [] (.bool true) rfl rfl trivial trivial ⟨⟨rfl, fun w h => awake06 w h⟩, trivial⟩ (by kernel_rfl) rfl rfl w hL
theorem awake08 (w : World) (hL : Laid w) : Calls Tryz.prog 17 #[] w fun e w' => e = .returned (.bool true) ∧ Below w.heap.size w w' :=
  tab [] [] [] [] [(22, [], .bool true)] 17 [] (.bool true) rfl rfl trivial trivial ⟨⟨rfl, fun w h => awake07 w h⟩, trivial⟩ (by kernel_rfl) rfl rfl w hL
theorem awake09 (w : World) (hL : Laid w) : Calls Tryz.prog 13 #[] w fun e w' => e = .returned (.bool true) ∧ Below w.heap.size w w' :=
  tab [] [] [] [] [(17, [], .bool true)] 13 [] (.bool true) rfl rfl trivial trivial ⟨⟨rfl, fun w h => awake08 w h⟩, trivial⟩ (by kernel_rfl) rfl rfl w hL
theorem awake10 (w : World) (hL : Laid w) : Calls Tryz.prog 9 #[] w fun e w' => e = .returned (.bool true) ∧ Below w.heap.size w w' :=
  tab [] [] [] [] [(13, [], .bool true)] 9 [] (.bool true) rfl rfl trivial trivial ⟨⟨rfl, fun w h => awake09 w h⟩, trivial⟩ (by kernel_rfl) rfl rfl w hL
theorem awake11 (w : World) (hL : Laid w) : Calls Tryz.prog 5 #[] w fun e w' => e = .returned (.bool true) ∧ Below w.heap.size w w' :=
  tab [] [] [] [] [(9, [], .bool true)] 5 [] (.bool true) rfl rfl trivial trivial ⟨⟨rfl, fun w h => awake10 w h⟩, trivial⟩ (by kernel_rfl) rfl rfl w hL
end Go.Proofs.YtffcdoiikefpcaaGreatDoor
