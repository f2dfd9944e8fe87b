/- HostGives. -/
import Derived.Test.YtdgeilfopkbacaaGreatDoorAwake
import Derived.Test.YtdgeilfopkbacaaGreatDoorCf
import Derived.Test.YtdgeilfopkbacaaGreatDoorGivesa
import Derived.Test.YtdgeilfopkbacaaGreatDoorGivesb
set_option linter.unusedVariables false
set_option linter.unusedSimpArgs false
set_option maxRecDepth 100000
namespace Go.Proofs.YtdgeilfopkbacaaGreatDoor.gives
open Go Go.RowKit Ev
theorem law0 (n : Int) (w : World) (hL : Laid w) : Calls Tryz.prog 13 #[.int .i32 n, .bool false] w fun e w' => e = .returned (.bool true) ∧ Below w.heap.size w w' :=
  calls_of_good [.int .i32 n, .int .i64 (wrapF .i64 n)] rfl Tryz.func13 rfl [.complex .f64 1 0, .bool false] (of_decide_eq_true (by kernel_rfl)) rfl (gives0.gives0_0 n) w hL
theorem law1 (n : Int) (w : World) (hL : Laid w) : Calls Tryz.prog 13 #[.int .i32 n, .bool true] w fun e w' => e = .returned (.bool true) ∧ Below w.heap.size w w' :=
  calls_of_good [.int .i32 n, .int .i64 (wrapF .i64 n)] rfl Tryz.func13 rfl [.complex .f64 1 0, .bool true] (of_decide_eq_true (by kernel_rfl)) rfl (gives1.gives1_0 n) w hL
theorem law (n : Int) (b : Bool) (w : World) (hL : Laid w) : Calls Tryz.prog 13 #[.int .i32 n, .bool b] w fun e w' => e = .returned (.bool true) ∧ Below w.heap.size w w' := by
  cases b
  · exact law0 n w hL
  · exact law1 n w hL
end Go.Proofs.YtdgeilfopkbacaaGreatDoor.gives
