/- SealFull. -/
import Derived.Test.YthppammjopifbaaGreatDoorAwake
set_option linter.unusedVariables false
set_option linter.unusedSimpArgs false
set_option maxRecDepth 100000
namespace Go.Proofs.YthppammjopifbaaGreatDoor.full
open Go Go.RowKit Ev
theorem wrap_id {n : Int} (h0 : -9223372036854775808 ≤ n) (h1 : n ≤ 9223372036854775807) : wrapF .i64 n = n := by
  simp only [wrapF]; split <;> omega
theorem full_dead1 (q o : Int) (hq : 0 ≤ q ∧ q ≤ 255) (ho : 0 ≤ o ∧ o ≤ 255) (wo : wrapF .i64 o = o) (w1 : wrapF .i64 (1 + o) = 1 + o) (h0 : (Int.tmod q 9) = 0) (h1 : decide (((wrapF .i64 ((1) + ((wrapF .i64 o))))) ≥ 0) = true) (h2 : decide (((wrapF .i64 ((1) + ((wrapF .i64 o))))) < 1) = true) : False := by
  simp only [wo, w1, decide_eq_true_eq, decide_eq_false_iff_not] at h0 h1 h2; omega
theorem full_1 (q o : Int) (hq : 0 ≤ q ∧ q ≤ 255) (ho : 0 ≤ o ∧ o ≤ 255) (wo : wrapF .i64 o = o) (w1 : wrapF .i64 (1 + o) = 1 + o) (h0 : (Int.tmod q 9) = 0) (h1 : decide (((wrapF .i64 ((1) + ((wrapF .i64 o))))) ≥ 0) = true) (h2 : decide (((wrapF .i64 ((1) + ((wrapF .i64 o))))) < 1) = false) (w : World) (hL : Laid w) : Calls Tryz.prog 3 #[.int .u8 q, .int .u8 o] w fun e w' => e = .returned (.bool true) ∧ Below w.heap.size w w' :=
  tab [.int .u8 q, .int .u8 o, .int .i64 (wrapF .i64 o), .int .i64 (wrapF .i64 ((1) + ((wrapF .i64 o))))] [2, 2, 2, 2] [(.bin .rem 5, [.complex .f64 1 0, .int .u8 9], .int .u8 0), (.conv 5 3, [.complex .f64 2 0], .complex .f64 3 0), (.bin .add 3, [.int .i64 1, .complex .f64 3 0], .complex .f64 4 0), (.bin .geq 3, [.complex .f64 4 0, .int .i64 0], .bool true), (.bin .lss 3, [.complex .f64 4 0, .int .i64 1], .bool false)] [] [(13, [], .bool true)] 3 [.complex .f64 1 0, .complex .f64 2 0] (.bool true) rfl rfl ⟨⟨rfl, congrArg (fun z => some (Value.int .u8 z)) h0⟩, ⟨rfl, pureF_conv Tryz.underlying5 Tryz.underlying3⟩, ⟨rfl, rfl⟩, ⟨rfl, congrArg (fun z => some (Value.bool z)) h1⟩, ⟨rfl, congrArg (fun z => some (Value.bool z)) h2⟩, trivial⟩ trivial ⟨⟨rfl, fun w h => awake14 w h⟩, trivial⟩ (by kernel_rfl) rfl rfl w hL
theorem full_dead2 (q o : Int) (hq : 0 ≤ q ∧ q ≤ 255) (ho : 0 ≤ o ∧ o ≤ 255) (wo : wrapF .i64 o = o) (w1 : wrapF .i64 (1 + o) = 1 + o) (h0 : (Int.tmod q 9) = 0) (h1 : decide (((wrapF .i64 ((1) + ((wrapF .i64 o))))) ≥ 0) = false) : False := by
  simp only [wo, w1, decide_eq_true_eq, decide_eq_false_iff_not] at h0 h1; omega
theorem full_dead3 (q o : Int) (hq : 0 ≤ q ∧ q ≤ 255) (ho : 0 ≤ o ∧ o ≤ 255) (wo : wrapF .i64 o = o) (w1 : wrapF .i64 (1 + o) = 1 + o) (h0 : (Int.tmod q 9) = 1) (h1 : decide (((wrapF .i64 ((1) + ((wrapF .i64 o))))) ≥ 0) = true) (h2 : decide (((wrapF .i64 ((1) + ((wrapF .i64 o))))) < 1) = true) : False := by
  simp only [wo, w1, decide_eq_true_eq, decide_eq_false_iff_not] at h0 h1 h2; omega
theorem full_2 (q o : Int) (hq : 0 ≤ q ∧ q ≤ 255) (ho : 0 ≤ o ∧ o ≤ 255) (wo : wrapF .i64 o = o) (w1 : wrapF .i64 (1 + o) = 1 + o) (h0 : (Int.tmod q 9) = 1) (h1 : decide (((wrapF .i64 ((1) + ((wrapF .i64 o))))) ≥ 0) = true) (h2 : decide (((wrapF .i64 ((1) + ((wrapF .i64 o))))) < 1) = false) (w : World) (hL : Laid w) : Calls Tryz.prog 3 #[.int .u8 q, .int .u8 o] w fun e w' => e = .returned (.bool true) ∧ Below w.heap.size w w' :=
  tab [.int .u8 q, .int .u8 o, .int .i64 (wrapF .i64 o), .int .i64 (wrapF .i64 ((1) + ((wrapF .i64 o))))] [2, 2, 2, 2] [(.bin .rem 5, [.complex .f64 1 0, .int .u8 9], .int .u8 1), (.conv 5 3, [.complex .f64 2 0], .complex .f64 3 0), (.bin .add 3, [.int .i64 1, .complex .f64 3 0], .complex .f64 4 0), (.bin .geq 3, [.complex .f64 4 0, .int .i64 0], .bool true), (.bin .lss 3, [.complex .f64 4 0, .int .i64 1], .bool false)] [] [(13, [], .bool true)] 3 [.complex .f64 1 0, .complex .f64 2 0] (.bool true) rfl rfl ⟨⟨rfl, congrArg (fun z => some (Value.int .u8 z)) h0⟩, ⟨rfl, pureF_conv Tryz.underlying5 Tryz.underlying3⟩, ⟨rfl, rfl⟩, ⟨rfl, congrArg (fun z => some (Value.bool z)) h1⟩, ⟨rfl, congrArg (fun z => some (Value.bool z)) h2⟩, trivial⟩ trivial ⟨⟨rfl, fun w h => awake14 w h⟩, trivial⟩ (by kernel_rfl) rfl rfl w hL
theorem full_dead4 (q o : Int) (hq : 0 ≤ q ∧ q ≤ 255) (ho : 0 ≤ o ∧ o ≤ 255) (wo : wrapF .i64 o = o) (w1 : wrapF .i64 (1 + o) = 1 + o) (h0 : (Int.tmod q 9) = 1) (h1 : decide (((wrapF .i64 ((1) + ((wrapF .i64 o))))) ≥ 0) = false) : False := by
  simp only [wo, w1, decide_eq_true_eq, decide_eq_false_iff_not] at h0 h1; omega
theorem full_dead5 (q o : Int) (hq : 0 ≤ q ∧ q ≤ 255) (ho : 0 ≤ o ∧ o ≤ 255) (wo : wrapF .i64 o = o) (w1 : wrapF .i64 (1 + o) = 1 + o) (h0 : (Int.tmod q 9) = 2) (h1 : decide (((wrapF .i64 ((1) + ((wrapF .i64 o))))) ≥ 0) = true) (h2 : decide (((wrapF .i64 ((1) + ((wrapF .i64 o))))) < 1) = true) : False := by
  simp only [wo, w1, decide_eq_true_eq, decide_eq_false_iff_not] at h0 h1 h2; omega
theorem full_3 (q o : Int) (hq : 0 ≤ q ∧ q ≤ 255) (ho : 0 ≤ o ∧ o ≤ 255) (wo : wrapF .i64 o = o) (w1 : wrapF .i64 (1 + o) = 1 + o) (h0 : (Int.tmod q 9) = 2) (h1 : decide (((wrapF .i64 ((1) + ((wrapF .i64 o))))) ≥ 0) = true) (h2 : decide (((wrapF .i64 ((1) + ((wrapF .i64 o))))) < 1) = false) (w : World) (hL : Laid w) : Calls Tryz.prog 3 #[.int .u8 q, .int .u8 o] w fun e w' => e = .returned (.bool true) ∧ Below w.heap.size w w' :=
  tab [.int .u8 q, .int .u8 o, .int .i64 (wrapF .i64 o), .int .i64 (wrapF .i64 ((1) + ((wrapF .i64 o))))] [2, 2, 2, 2] [(.bin .rem 5, [.complex .f64 1 0, .int .u8 9], .int .u8 2), (.conv 5 3, [.complex .f64 2 0], .complex .f64 3 0), (.bin .add 3, [.int .i64 1, .complex .f64 3 0], .complex .f64 4 0), (.bin .geq 3, [.complex .f64 4 0, .int .i64 0], .bool true), (.bin .lss 3, [.complex .f64 4 0, .int .i64 1], .bool false)] [] [(13, [], .bool true)] 3 [.complex .f64 1 0, .complex .f64 2 0] (.bool true) rfl rfl ⟨⟨rfl, congrArg (fun z => some (Value.int .u8 z)) h0⟩, ⟨rfl, pureF_conv Tryz.underlying5 Tryz.underlying3⟩, ⟨rfl, rfl⟩, ⟨rfl, congrArg (fun z => some (Value.bool z)) h1⟩, ⟨rfl, congrArg (fun z => some (Value.bool z)) h2⟩, trivial⟩ trivial ⟨⟨rfl, fun w h => awake14 w h⟩, trivial⟩ (by kernel_rfl) rfl rfl w hL
theorem full_dead6 (q o : Int) (hq : 0 ≤ q ∧ q ≤ 255) (ho : 0 ≤ o ∧ o ≤ 255) (wo : wrapF .i64 o = o) (w1 : wrapF .i64 (1 + o) = 1 + o) (h0 : (Int.tmod q 9) = 2) (h1 : decide (((wrapF .i64 ((1) + ((wrapF .i64 o))))) ≥ 0) = false) : False := by
  simp only [wo, w1, decide_eq_true_eq, decide_eq_false_iff_not] at h0 h1; omega
theorem full_dead7 (q o : Int) (hq : 0 ≤ q ∧ q ≤ 255) (ho : 0 ≤ o ∧ o ≤ 255) (wo : wrapF .i64 o = o) (w1 : wrapF .i64 (1 + o) = 1 + o) (h0 : (Int.tmod q 9) = 3) (h1 : decide (((wrapF .i64 ((1) + ((wrapF .i64 o))))) ≥ 0) = true) (h2 : decide (((wrapF .i64 ((1) + ((wrapF .i64 o))))) < 1) = true) : False := by
  simp only [wo, w1, decide_eq_true_eq, decide_eq_false_iff_not] at h0 h1 h2; omega
theorem full_4 (q o : Int) (hq : 0 ≤ q ∧ q ≤ 255) (ho : 0 ≤ o ∧ o ≤ 255) (wo : wrapF .i64 o = o) (w1 : wrapF .i64 (1 + o) = 1 + o) (h0 : (Int.tmod q 9) = 3) (h1 : decide (((wrapF .i64 ((1) + ((wrapF .i64 o))))) ≥ 0) = true) (h2 : decide (((wrapF .i64 ((1) + ((wrapF .i64 o))))) < 1) = false) (w : World) (hL : Laid w) : Calls Tryz.prog 3 #[.int .u8 q, .int .u8 o] w fun e w' => e = .returned (.bool true) ∧ Below w.heap.size w w' :=
  tab [.int .u8 q, .int .u8 o, .int .i64 (wrapF .i64 o), .int .i64 (wrapF .i64 ((1) + ((wrapF .i64 o))))] [2, 2, 2, 2] [(.bin .rem 5, [.complex .f64 1 0, .int .u8 9], .int .u8 3), (.conv 5 3, [.complex .f64 2 0], .complex .f64 3 0), (.bin .add 3, [.int .i64 1, .complex .f64 3 0], .complex .f64 4 0), (.bin .geq 3, [.complex .f64 4 0, .int .i64 0], .bool true), (.bin .lss 3, [.complex .f64 4 0, .int .i64 1], .bool false)] [] [(13, [], .bool true)] 3 [.complex .f64 1 0, .complex .f64 2 0] (.bool true) rfl rfl ⟨⟨rfl, congrArg (fun z => some (Value.int .u8 z)) h0⟩, ⟨rfl, pureF_conv Tryz.underlying5 Tryz.underlying3⟩, ⟨rfl, rfl⟩, ⟨rfl, congrArg (fun z => some (Value.bool z)) h1⟩, ⟨rfl, congrArg (fun z => some (Value.bool z)) h2⟩, trivial⟩ trivial ⟨⟨rfl, fun w h => awake14 w h⟩, trivial⟩ (by kernel_rfl) rfl rfl w hL
theorem full_dead8 (q o : Int) (hq : 0 ≤ q ∧ q ≤ 255) (ho : 0 ≤ o ∧ o ≤ 255) (wo : wrapF .i64 o = o) (w1 : wrapF .i64 (1 + o) = 1 + o) (h0 : (Int.tmod q 9) = 3) (h1 : decide (((wrapF .i64 ((1) + ((wrapF .i64 o))))) ≥ 0) = false) : False := by
  simp only [wo, w1, decide_eq_true_eq, decide_eq_false_iff_not] at h0 h1; omega
theorem full_dead9 (q o : Int) (hq : 0 ≤ q ∧ q ≤ 255) (ho : 0 ≤ o ∧ o ≤ 255) (wo : wrapF .i64 o = o) (w1 : wrapF .i64 (1 + o) = 1 + o) (h0 : (Int.tmod q 9) = 4) (h1 : decide (((wrapF .i64 ((1) + ((wrapF .i64 o))))) ≥ 0) = true) (h2 : decide (((wrapF .i64 ((1) + ((wrapF .i64 o))))) < 1) = true) : False := by
  simp only [wo, w1, decide_eq_true_eq, decide_eq_false_iff_not] at h0 h1 h2; omega
theorem full_5 (q o : Int) (hq : 0 ≤ q ∧ q ≤ 255) (ho : 0 ≤ o ∧ o ≤ 255) (wo : wrapF .i64 o = o) (w1 : wrapF .i64 (1 + o) = 1 + o) (h0 : (Int.tmod q 9) = 4) (h1 : decide (((wrapF .i64 ((1) + ((wrapF .i64 o))))) ≥ 0) = true) (h2 : decide (((wrapF .i64 ((1) + ((wrapF .i64 o))))) < 1) = false) (w : World) (hL : Laid w) : Calls Tryz.prog 3 #[.int .u8 q, .int .u8 o] w fun e w' => e = .returned (.bool true) ∧ Below w.heap.size w w' :=
  tab [.int .u8 q, .int .u8 o, .int .i64 (wrapF .i64 o), .int .i64 (wrapF .i64 ((1) + ((wrapF .i64 o))))] [2, 2, 2, 2] [(.bin .rem 5, [.complex .f64 1 0, .int .u8 9], .int .u8 4), (.conv 5 3, [.complex .f64 2 0], .complex .f64 3 0), (.bin .add 3, [.int .i64 1, .complex .f64 3 0], .complex .f64 4 0), (.bin .geq 3, [.complex .f64 4 0, .int .i64 0], .bool true), (.bin .lss 3, [.complex .f64 4 0, .int .i64 1], .bool false)] [] [(13, [], .bool true)] 3 [.complex .f64 1 0, .complex .f64 2 0] (.bool true) rfl rfl ⟨⟨rfl, congrArg (fun z => some (Value.int .u8 z)) h0⟩, ⟨rfl, pureF_conv Tryz.underlying5 Tryz.underlying3⟩, ⟨rfl, rfl⟩, ⟨rfl, congrArg (fun z => some (Value.bool z)) h1⟩, ⟨rfl, congrArg (fun z => some (Value.bool z)) h2⟩, trivial⟩ trivial ⟨⟨rfl, fun w h => awake14 w h⟩, trivial⟩ (by kernel_rfl) rfl rfl w hL
theorem full_dead10 (q o : Int) (hq : 0 ≤ q ∧ q ≤ 255) (ho : 0 ≤ o ∧ o ≤ 255) (wo : wrapF .i64 o = o) (w1 : wrapF .i64 (1 + o) = 1 + o) (h0 : (Int.tmod q 9) = 4) (h1 : decide (((wrapF .i64 ((1) + ((wrapF .i64 o))))) ≥ 0) = false) : False := by
  simp only [wo, w1, decide_eq_true_eq, decide_eq_false_iff_not] at h0 h1; omega
theorem full_dead11 (q o : Int) (hq : 0 ≤ q ∧ q ≤ 255) (ho : 0 ≤ o ∧ o ≤ 255) (wo : wrapF .i64 o = o) (w1 : wrapF .i64 (1 + o) = 1 + o) (h0 : (Int.tmod q 9) = 5) (h1 : decide (((wrapF .i64 ((1) + ((wrapF .i64 o))))) ≥ 0) = true) (h2 : decide (((wrapF .i64 ((1) + ((wrapF .i64 o))))) < 1) = true) : False := by
  simp only [wo, w1, decide_eq_true_eq, decide_eq_false_iff_not] at h0 h1 h2; omega
theorem full_6 (q o : Int) (hq : 0 ≤ q ∧ q ≤ 255) (ho : 0 ≤ o ∧ o ≤ 255) (wo : wrapF .i64 o = o) (w1 : wrapF .i64 (1 + o) = 1 + o) (h0 : (Int.tmod q 9) = 5) (h1 : decide (((wrapF .i64 ((1) + ((wrapF .i64 o))))) ≥ 0) = true) (h2 : decide (((wrapF .i64 ((1) + ((wrapF .i64 o))))) < 1) = false) (w : World) (hL : Laid w) : Calls Tryz.prog 3 #[.int .u8 q, .int .u8 o] w fun e w' => e = .returned (.bool true) ∧ Below w.heap.size w w' :=
  tab [.int .u8 q, .int .u8 o, .int .i64 (wrapF .i64 o), .int .i64 (wrapF .i64 ((1) + ((wrapF .i64 o))))] [2, 2, 2, 2] [(.bin .rem 5, [.complex .f64 1 0, .int .u8 9], .int .u8 5), (.conv 5 3, [.complex .f64 2 0], .complex .f64 3 0), (.bin .add 3, [.int .i64 1, .complex .f64 3 0], .complex .f64 4 0), (.bin .geq 3, [.complex .f64 4 0, .int .i64 0], .bool true), (.bin .lss 3, [.complex .f64 4 0, .int .i64 1], .bool false)] [] [(13, [], .bool true)] 3 [.complex .f64 1 0, .complex .f64 2 0] (.bool true) rfl rfl ⟨⟨rfl, congrArg (fun z => some (Value.int .u8 z)) h0⟩, ⟨rfl, pureF_conv Tryz.underlying5 Tryz.underlying3⟩, ⟨rfl, rfl⟩, ⟨rfl, congrArg (fun z => some (Value.bool z)) h1⟩, ⟨rfl, congrArg (fun z => some (Value.bool z)) h2⟩, trivial⟩ trivial ⟨⟨rfl, fun w h => awake14 w h⟩, trivial⟩ (by kernel_rfl) rfl rfl w hL
theorem full_dead12 (q o : Int) (hq : 0 ≤ q ∧ q ≤ 255) (ho : 0 ≤ o ∧ o ≤ 255) (wo : wrapF .i64 o = o) (w1 : wrapF .i64 (1 + o) = 1 + o) (h0 : (Int.tmod q 9) = 5) (h1 : decide (((wrapF .i64 ((1) + ((wrapF .i64 o))))) ≥ 0) = false) : False := by
  simp only [wo, w1, decide_eq_true_eq, decide_eq_false_iff_not] at h0 h1; omega
theorem full_dead13 (q o : Int) (hq : 0 ≤ q ∧ q ≤ 255) (ho : 0 ≤ o ∧ o ≤ 255) (wo : wrapF .i64 o = o) (w1 : wrapF .i64 (1 + o) = 1 + o) (h0 : (Int.tmod q 9) = 6) (h1 : decide (((wrapF .i64 ((1) + ((wrapF .i64 o))))) ≥ 0) = true) (h2 : decide (((wrapF .i64 ((1) + ((wrapF .i64 o))))) < 1) = true) : False := by
  simp only [wo, w1, decide_eq_true_eq, decide_eq_false_iff_not] at h0 h1 h2; omega
theorem full_7 (q o : Int) (hq : 0 ≤ q ∧ q ≤ 255) (ho : 0 ≤ o ∧ o ≤ 255) (wo : wrapF .i64 o = o) (w1 : wrapF .i64 (1 + o) = 1 + o) (h0 : (Int.tmod q 9) = 6) (h1 : decide (((wrapF .i64 ((1) + ((wrapF .i64 o))))) ≥ 0) = true) (h2 : decide (((wrapF .i64 ((1) + ((wrapF .i64 o))))) < 1) = false) (w : World) (hL : Laid w) : Calls Tryz.prog 3 #[.int .u8 q, .int .u8 o] w fun e w' => e = .returned (.bool true) ∧ Below w.heap.size w w' :=
  tab [.int .u8 q, .int .u8 o, .int .i64 (wrapF .i64 o), .int .i64 (wrapF .i64 ((1) + ((wrapF .i64 o))))] [2, 2, 2, 2] [(.bin .rem 5, [.complex .f64 1 0, .int .u8 9], .int .u8 6), (.conv 5 3, [.complex .f64 2 0], .complex .f64 3 0), (.bin .add 3, [.int .i64 1, .complex .f64 3 0], .complex .f64 4 0), (.bin .geq 3, [.complex .f64 4 0, .int .i64 0], .bool true), (.bin .lss 3, [.complex .f64 4 0, .int .i64 1], .bool false)] [] [(13, [], .bool true)] 3 [.complex .f64 1 0, .complex .f64 2 0] (.bool true) rfl rfl ⟨⟨rfl, congrArg (fun z => some (Value.int .u8 z)) h0⟩, ⟨rfl, pureF_conv Tryz.underlying5 Tryz.underlying3⟩, ⟨rfl, rfl⟩, ⟨rfl, congrArg (fun z => some (Value.bool z)) h1⟩, ⟨rfl, congrArg (fun z => some (Value.bool z)) h2⟩, trivial⟩ trivial ⟨⟨rfl, fun w h => awake14 w h⟩, trivial⟩ (by kernel_rfl) rfl rfl w hL
theorem full_dead14 (q o : Int) (hq : 0 ≤ q ∧ q ≤ 255) (ho : 0 ≤ o ∧ o ≤ 255) (wo : wrapF .i64 o = o) (w1 : wrapF .i64 (1 + o) = 1 + o) (h0 : (Int.tmod q 9) = 6) (h1 : decide (((wrapF .i64 ((1) + ((wrapF .i64 o))))) ≥ 0) = false) : False := by
  simp only [wo, w1, decide_eq_true_eq, decide_eq_false_iff_not] at h0 h1; omega
theorem full_dead15 (q o : Int) (hq : 0 ≤ q ∧ q ≤ 255) (ho : 0 ≤ o ∧ o ≤ 255) (wo : wrapF .i64 o = o) (w1 : wrapF .i64 (1 + o) = 1 + o) (h0 : (Int.tmod q 9) = 7) (h1 : decide (((wrapF .i64 ((1) + ((wrapF .i64 o))))) ≥ 0) = true) (h2 : decide (((wrapF .i64 ((1) + ((wrapF .i64 o))))) < 1) = true) : False := by
  simp only [wo, w1, decide_eq_true_eq, decide_eq_false_iff_not] at h0 h1 h2; omega
theorem full_8 (q o : Int) (hq : 0 ≤ q ∧ q ≤ 255) (ho : 0 ≤ o ∧ o ≤ 255) (wo : wrapF .i64 o = o) (w1 : wrapF .i64 (1 + o) = 1 + o) (h0 : (Int.tmod q 9) = 7) (h1 : decide (((wrapF .i64 ((1) + ((wrapF .i64 o))))) ≥ 0) = true) (h2 : decide (((wrapF .i64 ((1) + ((wrapF .i64 o))))) < 1) = false) (w : World) (hL : Laid w) : Calls Tryz.prog 3 #[.int .u8 q, .int .u8 o] w fun e w' => e = .returned (.bool true) ∧ Below w.heap.size w w' :=
  tab [.int .u8 q, .int .u8 o, .int .i64 (wrapF .i64 o), .int .i64 (wrapF .i64 ((1) + ((wrapF .i64 o))))] [2, 2, 2, 2] [(.bin .rem 5, [.complex .f64 1 0, .int .u8 9], .int .u8 7), (.conv 5 3, [.complex .f64 2 0], .complex .f64 3 0), (.bin .add 3, [.int .i64 1, .complex .f64 3 0], .complex .f64 4 0), (.bin .geq 3, [.complex .f64 4 0, .int .i64 0], .bool true), (.bin .lss 3, [.complex .f64 4 0, .int .i64 1], .bool false)] [] [(13, [], .bool true)] 3 [.complex .f64 1 0, .complex .f64 2 0] (.bool true) rfl rfl ⟨⟨rfl, congrArg (fun z => some (Value.int .u8 z)) h0⟩, ⟨rfl, pureF_conv Tryz.underlying5 Tryz.underlying3⟩, ⟨rfl, rfl⟩, ⟨rfl, congrArg (fun z => some (Value.bool z)) h1⟩, ⟨rfl, congrArg (fun z => some (Value.bool z)) h2⟩, trivial⟩ trivial ⟨⟨rfl, fun w h => awake14 w h⟩, trivial⟩ (by kernel_rfl) rfl rfl w hL
theorem full_dead16 (q o : Int) (hq : 0 ≤ q ∧ q ≤ 255) (ho : 0 ≤ o ∧ o ≤ 255) (wo : wrapF .i64 o = o) (w1 : wrapF .i64 (1 + o) = 1 + o) (h0 : (Int.tmod q 9) = 7) (h1 : decide (((wrapF .i64 ((1) + ((wrapF .i64 o))))) ≥ 0) = false) : False := by
  simp only [wo, w1, decide_eq_true_eq, decide_eq_false_iff_not] at h0 h1; omega
theorem full_dead17 (q o : Int) (hq : 0 ≤ q ∧ q ≤ 255) (ho : 0 ≤ o ∧ o ≤ 255) (wo : wrapF .i64 o = o) (w1 : wrapF .i64 (1 + o) = 1 + o) (h0 : (Int.tmod q 9) = 8) (h1 : decide (((wrapF .i64 ((1) + ((wrapF .i64 o))))) ≥ 0) = true) (h2 : decide (((wrapF .i64 ((1) + ((wrapF .i64 o))))) < 1) = true) : False := by
  simp only [wo, w1, decide_eq_true_eq, decide_eq_false_iff_not] at h0 h1 h2; omega
theorem full_9 (q o : Int) (hq : 0 ≤ q ∧ q ≤ 255) (ho : 0 ≤ o ∧ o ≤ 255) (wo : wrapF .i64 o = o) (w1 : wrapF .i64 (1 + o) = 1 + o) (h0 : (Int.tmod q 9) = 8) (h1 : decide (((wrapF .i64 ((1) + ((wrapF .i64 o))))) ≥ 0) = true) (h2 : decide (((wrapF .i64 ((1) + ((wrapF .i64 o))))) < 1) = false) (w : World) (hL : Laid w) : Calls Tryz.prog 3 #[.int .u8 q, .int .u8 o] w fun e w' => e = .returned (.bool true) ∧ Below w.heap.size w w' :=
  tab [.int .u8 q, .int .u8 o, .int .i64 (wrapF .i64 o), .int .i64 (wrapF .i64 ((1) + ((wrapF .i64 o))))] [2, 2, 2, 2] [(.bin .rem 5, [.complex .f64 1 0, .int .u8 9], .int .u8 8), (.conv 5 3, [.complex .f64 2 0], .complex .f64 3 0), (.bin .add 3, [.int .i64 1, .complex .f64 3 0], .complex .f64 4 0), (.bin .geq 3, [.complex .f64 4 0, .int .i64 0], .bool true), (.bin .lss 3, [.complex .f64 4 0, .int .i64 1], .bool false)] [] [(13, [], .bool true)] 3 [.complex .f64 1 0, .complex .f64 2 0] (.bool true) rfl rfl ⟨⟨rfl, congrArg (fun z => some (Value.int .u8 z)) h0⟩, ⟨rfl, pureF_conv Tryz.underlying5 Tryz.underlying3⟩, ⟨rfl, rfl⟩, ⟨rfl, congrArg (fun z => some (Value.bool z)) h1⟩, ⟨rfl, congrArg (fun z => some (Value.bool z)) h2⟩, trivial⟩ trivial ⟨⟨rfl, fun w h => awake14 w h⟩, trivial⟩ (by kernel_rfl) rfl rfl w hL
theorem full_dead18 (q o : Int) (hq : 0 ≤ q ∧ q ≤ 255) (ho : 0 ≤ o ∧ o ≤ 255) (wo : wrapF .i64 o = o) (w1 : wrapF .i64 (1 + o) = 1 + o) (h0 : (Int.tmod q 9) = 8) (h1 : decide (((wrapF .i64 ((1) + ((wrapF .i64 o))))) ≥ 0) = false) : False := by
  simp only [wo, w1, decide_eq_true_eq, decide_eq_false_iff_not] at h0 h1; omega
theorem full (q o : Int) (hq : 0 ≤ q ∧ q ≤ 255) (ho : 0 ≤ o ∧ o ≤ 255) (wo : wrapF .i64 o = o) (w1 : wrapF .i64 (1 + o) = 1 + o) (w : World) (hL : Laid w) : Calls Tryz.prog 3 #[.int .u8 q, .int .u8 o] w fun e w' => e = .returned (.bool true) ∧ Below w.heap.size w w' := by
  rcases (show (Int.tmod q 9) = 0 ∨ (Int.tmod q 9) = 1 ∨ (Int.tmod q 9) = 2 ∨ (Int.tmod q 9) = 3 ∨ (Int.tmod q 9) = 4 ∨ (Int.tmod q 9) = 5 ∨ (Int.tmod q 9) = 6 ∨ (Int.tmod q 9) = 7 ∨ (Int.tmod q 9) = 8 by rw [Int.tmod_eq_emod_of_nonneg (by omega)]; omega) with h0 | h0 | h0 | h0 | h0 | h0 | h0 | h0 | h0
  · rcases Bool.eq_false_or_eq_true (decide (((wrapF .i64 ((1) + ((wrapF .i64 o))))) ≥ 0)) with h1 | h1
    · rcases Bool.eq_false_or_eq_true (decide (((wrapF .i64 ((1) + ((wrapF .i64 o))))) < 1)) with h2 | h2
      · exact (full_dead1 q o hq ho wo w1 h0 h1 h2).elim
      · exact full_1 q o hq ho wo w1 h0 h1 h2 w hL
    · exact (full_dead2 q o hq ho wo w1 h0 h1).elim
  · rcases Bool.eq_false_or_eq_true (decide (((wrapF .i64 ((1) + ((wrapF .i64 o))))) ≥ 0)) with h1 | h1
    · rcases Bool.eq_false_or_eq_true (decide (((wrapF .i64 ((1) + ((wrapF .i64 o))))) < 1)) with h2 | h2
      · exact (full_dead3 q o hq ho wo w1 h0 h1 h2).elim
      · exact full_2 q o hq ho wo w1 h0 h1 h2 w hL
    · exact (full_dead4 q o hq ho wo w1 h0 h1).elim
  · rcases Bool.eq_false_or_eq_true (decide (((wrapF .i64 ((1) + ((wrapF .i64 o))))) ≥ 0)) with h1 | h1
    · rcases Bool.eq_false_or_eq_true (decide (((wrapF .i64 ((1) + ((wrapF .i64 o))))) < 1)) with h2 | h2
      · exact (full_dead5 q o hq ho wo w1 h0 h1 h2).elim
      · exact full_3 q o hq ho wo w1 h0 h1 h2 w hL
    · exact (full_dead6 q o hq ho wo w1 h0 h1).elim
  · rcases Bool.eq_false_or_eq_true (decide (((wrapF .i64 ((1) + ((wrapF .i64 o))))) ≥ 0)) with h1 | h1
    · rcases Bool.eq_false_or_eq_true (decide (((wrapF .i64 ((1) + ((wrapF .i64 o))))) < 1)) with h2 | h2
      · exact (full_dead7 q o hq ho wo w1 h0 h1 h2).elim
      · exact full_4 q o hq ho wo w1 h0 h1 h2 w hL
    · exact (full_dead8 q o hq ho wo w1 h0 h1).elim
  · rcases Bool.eq_false_or_eq_true (decide (((wrapF .i64 ((1) + ((wrapF .i64 o))))) ≥ 0)) with h1 | h1
    · rcases Bool.eq_false_or_eq_true (decide (((wrapF .i64 ((1) + ((wrapF .i64 o))))) < 1)) with h2 | h2
      · exact (full_dead9 q o hq ho wo w1 h0 h1 h2).elim
      · exact full_5 q o hq ho wo w1 h0 h1 h2 w hL
    · exact (full_dead10 q o hq ho wo w1 h0 h1).elim
  · rcases Bool.eq_false_or_eq_true (decide (((wrapF .i64 ((1) + ((wrapF .i64 o))))) ≥ 0)) with h1 | h1
    · rcases Bool.eq_false_or_eq_true (decide (((wrapF .i64 ((1) + ((wrapF .i64 o))))) < 1)) with h2 | h2
      · exact (full_dead11 q o hq ho wo w1 h0 h1 h2).elim
      · exact full_6 q o hq ho wo w1 h0 h1 h2 w hL
    · exact (full_dead12 q o hq ho wo w1 h0 h1).elim
  · rcases Bool.eq_false_or_eq_true (decide (((wrapF .i64 ((1) + ((wrapF .i64 o))))) ≥ 0)) with h1 | h1
    · rcases Bool.eq_false_or_eq_true (decide (((wrapF .i64 ((1) + ((wrapF .i64 o))))) < 1)) with h2 | h2
      · exact (full_dead13 q o hq ho wo w1 h0 h1 h2).elim
      · exact full_7 q o hq ho wo w1 h0 h1 h2 w hL
    · exact (full_dead14 q o hq ho wo w1 h0 h1).elim
  · rcases Bool.eq_false_or_eq_true (decide (((wrapF .i64 ((1) + ((wrapF .i64 o))))) ≥ 0)) with h1 | h1
    · rcases Bool.eq_false_or_eq_true (decide (((wrapF .i64 ((1) + ((wrapF .i64 o))))) < 1)) with h2 | h2
      · exact (full_dead15 q o hq ho wo w1 h0 h1 h2).elim
      · exact full_8 q o hq ho wo w1 h0 h1 h2 w hL
    · exact (full_dead16 q o hq ho wo w1 h0 h1).elim
  · rcases Bool.eq_false_or_eq_true (decide (((wrapF .i64 ((1) + ((wrapF .i64 o))))) ≥ 0)) with h1 | h1
    · rcases Bool.eq_false_or_eq_true (decide (((wrapF .i64 ((1) + ((wrapF .i64 o))))) < 1)) with h2 | h2
      · exact (full_dead17 q o hq ho wo w1 h0 h1 h2).elim
      · exact full_9 q o hq ho wo w1 h0 h1 h2 w hL
    · exact (full_dead18 q o hq ho wo w1 h0 h1).elim
theorem law (q o : Int) (hq : 0 ≤ q ∧ q ≤ 255) (ho : 0 ≤ o ∧ o ≤ 255) (w : World) (hL : Laid w) :
    Calls Tryz.prog 3 #[.int .u8 q, .int .u8 o] w fun e w' => e = .returned (.bool true) ∧ Below w.heap.size w w' :=
  full q o hq ho (wrap_id (by omega) (by omega)) (wrap_id (by omega) (by omega)) w hL
end Go.Proofs.YthppammjopifbaaGreatDoor.full
