/- PrimRing: sums, products, differences, less. -/
import Derived.Test.YthomiajjiikmaaaGreatDoorAwake
set_option linter.unusedVariables false
set_option linter.unusedSimpArgs false
set_option maxRecDepth 100000
namespace Go.Proofs.YthomiajjiikmaaaGreatDoor.ring
open Go Go.RowKit Ev
theorem wrap_ex (n : Int) : ∃ q : Int, wrapF .i64 n = n + q * 18446744073709551616 := by
  simp only [wrapF]
  split
  · exact ⟨-(n / 18446744073709551616) - 1, by omega⟩
  · exact ⟨-(n / 18446744073709551616), by omega⟩
theorem wrap_cong {x y q : Int} (h : x = y + q * 18446744073709551616) : wrapF .i64 x = wrapF .i64 y := by
  simp only [wrapF]; subst h; rw [Int.add_mul_emod_self_right]
theorem ring_alias (a b c : Int) : wrapF .i64 (wrapF .i64 (a * c) + wrapF .i64 (b * c)) = wrapF .i64 (wrapF .i64 (a + b) * c) := by
  obtain ⟨q1, h1⟩ := wrap_ex (a * c)
  obtain ⟨q2, h2⟩ := wrap_ex (b * c)
  obtain ⟨q3, h3⟩ := wrap_ex (a + b)
  rw [h1, h2, h3]
  refine wrap_cong (q := q1 + q2 - q3 * c) ?_
  have e : q3 * 18446744073709551616 * c = q3 * c * 18446744073709551616 := Int.mul_right_comm _ _ _
  rw [Int.add_mul, Int.add_mul, e, Int.sub_mul, Int.add_mul]
  omega
theorem ring_dead1 (a : Int) (b : Int) (c : Int) (h0 : decide ((a) < b) = true) (h1 : decide ((b) < a) = true) : False := by
  simp only [decide_eq_true_eq, decide_eq_false_iff_not, beq_iff_eq, bne_iff_ne, ne_eq, beq_eq_false_iff_ne, bne_eq_false_iff_eq] at *; omega
theorem ring_dead2 (a : Int) (b : Int) (c : Int) (h0 : decide ((a) < b) = true) (h1 : decide ((b) < a) = false) (h2 : (a == b) = true) : False := by
  simp only [decide_eq_true_eq, decide_eq_false_iff_not, beq_iff_eq, bne_iff_ne, ne_eq, beq_eq_false_iff_ne, bne_eq_false_iff_eq] at *; omega
theorem ring_1 (a : Int) (b : Int) (c : Int) (h0 : decide ((a) < b) = true) (h1 : decide ((b) < a) = false) (h2 : (a == b) = false) (w : World) (hL : Laid w) : Calls Tryz.prog 7 #[.int .i64 a, .int .i64 b, .int .i64 c] w fun e w' => e = .returned (.bool true) ∧ Below w.heap.size w w' :=
  tab [.int .i64 a, .int .i64 b, .int .i64 c, .int .i64 (wrapF .i64 (0 - b)), .int .i64 (wrapF .i64 ((a) - (b))), .int .i64 (wrapF .i64 ((a) + (b))), .int .i64 (wrapF .i64 (((wrapF .i64 ((a) + (b)))) * (c))), .int .i64 (wrapF .i64 ((a) * (c))), .int .i64 (wrapF .i64 ((b) * (c)))] [2, 2, 2, 2, 2, 2, 2, 2, 2] [(.un .neg, [.complex .f64 2 0], .complex .f64 4 0), (.bin .lss 2, [.complex .f64 1 0, .complex .f64 2 0], .bool true), (.bin .lss 2, [.complex .f64 2 0, .complex .f64 1 0], .bool false), (.bin .sub 2, [.complex .f64 1 0, .complex .f64 2 0], .complex .f64 5 0), (.bin .add 2, [.complex .f64 1 0, .complex .f64 4 0], .complex .f64 5 0), (.bin .add 2, [.complex .f64 1 0, .complex .f64 2 0], .complex .f64 6 0), (.bin .mul 2, [.complex .f64 6 0, .complex .f64 3 0], .complex .f64 7 0), (.bin .mul 2, [.complex .f64 1 0, .complex .f64 3 0], .complex .f64 8 0), (.bin .mul 2, [.complex .f64 2 0, .complex .f64 3 0], .complex .f64 9 0), (.bin .add 2, [.complex .f64 8 0, .complex .f64 9 0], .complex .f64 7 0), (.bin .add 2, [.complex .f64 2 0, .complex .f64 1 0], .complex .f64 6 0)] [(2, .complex .f64 1 0, .complex .f64 2 0, false)] [(19, [], .bool true)] 7 [.complex .f64 1 0, .complex .f64 2 0, .complex .f64 3 0] (.bool true) rfl rfl ⟨⟨rfl, rfl⟩, ⟨rfl, congrArg (fun z => some (Value.bool z)) h0⟩, ⟨rfl, congrArg (fun z => some (Value.bool z)) h1⟩, ⟨rfl, rfl⟩, ⟨rfl, congrArg (fun z => some (Value.int .i64 z)) (show (wrapF .i64 ((a) + ((wrapF .i64 (0 - b))))) = (wrapF .i64 ((a) - (b))) by first | rfl | (simp only [wrapF]; omega))⟩, ⟨rfl, rfl⟩, ⟨rfl, rfl⟩, ⟨rfl, rfl⟩, ⟨rfl, rfl⟩, ⟨rfl, congrArg (fun z => some (Value.int .i64 z)) (show (wrapF .i64 (((wrapF .i64 ((a) * (c)))) + ((wrapF .i64 ((b) * (c)))))) = (wrapF .i64 (((wrapF .i64 ((a) + (b)))) * (c))) by exact ring_alias a b c)⟩, ⟨rfl, congrArg (fun z => some (Value.int .i64 z)) (show (wrapF .i64 ((b) + (a))) = (wrapF .i64 ((a) + (b))) by first | rfl | (simp only [wrapF]; omega))⟩, trivial⟩ ⟨eqScal_int h2, trivial⟩ ⟨⟨rfl, fun w h => awake12 w h⟩, trivial⟩ (by kernel_rfl) rfl rfl w hL
theorem ring_dead3 (a : Int) (b : Int) (c : Int) (h0 : decide ((a) < b) = false) (h1 : decide ((b) < a) = true) (h2 : (a == b) = true) : False := by
  simp only [decide_eq_true_eq, decide_eq_false_iff_not, beq_iff_eq, bne_iff_ne, ne_eq, beq_eq_false_iff_ne, bne_eq_false_iff_eq] at *; omega
theorem ring_2 (a : Int) (b : Int) (c : Int) (h0 : decide ((a) < b) = false) (h1 : decide ((b) < a) = true) (h2 : (a == b) = false) (w : World) (hL : Laid w) : Calls Tryz.prog 7 #[.int .i64 a, .int .i64 b, .int .i64 c] w fun e w' => e = .returned (.bool true) ∧ Below w.heap.size w w' :=
  tab [.int .i64 a, .int .i64 b, .int .i64 c, .int .i64 (wrapF .i64 (0 - b)), .int .i64 (wrapF .i64 ((a) - (b))), .int .i64 (wrapF .i64 ((a) + (b))), .int .i64 (wrapF .i64 (((wrapF .i64 ((a) + (b)))) * (c))), .int .i64 (wrapF .i64 ((a) * (c))), .int .i64 (wrapF .i64 ((b) * (c)))] [2, 2, 2, 2, 2, 2, 2, 2, 2] [(.un .neg, [.complex .f64 2 0], .complex .f64 4 0), (.bin .lss 2, [.complex .f64 1 0, .complex .f64 2 0], .bool false), (.bin .lss 2, [.complex .f64 2 0, .complex .f64 1 0], .bool true), (.bin .sub 2, [.complex .f64 1 0, .complex .f64 2 0], .complex .f64 5 0), (.bin .add 2, [.complex .f64 1 0, .complex .f64 4 0], .complex .f64 5 0), (.bin .add 2, [.complex .f64 1 0, .complex .f64 2 0], .complex .f64 6 0), (.bin .mul 2, [.complex .f64 6 0, .complex .f64 3 0], .complex .f64 7 0), (.bin .mul 2, [.complex .f64 1 0, .complex .f64 3 0], .complex .f64 8 0), (.bin .mul 2, [.complex .f64 2 0, .complex .f64 3 0], .complex .f64 9 0), (.bin .add 2, [.complex .f64 8 0, .complex .f64 9 0], .complex .f64 7 0), (.bin .add 2, [.complex .f64 2 0, .complex .f64 1 0], .complex .f64 6 0)] [(2, .complex .f64 1 0, .complex .f64 2 0, false)] [(19, [], .bool true)] 7 [.complex .f64 1 0, .complex .f64 2 0, .complex .f64 3 0] (.bool true) rfl rfl ⟨⟨rfl, rfl⟩, ⟨rfl, congrArg (fun z => some (Value.bool z)) h0⟩, ⟨rfl, congrArg (fun z => some (Value.bool z)) h1⟩, ⟨rfl, rfl⟩, ⟨rfl, congrArg (fun z => some (Value.int .i64 z)) (show (wrapF .i64 ((a) + ((wrapF .i64 (0 - b))))) = (wrapF .i64 ((a) - (b))) by first | rfl | (simp only [wrapF]; omega))⟩, ⟨rfl, rfl⟩, ⟨rfl, rfl⟩, ⟨rfl, rfl⟩, ⟨rfl, rfl⟩, ⟨rfl, congrArg (fun z => some (Value.int .i64 z)) (show (wrapF .i64 (((wrapF .i64 ((a) * (c)))) + ((wrapF .i64 ((b) * (c)))))) = (wrapF .i64 (((wrapF .i64 ((a) + (b)))) * (c))) by exact ring_alias a b c)⟩, ⟨rfl, congrArg (fun z => some (Value.int .i64 z)) (show (wrapF .i64 ((b) + (a))) = (wrapF .i64 ((a) + (b))) by first | rfl | (simp only [wrapF]; omega))⟩, trivial⟩ ⟨eqScal_int h2, trivial⟩ ⟨⟨rfl, fun w h => awake12 w h⟩, trivial⟩ (by kernel_rfl) rfl rfl w hL
theorem ring_3 (a : Int) (b : Int) (c : Int) (h0 : decide ((a) < b) = false) (h1 : decide ((b) < a) = false) (h2 : (a == b) = true) (w : World) (hL : Laid w) : Calls Tryz.prog 7 #[.int .i64 a, .int .i64 b, .int .i64 c] w fun e w' => e = .returned (.bool true) ∧ Below w.heap.size w w' :=
  tab [.int .i64 a, .int .i64 b, .int .i64 c, .int .i64 (wrapF .i64 (0 - b)), .int .i64 (wrapF .i64 ((a) - (b))), .int .i64 (wrapF .i64 ((a) + (b))), .int .i64 (wrapF .i64 (((wrapF .i64 ((a) + (b)))) * (c))), .int .i64 (wrapF .i64 ((a) * (c))), .int .i64 (wrapF .i64 ((b) * (c)))] [2, 2, 2, 2, 2, 2, 2, 2, 2] [(.un .neg, [.complex .f64 2 0], .complex .f64 4 0), (.bin .lss 2, [.complex .f64 1 0, .complex .f64 2 0], .bool false), (.bin .lss 2, [.complex .f64 2 0, .complex .f64 1 0], .bool false), (.bin .sub 2, [.complex .f64 1 0, .complex .f64 2 0], .complex .f64 5 0), (.bin .add 2, [.complex .f64 1 0, .complex .f64 4 0], .complex .f64 5 0), (.bin .add 2, [.complex .f64 1 0, .complex .f64 2 0], .complex .f64 6 0), (.bin .mul 2, [.complex .f64 6 0, .complex .f64 3 0], .complex .f64 7 0), (.bin .mul 2, [.complex .f64 1 0, .complex .f64 3 0], .complex .f64 8 0), (.bin .mul 2, [.complex .f64 2 0, .complex .f64 3 0], .complex .f64 9 0), (.bin .add 2, [.complex .f64 8 0, .complex .f64 9 0], .complex .f64 7 0), (.bin .add 2, [.complex .f64 2 0, .complex .f64 1 0], .complex .f64 6 0)] [(2, .complex .f64 1 0, .complex .f64 2 0, true)] [(19, [], .bool true)] 7 [.complex .f64 1 0, .complex .f64 2 0, .complex .f64 3 0] (.bool true) rfl rfl ⟨⟨rfl, rfl⟩, ⟨rfl, congrArg (fun z => some (Value.bool z)) h0⟩, ⟨rfl, congrArg (fun z => some (Value.bool z)) h1⟩, ⟨rfl, rfl⟩, ⟨rfl, congrArg (fun z => some (Value.int .i64 z)) (show (wrapF .i64 ((a) + ((wrapF .i64 (0 - b))))) = (wrapF .i64 ((a) - (b))) by first | rfl | (simp only [wrapF]; omega))⟩, ⟨rfl, rfl⟩, ⟨rfl, rfl⟩, ⟨rfl, rfl⟩, ⟨rfl, rfl⟩, ⟨rfl, congrArg (fun z => some (Value.int .i64 z)) (show (wrapF .i64 (((wrapF .i64 ((a) * (c)))) + ((wrapF .i64 ((b) * (c)))))) = (wrapF .i64 (((wrapF .i64 ((a) + (b)))) * (c))) by exact ring_alias a b c)⟩, ⟨rfl, congrArg (fun z => some (Value.int .i64 z)) (show (wrapF .i64 ((b) + (a))) = (wrapF .i64 ((a) + (b))) by first | rfl | (simp only [wrapF]; omega))⟩, trivial⟩ ⟨eqScal_int h2, trivial⟩ ⟨⟨rfl, fun w h => awake12 w h⟩, trivial⟩ (by kernel_rfl) rfl rfl w hL
theorem ring_dead4 (a : Int) (b : Int) (c : Int) (h0 : decide ((a) < b) = false) (h1 : decide ((b) < a) = false) (h2 : (a == b) = false) : False := by
  simp only [decide_eq_true_eq, decide_eq_false_iff_not, beq_iff_eq, bne_iff_ne, ne_eq, beq_eq_false_iff_ne, bne_eq_false_iff_eq] at *; omega
theorem ring (a : Int) (b : Int) (c : Int) (w : World) (hL : Laid w) : Calls Tryz.prog 7 #[.int .i64 a, .int .i64 b, .int .i64 c] w fun e w' => e = .returned (.bool true) ∧ Below w.heap.size w w' := by
  rcases Bool.eq_false_or_eq_true (decide ((a) < b)) with h0 | h0
  · rcases Bool.eq_false_or_eq_true (decide ((b) < a)) with h1 | h1
    · exact (ring_dead1 a b c h0 h1).elim
    · rcases Bool.eq_false_or_eq_true ((a == b)) with h2 | h2
      · exact (ring_dead2 a b c h0 h1 h2).elim
      · exact ring_1 a b c h0 h1 h2 w hL
  · rcases Bool.eq_false_or_eq_true (decide ((b) < a)) with h1 | h1
    · rcases Bool.eq_false_or_eq_true ((a == b)) with h2 | h2
      · exact (ring_dead3 a b c h0 h1 h2).elim
      · exact ring_2 a b c h0 h1 h2 w hL
    · rcases Bool.eq_false_or_eq_true ((a == b)) with h2 | h2
      · exact ring_3 a b c h0 h1 h2 w hL
      · exact (ring_dead4 a b c h0 h1 h2).elim
end Go.Proofs.YthomiajjiikmaaaGreatDoor.ring
