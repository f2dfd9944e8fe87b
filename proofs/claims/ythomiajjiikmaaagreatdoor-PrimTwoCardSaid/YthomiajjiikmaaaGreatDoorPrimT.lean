/- The makers of values; a sign between two values, ahead of one: the program beside the law: one answer. -/
import Derived.Test.YthomiajjiikmaaaGreatDoorAwake
import Derived.Test.YthomiajjiikmaaaGreatDoorPrim
import Derived.Test.YthomiajjiikmaaaGreatDoorPrimTa
set_option linter.unusedVariables false
set_option linter.unusedSimpArgs false
set_option maxRecDepth 100000
namespace Go.Proofs.YthomiajjiikmaaaGreatDoor.prim
open Go Go.RowKit Ev
theorem two_44 (o ka na : Int) (sa : ByteArray) (kb nb : Int) (sb : ByteArray) (ha : sa.data.size ≤ 300) (hb : sb.data.size ≤ 300) (h0 : (o == 9) = false) (h1 : (o == 10) = false) (h2 : (o == 11) = false) (h3 : (o == 14) = false) (h4 : (o == 12) = false) (h5 : (o == 13) = true) (h6 : (ka == kb) = true) (h7 : (na == nb) = false) (h8 : (ka == 2) = false) (h9 : (ka == 3) = false) : ∃ (x0 : Int) (x1 : Int) (x2 : ByteArray) (x3 : Int), (∀ w, Laid w → Calls Tryz.prog 21 #[.int .u8 o, .agg #[.int .u8 ka, .int .i64 na, .string sa], .agg #[.int .u8 kb, .int .i64 nb, .string sb]] w fun e w' => e = .returned (.tuple #[.agg #[.int .u8 x0, .int .i64 x1, .string x2], .int .i64 x3]) ∧ Below w.heap.size w w') ∧ (∀ w, Laid w → Calls Tryz.prog 22 #[.int .u8 o, .agg #[.int .u8 ka, .int .i64 na, .string sa], .agg #[.int .u8 kb, .int .i64 nb, .string sb]] w fun e w' => e = .returned (.tuple #[.agg #[.int .u8 x0, .int .i64 x1, .string x2], .int .i64 x3]) ∧ Below w.heap.size w w') :=
  ⟨1, 1, (⟨#[]⟩ : ByteArray), 0, fun w hL => tab [.int .u8 o, .int .u8 ka, .int .i64 na, .string sa, .int .u8 kb, .int .i64 nb, .string sb] [2, 2, 2, 3, 2, 2, 3] [(.bin .eql 43, [.complex .f64 1 0, .int .u8 9], .bool false), (.bin .eql 43, [.complex .f64 1 0, .int .u8 10], .bool false), (.bin .eql 43, [.complex .f64 1 0, .int .u8 11], .bool false), (.bin .eql 43, [.complex .f64 1 0, .int .u8 14], .bool false), (.bin .eql 43, [.complex .f64 1 0, .int .u8 12], .bool false), (.bin .eql 43, [.complex .f64 1 0, .int .u8 13], .bool true), (.bin .eql 50, [.complex .f64 2 0, .int .u8 2], .bool false), (.bin .eql 50, [.complex .f64 2 0, .int .u8 3], .bool false)] [(2, .complex .f64 2 0, .complex .f64 5 0, true), (2, .complex .f64 3 0, .complex .f64 6 0, false)] [] 21 [.complex .f64 1 0, .agg #[.complex .f64 2 0, .complex .f64 3 0, .complex .f64 4 0], .agg #[.complex .f64 5 0, .complex .f64 6 0, .complex .f64 7 0]] (.tuple #[.agg #[.int .u8 1, .int .i64 1, .string ⟨#[]⟩], .int .i64 0]) rfl rfl ⟨⟨rfl, congrArg (fun z => some (Value.bool z)) h0⟩, ⟨rfl, congrArg (fun z => some (Value.bool z)) h1⟩, ⟨rfl, congrArg (fun z => some (Value.bool z)) h2⟩, ⟨rfl, congrArg (fun z => some (Value.bool z)) h3⟩, ⟨rfl, congrArg (fun z => some (Value.bool z)) h4⟩, ⟨rfl, congrArg (fun z => some (Value.bool z)) h5⟩, ⟨rfl, congrArg (fun z => some (Value.bool z)) h8⟩, ⟨rfl, congrArg (fun z => some (Value.bool z)) h9⟩, trivial⟩ ⟨eqScal_int h6, eqScal_int h7, trivial⟩ trivial (by kernel_rfl) rfl rfl w hL,
  fun w hL => tab [.int .u8 o, .int .u8 ka, .int .i64 na, .string sa, .int .u8 kb, .int .i64 nb, .string sb] [2, 2, 2, 3, 2, 2, 3] [(.bin .eql 43, [.complex .f64 1 0, .int .u8 9], .bool false), (.bin .eql 43, [.complex .f64 1 0, .int .u8 10], .bool false), (.bin .eql 43, [.complex .f64 1 0, .int .u8 11], .bool false), (.bin .eql 43, [.complex .f64 1 0, .int .u8 14], .bool false), (.bin .eql 43, [.complex .f64 1 0, .int .u8 12], .bool false), (.bin .eql 43, [.complex .f64 1 0, .int .u8 13], .bool true), (.bin .eql 50, [.complex .f64 2 0, .int .u8 2], .bool false), (.bin .eql 50, [.complex .f64 2 0, .int .u8 3], .bool false)] [(2, .complex .f64 2 0, .complex .f64 5 0, true), (2, .complex .f64 3 0, .complex .f64 6 0, false)] [] 22 [.complex .f64 1 0, .agg #[.complex .f64 2 0, .complex .f64 3 0, .complex .f64 4 0], .agg #[.complex .f64 5 0, .complex .f64 6 0, .complex .f64 7 0]] (.tuple #[.agg #[.int .u8 1, .int .i64 1, .string ⟨#[]⟩], .int .i64 0]) rfl rfl ⟨⟨rfl, congrArg (fun z => some (Value.bool z)) h0⟩, ⟨rfl, congrArg (fun z => some (Value.bool z)) h1⟩, ⟨rfl, congrArg (fun z => some (Value.bool z)) h2⟩, ⟨rfl, congrArg (fun z => some (Value.bool z)) h3⟩, ⟨rfl, congrArg (fun z => some (Value.bool z)) h4⟩, ⟨rfl, congrArg (fun z => some (Value.bool z)) h5⟩, ⟨rfl, congrArg (fun z => some (Value.bool z)) h8⟩, ⟨rfl, congrArg (fun z => some (Value.bool z)) h9⟩, trivial⟩ ⟨eqScal_int h6, eqScal_int h7, trivial⟩ trivial (by kernel_rfl) rfl rfl w hL⟩
theorem two_dead152 (o ka na : Int) (sa : ByteArray) (kb nb : Int) (sb : ByteArray) (ha : sa.data.size ≤ 300) (hb : sb.data.size ≤ 300) (h0 : (o == 9) = false) (h1 : (o == 10) = false) (h2 : (o == 11) = false) (h3 : (o == 14) = false) (h4 : (o == 12) = false) (h5 : (o == 13) = true) (h6 : (ka == kb) = false) (h7 : (ka == 2) = true) (h8 : (kb == 2) = true) : False := by
  simp only [decide_eq_true_eq, decide_eq_false_iff_not, beq_iff_eq, bne_iff_ne, ne_eq, beq_eq_false_iff_ne, bne_eq_false_iff_eq] at *; first | omega | simp_all
theorem two_dead153 (o ka na : Int) (sa : ByteArray) (kb nb : Int) (sb : ByteArray) (ha : sa.data.size ≤ 300) (hb : sb.data.size ≤ 300) (h0 : (o == 9) = false) (h1 : (o == 10) = false) (h2 : (o == 11) = false) (h3 : (o == 14) = false) (h4 : (o == 12) = false) (h5 : (o == 13) = true) (h6 : (ka == kb) = false) (h7 : (ka == 2) = true) (h8 : (kb == 2) = false) (h9 : (ka == 3) = true) : False := by
  simp only [decide_eq_true_eq, decide_eq_false_iff_not, beq_iff_eq, bne_iff_ne, ne_eq, beq_eq_false_iff_ne, bne_eq_false_iff_eq] at *; first | omega | simp_all
theorem two_45 (o ka na : Int) (sa : ByteArray) (kb nb : Int) (sb : ByteArray) (ha : sa.data.size ≤ 300) (hb : sb.data.size ≤ 300) (h0 : (o == 9) = false) (h1 : (o == 10) = false) (h2 : (o == 11) = false) (h3 : (o == 14) = false) (h4 : (o == 12) = false) (h5 : (o == 13) = true) (h6 : (ka == kb) = false) (h7 : (ka == 2) = true) (h8 : (kb == 2) = false) (h9 : (ka == 3) = false) : ∃ (x0 : Int) (x1 : Int) (x2 : ByteArray) (x3 : Int), (∀ w, Laid w → Calls Tryz.prog 21 #[.int .u8 o, .agg #[.int .u8 ka, .int .i64 na, .string sa], .agg #[.int .u8 kb, .int .i64 nb, .string sb]] w fun e w' => e = .returned (.tuple #[.agg #[.int .u8 x0, .int .i64 x1, .string x2], .int .i64 x3]) ∧ Below w.heap.size w w') ∧ (∀ w, Laid w → Calls Tryz.prog 22 #[.int .u8 o, .agg #[.int .u8 ka, .int .i64 na, .string sa], .agg #[.int .u8 kb, .int .i64 nb, .string sb]] w fun e w' => e = .returned (.tuple #[.agg #[.int .u8 x0, .int .i64 x1, .string x2], .int .i64 x3]) ∧ Below w.heap.size w w') :=
  ⟨1, 1, (⟨#[]⟩ : ByteArray), 0, fun w hL => tab [.int .u8 o, .int .u8 ka, .int .i64 na, .string sa, .int .u8 kb, .int .i64 nb, .string sb] [2, 2, 2, 3, 2, 2, 3] [(.bin .eql 43, [.complex .f64 1 0, .int .u8 9], .bool false), (.bin .eql 43, [.complex .f64 1 0, .int .u8 10], .bool false), (.bin .eql 43, [.complex .f64 1 0, .int .u8 11], .bool false), (.bin .eql 43, [.complex .f64 1 0, .int .u8 14], .bool false), (.bin .eql 43, [.complex .f64 1 0, .int .u8 12], .bool false), (.bin .eql 43, [.complex .f64 1 0, .int .u8 13], .bool true), (.bin .eql 50, [.complex .f64 2 0, .int .u8 2], .bool true), (.bin .eql 50, [.complex .f64 5 0, .int .u8 2], .bool false), (.bin .eql 50, [.complex .f64 2 0, .int .u8 3], .bool false)] [(2, .complex .f64 2 0, .complex .f64 5 0, false)] [] 21 [.complex .f64 1 0, .agg #[.complex .f64 2 0, .complex .f64 3 0, .complex .f64 4 0], .agg #[.complex .f64 5 0, .complex .f64 6 0, .complex .f64 7 0]] (.tuple #[.agg #[.int .u8 1, .int .i64 1, .string ⟨#[]⟩], .int .i64 0]) rfl rfl ⟨⟨rfl, congrArg (fun z => some (Value.bool z)) h0⟩, ⟨rfl, congrArg (fun z => some (Value.bool z)) h1⟩, ⟨rfl, congrArg (fun z => some (Value.bool z)) h2⟩, ⟨rfl, congrArg (fun z => some (Value.bool z)) h3⟩, ⟨rfl, congrArg (fun z => some (Value.bool z)) h4⟩, ⟨rfl, congrArg (fun z => some (Value.bool z)) h5⟩, ⟨rfl, congrArg (fun z => some (Value.bool z)) h7⟩, ⟨rfl, congrArg (fun z => some (Value.bool z)) h8⟩, ⟨rfl, congrArg (fun z => some (Value.bool z)) h9⟩, trivial⟩ ⟨eqScal_int h6, trivial⟩ trivial (by kernel_rfl) rfl rfl w hL,
  fun w hL => tab [.int .u8 o, .int .u8 ka, .int .i64 na, .string sa, .int .u8 kb, .int .i64 nb, .string sb] [2, 2, 2, 3, 2, 2, 3] [(.bin .eql 43, [.complex .f64 1 0, .int .u8 9], .bool false), (.bin .eql 43, [.complex .f64 1 0, .int .u8 10], .bool false), (.bin .eql 43, [.complex .f64 1 0, .int .u8 11], .bool false), (.bin .eql 43, [.complex .f64 1 0, .int .u8 14], .bool false), (.bin .eql 43, [.complex .f64 1 0, .int .u8 12], .bool false), (.bin .eql 43, [.complex .f64 1 0, .int .u8 13], .bool true), (.bin .eql 50, [.complex .f64 2 0, .int .u8 2], .bool true), (.bin .eql 50, [.complex .f64 5 0, .int .u8 2], .bool false), (.bin .eql 50, [.complex .f64 2 0, .int .u8 3], .bool false)] [(2, .complex .f64 2 0, .complex .f64 5 0, false)] [] 22 [.complex .f64 1 0, .agg #[.complex .f64 2 0, .complex .f64 3 0, .complex .f64 4 0], .agg #[.complex .f64 5 0, .complex .f64 6 0, .complex .f64 7 0]] (.tuple #[.agg #[.int .u8 1, .int .i64 1, .string ⟨#[]⟩], .int .i64 0]) rfl rfl ⟨⟨rfl, congrArg (fun z => some (Value.bool z)) h0⟩, ⟨rfl, congrArg (fun z => some (Value.bool z)) h1⟩, ⟨rfl, congrArg (fun z => some (Value.bool z)) h2⟩, ⟨rfl, congrArg (fun z => some (Value.bool z)) h3⟩, ⟨rfl, congrArg (fun z => some (Value.bool z)) h4⟩, ⟨rfl, congrArg (fun z => some (Value.bool z)) h5⟩, ⟨rfl, congrArg (fun z => some (Value.bool z)) h7⟩, ⟨rfl, congrArg (fun z => some (Value.bool z)) h8⟩, ⟨rfl, congrArg (fun z => some (Value.bool z)) h9⟩, trivial⟩ ⟨eqScal_int h6, trivial⟩ trivial (by kernel_rfl) rfl rfl w hL⟩
theorem two_dead154 (o ka na : Int) (sa : ByteArray) (kb nb : Int) (sb : ByteArray) (ha : sa.data.size ≤ 300) (hb : sb.data.size ≤ 300) (h0 : (o == 9) = false) (h1 : (o == 10) = false) (h2 : (o == 11) = false) (h3 : (o == 14) = false) (h4 : (o == 12) = false) (h5 : (o == 13) = true) (h6 : (ka == kb) = false) (h7 : (ka == 2) = false) (h8 : (ka == 3) = true) (h9 : (kb == 3) = true) : False := by
  simp only [decide_eq_true_eq, decide_eq_false_iff_not, beq_iff_eq, bne_iff_ne, ne_eq, beq_eq_false_iff_ne, bne_eq_false_iff_eq] at *; first | omega | simp_all
theorem two_46 (o ka na : Int) (sa : ByteArray) (kb nb : Int) (sb : ByteArray) (ha : sa.data.size ≤ 300) (hb : sb.data.size ≤ 300) (h0 : (o == 9) = false) (h1 : (o == 10) = false) (h2 : (o == 11) = false) (h3 : (o == 14) = false) (h4 : (o == 12) = false) (h5 : (o == 13) = true) (h6 : (ka == kb) = false) (h7 : (ka == 2) = false) (h8 : (ka == 3) = true) (h9 : (kb == 3) = false) : ∃ (x0 : Int) (x1 : Int) (x2 : ByteArray) (x3 : Int), (∀ w, Laid w → Calls Tryz.prog 21 #[.int .u8 o, .agg #[.int .u8 ka, .int .i64 na, .string sa], .agg #[.int .u8 kb, .int .i64 nb, .string sb]] w fun e w' => e = .returned (.tuple #[.agg #[.int .u8 x0, .int .i64 x1, .string x2], .int .i64 x3]) ∧ Below w.heap.size w w') ∧ (∀ w, Laid w → Calls Tryz.prog 22 #[.int .u8 o, .agg #[.int .u8 ka, .int .i64 na, .string sa], .agg #[.int .u8 kb, .int .i64 nb, .string sb]] w fun e w' => e = .returned (.tuple #[.agg #[.int .u8 x0, .int .i64 x1, .string x2], .int .i64 x3]) ∧ Below w.heap.size w w') :=
  ⟨1, 1, (⟨#[]⟩ : ByteArray), 0, fun w hL => tab [.int .u8 o, .int .u8 ka, .int .i64 na, .string sa, .int .u8 kb, .int .i64 nb, .string sb] [2, 2, 2, 3, 2, 2, 3] [(.bin .eql 43, [.complex .f64 1 0, .int .u8 9], .bool false), (.bin .eql 43, [.complex .f64 1 0, .int .u8 10], .bool false), (.bin .eql 43, [.complex .f64 1 0, .int .u8 11], .bool false), (.bin .eql 43, [.complex .f64 1 0, .int .u8 14], .bool false), (.bin .eql 43, [.complex .f64 1 0, .int .u8 12], .bool false), (.bin .eql 43, [.complex .f64 1 0, .int .u8 13], .bool true), (.bin .eql 50, [.complex .f64 2 0, .int .u8 2], .bool false), (.bin .eql 50, [.complex .f64 2 0, .int .u8 3], .bool true), (.bin .eql 50, [.complex .f64 5 0, .int .u8 3], .bool false)] [(2, .complex .f64 2 0, .complex .f64 5 0, false)] [] 21 [.complex .f64 1 0, .agg #[.complex .f64 2 0, .complex .f64 3 0, .complex .f64 4 0], .agg #[.complex .f64 5 0, .complex .f64 6 0, .complex .f64 7 0]] (.tuple #[.agg #[.int .u8 1, .int .i64 1, .string ⟨#[]⟩], .int .i64 0]) rfl rfl ⟨⟨rfl, congrArg (fun z => some (Value.bool z)) h0⟩, ⟨rfl, congrArg (fun z => some (Value.bool z)) h1⟩, ⟨rfl, congrArg (fun z => some (Value.bool z)) h2⟩, ⟨rfl, congrArg (fun z => some (Value.bool z)) h3⟩, ⟨rfl, congrArg (fun z => some (Value.bool z)) h4⟩, ⟨rfl, congrArg (fun z => some (Value.bool z)) h5⟩, ⟨rfl, congrArg (fun z => some (Value.bool z)) h7⟩, ⟨rfl, congrArg (fun z => some (Value.bool z)) h8⟩, ⟨rfl, congrArg (fun z => some (Value.bool z)) h9⟩, trivial⟩ ⟨eqScal_int h6, trivial⟩ trivial (by kernel_rfl) rfl rfl w hL,
  fun w hL => tab [.int .u8 o, .int .u8 ka, .int .i64 na, .string sa, .int .u8 kb, .int .i64 nb, .string sb] [2, 2, 2, 3, 2, 2, 3] [(.bin .eql 43, [.complex .f64 1 0, .int .u8 9], .bool false), (.bin .eql 43, [.complex .f64 1 0, .int .u8 10], .bool false), (.bin .eql 43, [.complex .f64 1 0, .int .u8 11], .bool false), (.bin .eql 43, [.complex .f64 1 0, .int .u8 14], .bool false), (.bin .eql 43, [.complex .f64 1 0, .int .u8 12], .bool false), (.bin .eql 43, [.complex .f64 1 0, .int .u8 13], .bool true), (.bin .eql 50, [.complex .f64 2 0, .int .u8 2], .bool false), (.bin .eql 50, [.complex .f64 2 0, .int .u8 3], .bool true), (.bin .eql 50, [.complex .f64 5 0, .int .u8 3], .bool false)] [(2, .complex .f64 2 0, .complex .f64 5 0, false)] [] 22 [.complex .f64 1 0, .agg #[.complex .f64 2 0, .complex .f64 3 0, .complex .f64 4 0], .agg #[.complex .f64 5 0, .complex .f64 6 0, .complex .f64 7 0]] (.tuple #[.agg #[.int .u8 1, .int .i64 1, .string ⟨#[]⟩], .int .i64 0]) rfl rfl ⟨⟨rfl, congrArg (fun z => some (Value.bool z)) h0⟩, ⟨rfl, congrArg (fun z => some (Value.bool z)) h1⟩, ⟨rfl, congrArg (fun z => some (Value.bool z)) h2⟩, ⟨rfl, congrArg (fun z => some (Value.bool z)) h3⟩, ⟨rfl, congrArg (fun z => some (Value.bool z)) h4⟩, ⟨rfl, congrArg (fun z => some (Value.bool z)) h5⟩, ⟨rfl, congrArg (fun z => some (Value.bool z)) h7⟩, ⟨rfl, congrArg (fun z => some (Value.bool z)) h8⟩, ⟨rfl, congrArg (fun z => some (Value.bool z)) h9⟩, trivial⟩ ⟨eqScal_int h6, trivial⟩ trivial (by kernel_rfl) rfl rfl w hL⟩
theorem two_47 (o ka na : Int) (sa : ByteArray) (kb nb : Int) (sb : ByteArray) (ha : sa.data.size ≤ 300) (hb : sb.data.size ≤ 300) (h0 : (o == 9) = false) (h1 : (o == 10) = false) (h2 : (o == 11) = false) (h3 : (o == 14) = false) (h4 : (o == 12) = false) (h5 : (o == 13) = true) (h6 : (ka == kb) = false) (h7 : (ka == 2) = false) (h8 : (ka == 3) = false) : ∃ (x0 : Int) (x1 : Int) (x2 : ByteArray) (x3 : Int), (∀ w, Laid w → Calls Tryz.prog 21 #[.int .u8 o, .agg #[.int .u8 ka, .int .i64 na, .string sa], .agg #[.int .u8 kb, .int .i64 nb, .string sb]] w fun e w' => e = .returned (.tuple #[.agg #[.int .u8 x0, .int .i64 x1, .string x2], .int .i64 x3]) ∧ Below w.heap.size w w') ∧ (∀ w, Laid w → Calls Tryz.prog 22 #[.int .u8 o, .agg #[.int .u8 ka, .int .i64 na, .string sa], .agg #[.int .u8 kb, .int .i64 nb, .string sb]] w fun e w' => e = .returned (.tuple #[.agg #[.int .u8 x0, .int .i64 x1, .string x2], .int .i64 x3]) ∧ Below w.heap.size w w') :=
  ⟨1, 1, (⟨#[]⟩ : ByteArray), 0, fun w hL => tab [.int .u8 o, .int .u8 ka, .int .i64 na, .string sa, .int .u8 kb, .int .i64 nb, .string sb] [2, 2, 2, 3, 2, 2, 3] [(.bin .eql 43, [.complex .f64 1 0, .int .u8 9], .bool false), (.bin .eql 43, [.complex .f64 1 0, .int .u8 10], .bool false), (.bin .eql 43, [.complex .f64 1 0, .int .u8 11], .bool false), (.bin .eql 43, [.complex .f64 1 0, .int .u8 14], .bool false), (.bin .eql 43, [.complex .f64 1 0, .int .u8 12], .bool false), (.bin .eql 43, [.complex .f64 1 0, .int .u8 13], .bool true), (.bin .eql 50, [.complex .f64 2 0, .int .u8 2], .bool false), (.bin .eql 50, [.complex .f64 2 0, .int .u8 3], .bool false)] [(2, .complex .f64 2 0, .complex .f64 5 0, false)] [] 21 [.complex .f64 1 0, .agg #[.complex .f64 2 0, .complex .f64 3 0, .complex .f64 4 0], .agg #[.complex .f64 5 0, .complex .f64 6 0, .complex .f64 7 0]] (.tuple #[.agg #[.int .u8 1, .int .i64 1, .string ⟨#[]⟩], .int .i64 0]) rfl rfl ⟨⟨rfl, congrArg (fun z => some (Value.bool z)) h0⟩, ⟨rfl, congrArg (fun z => some (Value.bool z)) h1⟩, ⟨rfl, congrArg (fun z => some (Value.bool z)) h2⟩, ⟨rfl, congrArg (fun z => some (Value.bool z)) h3⟩, ⟨rfl, congrArg (fun z => some (Value.bool z)) h4⟩, ⟨rfl, congrArg (fun z => some (Value.bool z)) h5⟩, ⟨rfl, congrArg (fun z => some (Value.bool z)) h7⟩, ⟨rfl, congrArg (fun z => some (Value.bool z)) h8⟩, trivial⟩ ⟨eqScal_int h6, trivial⟩ trivial (by kernel_rfl) rfl rfl w hL,
  fun w hL => tab [.int .u8 o, .int .u8 ka, .int .i64 na, .string sa, .int .u8 kb, .int .i64 nb, .string sb] [2, 2, 2, 3, 2, 2, 3] [(.bin .eql 43, [.complex .f64 1 0, .int .u8 9], .bool false), (.bin .eql 43, [.complex .f64 1 0, .int .u8 10], .bool false), (.bin .eql 43, [.complex .f64 1 0, .int .u8 11], .bool false), (.bin .eql 43, [.complex .f64 1 0, .int .u8 14], .bool false), (.bin .eql 43, [.complex .f64 1 0, .int .u8 12], .bool false), (.bin .eql 43, [.complex .f64 1 0, .int .u8 13], .bool true), (.bin .eql 50, [.complex .f64 2 0, .int .u8 2], .bool false), (.bin .eql 50, [.complex .f64 2 0, .int .u8 3], .bool false)] [(2, .complex .f64 2 0, .complex .f64 5 0, false)] [] 22 [.complex .f64 1 0, .agg #[.complex .f64 2 0, .complex .f64 3 0, .complex .f64 4 0], .agg #[.complex .f64 5 0, .complex .f64 6 0, .complex .f64 7 0]] (.tuple #[.agg #[.int .u8 1, .int .i64 1, .string ⟨#[]⟩], .int .i64 0]) rfl rfl ⟨⟨rfl, congrArg (fun z => some (Value.bool z)) h0⟩, ⟨rfl, congrArg (fun z => some (Value.bool z)) h1⟩, ⟨rfl, congrArg (fun z => some (Value.bool z)) h2⟩, ⟨rfl, congrArg (fun z => some (Value.bool z)) h3⟩, ⟨rfl, congrArg (fun z => some (Value.bool z)) h4⟩, ⟨rfl, congrArg (fun z => some (Value.bool z)) h5⟩, ⟨rfl, congrArg (fun z => some (Value.bool z)) h7⟩, ⟨rfl, congrArg (fun z => some (Value.bool z)) h8⟩, trivial⟩ ⟨eqScal_int h6, trivial⟩ trivial (by kernel_rfl) rfl rfl w hL⟩
theorem two_dead155 (o ka na : Int) (sa : ByteArray) (kb nb : Int) (sb : ByteArray) (ha : sa.data.size ≤ 300) (hb : sb.data.size ≤ 300) (h0 : (o == 9) = false) (h1 : (o == 10) = false) (h2 : (o == 11) = false) (h3 : (o == 14) = false) (h4 : (o == 12) = false) (h5 : (o == 13) = false) (h6 : (ka == 2) = true) (h7 : (kb == 2) = true) (h8 : (ka == 3) = true) : False := by
  simp only [decide_eq_true_eq, decide_eq_false_iff_not, beq_iff_eq, bne_iff_ne, ne_eq, beq_eq_false_iff_ne, bne_eq_false_iff_eq] at *; first | omega | simp_all
theorem two_48 (o ka na : Int) (sa : ByteArray) (kb nb : Int) (sb : ByteArray) (ha : sa.data.size ≤ 300) (hb : sb.data.size ≤ 300) (h0 : (o == 9) = false) (h1 : (o == 10) = false) (h2 : (o == 11) = false) (h3 : (o == 14) = false) (h4 : (o == 12) = false) (h5 : (o == 13) = false) (h6 : (ka == 2) = true) (h7 : (kb == 2) = true) (h8 : (ka == 3) = false) (h9 : (o != 9) = true) (h10 : (o != 10) = true) (h11 : (o != 11) = true) (h12 : (o != 14) = true) : ∃ (x0 : Int) (x1 : Int) (x2 : ByteArray) (x3 : Int), (∀ w, Laid w → Calls Tryz.prog 21 #[.int .u8 o, .agg #[.int .u8 ka, .int .i64 na, .string sa], .agg #[.int .u8 kb, .int .i64 nb, .string sb]] w fun e w' => e = .returned (.tuple #[.agg #[.int .u8 x0, .int .i64 x1, .string x2], .int .i64 x3]) ∧ Below w.heap.size w w') ∧ (∀ w, Laid w → Calls Tryz.prog 22 #[.int .u8 o, .agg #[.int .u8 ka, .int .i64 na, .string sa], .agg #[.int .u8 kb, .int .i64 nb, .string sb]] w fun e w' => e = .returned (.tuple #[.agg #[.int .u8 x0, .int .i64 x1, .string x2], .int .i64 x3]) ∧ Below w.heap.size w w') :=
  ⟨0, 0, (⟨#[]⟩ : ByteArray), 16, fun w hL => tab [.int .u8 o, .int .u8 ka, .int .i64 na, .string sa, .int .u8 kb, .int .i64 nb, .string sb] [2, 2, 2, 3, 2, 2, 3] [(.bin .eql 43, [.complex .f64 1 0, .int .u8 9], .bool false), (.bin .eql 43, [.complex .f64 1 0, .int .u8 10], .bool false), (.bin .eql 43, [.complex .f64 1 0, .int .u8 11], .bool false), (.bin .eql 43, [.complex .f64 1 0, .int .u8 14], .bool false), (.bin .eql 43, [.complex .f64 1 0, .int .u8 12], .bool false), (.bin .eql 43, [.complex .f64 1 0, .int .u8 13], .bool false), (.bin .eql 50, [.complex .f64 2 0, .int .u8 2], .bool true), (.bin .eql 50, [.complex .f64 5 0, .int .u8 2], .bool true), (.bin .eql 50, [.complex .f64 2 0, .int .u8 3], .bool false), (.bin .neq 43, [.complex .f64 1 0, .int .u8 9], .bool true), (.bin .neq 43, [.complex .f64 1 0, .int .u8 10], .bool true), (.bin .neq 43, [.complex .f64 1 0, .int .u8 11], .bool true), (.bin .neq 43, [.complex .f64 1 0, .int .u8 14], .bool true)] [] [] 21 [.complex .f64 1 0, .agg #[.complex .f64 2 0, .complex .f64 3 0, .complex .f64 4 0], .agg #[.complex .f64 5 0, .complex .f64 6 0, .complex .f64 7 0]] (.tuple #[.agg #[.int .u8 0, .int .i64 0, .string ⟨#[]⟩], .int .i64 16]) rfl rfl ⟨⟨rfl, congrArg (fun z => some (Value.bool z)) h0⟩, ⟨rfl, congrArg (fun z => some (Value.bool z)) h1⟩, ⟨rfl, congrArg (fun z => some (Value.bool z)) h2⟩, ⟨rfl, congrArg (fun z => some (Value.bool z)) h3⟩, ⟨rfl, congrArg (fun z => some (Value.bool z)) h4⟩, ⟨rfl, congrArg (fun z => some (Value.bool z)) h5⟩, ⟨rfl, congrArg (fun z => some (Value.bool z)) h6⟩, ⟨rfl, congrArg (fun z => some (Value.bool z)) h7⟩, ⟨rfl, congrArg (fun z => some (Value.bool z)) h8⟩, ⟨rfl, congrArg (fun z => some (Value.bool z)) h9⟩, ⟨rfl, congrArg (fun z => some (Value.bool z)) h10⟩, ⟨rfl, congrArg (fun z => some (Value.bool z)) h11⟩, ⟨rfl, congrArg (fun z => some (Value.bool z)) h12⟩, trivial⟩ trivial trivial (by kernel_rfl) rfl rfl w hL,
  fun w hL => tab [.int .u8 o, .int .u8 ka, .int .i64 na, .string sa, .int .u8 kb, .int .i64 nb, .string sb] [2, 2, 2, 3, 2, 2, 3] [(.bin .eql 43, [.complex .f64 1 0, .int .u8 9], .bool false), (.bin .eql 43, [.complex .f64 1 0, .int .u8 10], .bool false), (.bin .eql 43, [.complex .f64 1 0, .int .u8 11], .bool false), (.bin .eql 43, [.complex .f64 1 0, .int .u8 14], .bool false), (.bin .eql 43, [.complex .f64 1 0, .int .u8 12], .bool false), (.bin .eql 43, [.complex .f64 1 0, .int .u8 13], .bool false), (.bin .eql 50, [.complex .f64 2 0, .int .u8 2], .bool true), (.bin .eql 50, [.complex .f64 5 0, .int .u8 2], .bool true), (.bin .eql 50, [.complex .f64 2 0, .int .u8 3], .bool false), (.bin .neq 43, [.complex .f64 1 0, .int .u8 9], .bool true), (.bin .neq 43, [.complex .f64 1 0, .int .u8 10], .bool true), (.bin .neq 43, [.complex .f64 1 0, .int .u8 11], .bool true), (.bin .neq 43, [.complex .f64 1 0, .int .u8 14], .bool true)] [] [] 22 [.complex .f64 1 0, .agg #[.complex .f64 2 0, .complex .f64 3 0, .complex .f64 4 0], .agg #[.complex .f64 5 0, .complex .f64 6 0, .complex .f64 7 0]] (.tuple #[.agg #[.int .u8 0, .int .i64 0, .string ⟨#[]⟩], .int .i64 16]) rfl rfl ⟨⟨rfl, congrArg (fun z => some (Value.bool z)) h0⟩, ⟨rfl, congrArg (fun z => some (Value.bool z)) h1⟩, ⟨rfl, congrArg (fun z => some (Value.bool z)) h2⟩, ⟨rfl, congrArg (fun z => some (Value.bool z)) h3⟩, ⟨rfl, congrArg (fun z => some (Value.bool z)) h4⟩, ⟨rfl, congrArg (fun z => some (Value.bool z)) h5⟩, ⟨rfl, congrArg (fun z => some (Value.bool z)) h6⟩, ⟨rfl, congrArg (fun z => some (Value.bool z)) h7⟩, ⟨rfl, congrArg (fun z => some (Value.bool z)) h8⟩, ⟨rfl, congrArg (fun z => some (Value.bool z)) h9⟩, ⟨rfl, congrArg (fun z => some (Value.bool z)) h10⟩, ⟨rfl, congrArg (fun z => some (Value.bool z)) h11⟩, ⟨rfl, congrArg (fun z => some (Value.bool z)) h12⟩, trivial⟩ trivial trivial (by kernel_rfl) rfl rfl w hL⟩
theorem two_dead156 (o ka na : Int) (sa : ByteArray) (kb nb : Int) (sb : ByteArray) (ha : sa.data.size ≤ 300) (hb : sb.data.size ≤ 300) (h0 : (o == 9) = false) (h1 : (o == 10) = false) (h2 : (o == 11) = false) (h3 : (o == 14) = false) (h4 : (o == 12) = false) (h5 : (o == 13) = false) (h6 : (ka == 2) = true) (h7 : (kb == 2) = true) (h8 : (ka == 3) = false) (h9 : (o != 9) = true) (h10 : (o != 10) = true) (h11 : (o != 11) = true) (h12 : (o != 14) = false) : False := by
  simp only [decide_eq_true_eq, decide_eq_false_iff_not, beq_iff_eq, bne_iff_ne, ne_eq, beq_eq_false_iff_ne, bne_eq_false_iff_eq] at *; first | omega | simp_all
theorem two_dead157 (o ka na : Int) (sa : ByteArray) (kb nb : Int) (sb : ByteArray) (ha : sa.data.size ≤ 300) (hb : sb.data.size ≤ 300) (h0 : (o == 9) = false) (h1 : (o == 10) = false) (h2 : (o == 11) = false) (h3 : (o == 14) = false) (h4 : (o == 12) = false) (h5 : (o == 13) = false) (h6 : (ka == 2) = true) (h7 : (kb == 2) = true) (h8 : (ka == 3) = false) (h9 : (o != 9) = true) (h10 : (o != 10) = true) (h11 : (o != 11) = false) : False := by
  simp only [decide_eq_true_eq, decide_eq_false_iff_not, beq_iff_eq, bne_iff_ne, ne_eq, beq_eq_false_iff_ne, bne_eq_false_iff_eq] at *; first | omega | simp_all
theorem two_dead158 (o ka na : Int) (sa : ByteArray) (kb nb : Int) (sb : ByteArray) (ha : sa.data.size ≤ 300) (hb : sb.data.size ≤ 300) (h0 : (o == 9) = false) (h1 : (o == 10) = false) (h2 : (o == 11) = false) (h3 : (o == 14) = false) (h4 : (o == 12) = false) (h5 : (o == 13) = false) (h6 : (ka == 2) = true) (h7 : (kb == 2) = true) (h8 : (ka == 3) = false) (h9 : (o != 9) = true) (h10 : (o != 10) = false) : False := by
  simp only [decide_eq_true_eq, decide_eq_false_iff_not, beq_iff_eq, bne_iff_ne, ne_eq, beq_eq_false_iff_ne, bne_eq_false_iff_eq] at *; first | omega | simp_all
theorem two_dead159 (o ka na : Int) (sa : ByteArray) (kb nb : Int) (sb : ByteArray) (ha : sa.data.size ≤ 300) (hb : sb.data.size ≤ 300) (h0 : (o == 9) = false) (h1 : (o == 10) = false) (h2 : (o == 11) = false) (h3 : (o == 14) = false) (h4 : (o == 12) = false) (h5 : (o == 13) = false) (h6 : (ka == 2) = true) (h7 : (kb == 2) = true) (h8 : (ka == 3) = false) (h9 : (o != 9) = false) : False := by
  simp only [decide_eq_true_eq, decide_eq_false_iff_not, beq_iff_eq, bne_iff_ne, ne_eq, beq_eq_false_iff_ne, bne_eq_false_iff_eq] at *; first | omega | simp_all
theorem two_dead160 (o ka na : Int) (sa : ByteArray) (kb nb : Int) (sb : ByteArray) (ha : sa.data.size ≤ 300) (hb : sb.data.size ≤ 300) (h0 : (o == 9) = false) (h1 : (o == 10) = false) (h2 : (o == 11) = false) (h3 : (o == 14) = false) (h4 : (o == 12) = false) (h5 : (o == 13) = false) (h6 : (ka == 2) = true) (h7 : (kb == 2) = false) (h8 : (ka == 3) = true) : False := by
  simp only [decide_eq_true_eq, decide_eq_false_iff_not, beq_iff_eq, bne_iff_ne, ne_eq, beq_eq_false_iff_ne, bne_eq_false_iff_eq] at *; first | omega | simp_all
theorem two_49 (o ka na : Int) (sa : ByteArray) (kb nb : Int) (sb : ByteArray) (ha : sa.data.size ≤ 300) (hb : sb.data.size ≤ 300) (h0 : (o == 9) = false) (h1 : (o == 10) = false) (h2 : (o == 11) = false) (h3 : (o == 14) = false) (h4 : (o == 12) = false) (h5 : (o == 13) = false) (h6 : (ka == 2) = true) (h7 : (kb == 2) = false) (h8 : (ka == 3) = false) (h9 : (o != 9) = true) (h10 : (o != 10) = true) (h11 : (o != 11) = true) (h12 : (o != 14) = true) : ∃ (x0 : Int) (x1 : Int) (x2 : ByteArray) (x3 : Int), (∀ w, Laid w → Calls Tryz.prog 21 #[.int .u8 o, .agg #[.int .u8 ka, .int .i64 na, .string sa], .agg #[.int .u8 kb, .int .i64 nb, .string sb]] w fun e w' => e = .returned (.tuple #[.agg #[.int .u8 x0, .int .i64 x1, .string x2], .int .i64 x3]) ∧ Below w.heap.size w w') ∧ (∀ w, Laid w → Calls Tryz.prog 22 #[.int .u8 o, .agg #[.int .u8 ka, .int .i64 na, .string sa], .agg #[.int .u8 kb, .int .i64 nb, .string sb]] w fun e w' => e = .returned (.tuple #[.agg #[.int .u8 x0, .int .i64 x1, .string x2], .int .i64 x3]) ∧ Below w.heap.size w w') :=
  ⟨0, 0, (⟨#[]⟩ : ByteArray), 16, fun w hL => tab [.int .u8 o, .int .u8 ka, .int .i64 na, .string sa, .int .u8 kb, .int .i64 nb, .string sb] [2, 2, 2, 3, 2, 2, 3] [(.bin .eql 43, [.complex .f64 1 0, .int .u8 9], .bool false), (.bin .eql 43, [.complex .f64 1 0, .int .u8 10], .bool false), (.bin .eql 43, [.complex .f64 1 0, .int .u8 11], .bool false), (.bin .eql 43, [.complex .f64 1 0, .int .u8 14], .bool false), (.bin .eql 43, [.complex .f64 1 0, .int .u8 12], .bool false), (.bin .eql 43, [.complex .f64 1 0, .int .u8 13], .bool false), (.bin .eql 50, [.complex .f64 2 0, .int .u8 2], .bool true), (.bin .eql 50, [.complex .f64 5 0, .int .u8 2], .bool false), (.bin .eql 50, [.complex .f64 2 0, .int .u8 3], .bool false), (.bin .neq 43, [.complex .f64 1 0, .int .u8 9], .bool true), (.bin .neq 43, [.complex .f64 1 0, .int .u8 10], .bool true), (.bin .neq 43, [.complex .f64 1 0, .int .u8 11], .bool true), (.bin .neq 43, [.complex .f64 1 0, .int .u8 14], .bool true)] [] [] 21 [.complex .f64 1 0, .agg #[.complex .f64 2 0, .complex .f64 3 0, .complex .f64 4 0], .agg #[.complex .f64 5 0, .complex .f64 6 0, .complex .f64 7 0]] (.tuple #[.agg #[.int .u8 0, .int .i64 0, .string ⟨#[]⟩], .int .i64 16]) rfl rfl ⟨⟨rfl, congrArg (fun z => some (Value.bool z)) h0⟩, ⟨rfl, congrArg (fun z => some (Value.bool z)) h1⟩, ⟨rfl, congrArg (fun z => some (Value.bool z)) h2⟩, ⟨rfl, congrArg (fun z => some (Value.bool z)) h3⟩, ⟨rfl, congrArg (fun z => some (Value.bool z)) h4⟩, ⟨rfl, congrArg (fun z => some (Value.bool z)) h5⟩, ⟨rfl, congrArg (fun z => some (Value.bool z)) h6⟩, ⟨rfl, congrArg (fun z => some (Value.bool z)) h7⟩, ⟨rfl, congrArg (fun z => some (Value.bool z)) h8⟩, ⟨rfl, congrArg (fun z => some (Value.bool z)) h9⟩, ⟨rfl, congrArg (fun z => some (Value.bool z)) h10⟩, ⟨rfl, congrArg (fun z => some (Value.bool z)) h11⟩, ⟨rfl, congrArg (fun z => some (Value.bool z)) h12⟩, trivial⟩ trivial trivial (by kernel_rfl) rfl rfl w hL,
  fun w hL => tab [.int .u8 o, .int .u8 ka, .int .i64 na, .string sa, .int .u8 kb, .int .i64 nb, .string sb] [2, 2, 2, 3, 2, 2, 3] [(.bin .eql 43, [.complex .f64 1 0, .int .u8 9], .bool false), (.bin .eql 43, [.complex .f64 1 0, .int .u8 10], .bool false), (.bin .eql 43, [.complex .f64 1 0, .int .u8 11], .bool false), (.bin .eql 43, [.complex .f64 1 0, .int .u8 14], .bool false), (.bin .eql 43, [.complex .f64 1 0, .int .u8 12], .bool false), (.bin .eql 43, [.complex .f64 1 0, .int .u8 13], .bool false), (.bin .eql 50, [.complex .f64 2 0, .int .u8 2], .bool true), (.bin .eql 50, [.complex .f64 5 0, .int .u8 2], .bool false), (.bin .eql 50, [.complex .f64 2 0, .int .u8 3], .bool false), (.bin .neq 43, [.complex .f64 1 0, .int .u8 9], .bool true), (.bin .neq 43, [.complex .f64 1 0, .int .u8 10], .bool true), (.bin .neq 43, [.complex .f64 1 0, .int .u8 11], .bool true), (.bin .neq 43, [.complex .f64 1 0, .int .u8 14], .bool true)] [] [] 22 [.complex .f64 1 0, .agg #[.complex .f64 2 0, .complex .f64 3 0, .complex .f64 4 0], .agg #[.complex .f64 5 0, .complex .f64 6 0, .complex .f64 7 0]] (.tuple #[.agg #[.int .u8 0, .int .i64 0, .string ⟨#[]⟩], .int .i64 16]) rfl rfl ⟨⟨rfl, congrArg (fun z => some (Value.bool z)) h0⟩, ⟨rfl, congrArg (fun z => some (Value.bool z)) h1⟩, ⟨rfl, congrArg (fun z => some (Value.bool z)) h2⟩, ⟨rfl, congrArg (fun z => some (Value.bool z)) h3⟩, ⟨rfl, congrArg (fun z => some (Value.bool z)) h4⟩, ⟨rfl, congrArg (fun z => some (Value.bool z)) h5⟩, ⟨rfl, congrArg (fun z => some (Value.bool z)) h6⟩, ⟨rfl, congrArg (fun z => some (Value.bool z)) h7⟩, ⟨rfl, congrArg (fun z => some (Value.bool z)) h8⟩, ⟨rfl, congrArg (fun z => some (Value.bool z)) h9⟩, ⟨rfl, congrArg (fun z => some (Value.bool z)) h10⟩, ⟨rfl, congrArg (fun z => some (Value.bool z)) h11⟩, ⟨rfl, congrArg (fun z => some (Value.bool z)) h12⟩, trivial⟩ trivial trivial (by kernel_rfl) rfl rfl w hL⟩
theorem two_dead161 (o ka na : Int) (sa : ByteArray) (kb nb : Int) (sb : ByteArray) (ha : sa.data.size ≤ 300) (hb : sb.data.size ≤ 300) (h0 : (o == 9) = false) (h1 : (o == 10) = false) (h2 : (o == 11) = false) (h3 : (o == 14) = false) (h4 : (o == 12) = false) (h5 : (o == 13) = false) (h6 : (ka == 2) = true) (h7 : (kb == 2) = false) (h8 : (ka == 3) = false) (h9 : (o != 9) = true) (h10 : (o != 10) = true) (h11 : (o != 11) = true) (h12 : (o != 14) = false) : False := by
  simp only [decide_eq_true_eq, decide_eq_false_iff_not, beq_iff_eq, bne_iff_ne, ne_eq, beq_eq_false_iff_ne, bne_eq_false_iff_eq] at *; first | omega | simp_all
theorem two_dead162 (o ka na : Int) (sa : ByteArray) (kb nb : Int) (sb : ByteArray) (ha : sa.data.size ≤ 300) (hb : sb.data.size ≤ 300) (h0 : (o == 9) = false) (h1 : (o == 10) = false) (h2 : (o == 11) = false) (h3 : (o == 14) = false) (h4 : (o == 12) = false) (h5 : (o == 13) = false) (h6 : (ka == 2) = true) (h7 : (kb == 2) = false) (h8 : (ka == 3) = false) (h9 : (o != 9) = true) (h10 : (o != 10) = true) (h11 : (o != 11) = false) : False := by
  simp only [decide_eq_true_eq, decide_eq_false_iff_not, beq_iff_eq, bne_iff_ne, ne_eq, beq_eq_false_iff_ne, bne_eq_false_iff_eq] at *; first | omega | simp_all
theorem two_dead163 (o ka na : Int) (sa : ByteArray) (kb nb : Int) (sb : ByteArray) (ha : sa.data.size ≤ 300) (hb : sb.data.size ≤ 300) (h0 : (o == 9) = false) (h1 : (o == 10) = false) (h2 : (o == 11) = false) (h3 : (o == 14) = false) (h4 : (o == 12) = false) (h5 : (o == 13) = false) (h6 : (ka == 2) = true) (h7 : (kb == 2) = false) (h8 : (ka == 3) = false) (h9 : (o != 9) = true) (h10 : (o != 10) = false) : False := by
  simp only [decide_eq_true_eq, decide_eq_false_iff_not, beq_iff_eq, bne_iff_ne, ne_eq, beq_eq_false_iff_ne, bne_eq_false_iff_eq] at *; first | omega | simp_all
theorem two_dead164 (o ka na : Int) (sa : ByteArray) (kb nb : Int) (sb : ByteArray) (ha : sa.data.size ≤ 300) (hb : sb.data.size ≤ 300) (h0 : (o == 9) = false) (h1 : (o == 10) = false) (h2 : (o == 11) = false) (h3 : (o == 14) = false) (h4 : (o == 12) = false) (h5 : (o == 13) = false) (h6 : (ka == 2) = true) (h7 : (kb == 2) = false) (h8 : (ka == 3) = false) (h9 : (o != 9) = false) : False := by
  simp only [decide_eq_true_eq, decide_eq_false_iff_not, beq_iff_eq, bne_iff_ne, ne_eq, beq_eq_false_iff_ne, bne_eq_false_iff_eq] at *; first | omega | simp_all
theorem two_50 (o ka na : Int) (sa : ByteArray) (kb nb : Int) (sb : ByteArray) (ha : sa.data.size ≤ 300) (hb : sb.data.size ≤ 300) (h0 : (o == 9) = false) (h1 : (o == 10) = false) (h2 : (o == 11) = false) (h3 : (o == 14) = false) (h4 : (o == 12) = false) (h5 : (o == 13) = false) (h6 : (ka == 2) = false) (h7 : (ka == 3) = true) (h8 : (kb == 3) = true) (h9 : (o != 9) = true) (h10 : (o != 10) = true) (h11 : (o != 11) = true) (h12 : (o != 14) = true) : ∃ (x0 : Int) (x1 : Int) (x2 : ByteArray) (x3 : Int), (∀ w, Laid w → Calls Tryz.prog 21 #[.int .u8 o, .agg #[.int .u8 ka, .int .i64 na, .string sa], .agg #[.int .u8 kb, .int .i64 nb, .string sb]] w fun e w' => e = .returned (.tuple #[.agg #[.int .u8 x0, .int .i64 x1, .string x2], .int .i64 x3]) ∧ Below w.heap.size w w') ∧ (∀ w, Laid w → Calls Tryz.prog 22 #[.int .u8 o, .agg #[.int .u8 ka, .int .i64 na, .string sa], .agg #[.int .u8 kb, .int .i64 nb, .string sb]] w fun e w' => e = .returned (.tuple #[.agg #[.int .u8 x0, .int .i64 x1, .string x2], .int .i64 x3]) ∧ Below w.heap.size w w') :=
  ⟨0, 0, (⟨#[]⟩ : ByteArray), 16, fun w hL => tab [.int .u8 o, .int .u8 ka, .int .i64 na, .string sa, .int .u8 kb, .int .i64 nb, .string sb] [2, 2, 2, 3, 2, 2, 3] [(.bin .eql 43, [.complex .f64 1 0, .int .u8 9], .bool false), (.bin .eql 43, [.complex .f64 1 0, .int .u8 10], .bool false), (.bin .eql 43, [.complex .f64 1 0, .int .u8 11], .bool false), (.bin .eql 43, [.complex .f64 1 0, .int .u8 14], .bool false), (.bin .eql 43, [.complex .f64 1 0, .int .u8 12], .bool false), (.bin .eql 43, [.complex .f64 1 0, .int .u8 13], .bool false), (.bin .eql 50, [.complex .f64 2 0, .int .u8 2], .bool false), (.bin .eql 50, [.complex .f64 2 0, .int .u8 3], .bool true), (.bin .eql 50, [.complex .f64 5 0, .int .u8 3], .bool true), (.bin .neq 43, [.complex .f64 1 0, .int .u8 9], .bool true), (.bin .neq 43, [.complex .f64 1 0, .int .u8 10], .bool true), (.bin .neq 43, [.complex .f64 1 0, .int .u8 11], .bool true), (.bin .neq 43, [.complex .f64 1 0, .int .u8 14], .bool true)] [] [] 21 [.complex .f64 1 0, .agg #[.complex .f64 2 0, .complex .f64 3 0, .complex .f64 4 0], .agg #[.complex .f64 5 0, .complex .f64 6 0, .complex .f64 7 0]] (.tuple #[.agg #[.int .u8 0, .int .i64 0, .string ⟨#[]⟩], .int .i64 16]) rfl rfl ⟨⟨rfl, congrArg (fun z => some (Value.bool z)) h0⟩, ⟨rfl, congrArg (fun z => some (Value.bool z)) h1⟩, ⟨rfl, congrArg (fun z => some (Value.bool z)) h2⟩, ⟨rfl, congrArg (fun z => some (Value.bool z)) h3⟩, ⟨rfl, congrArg (fun z => some (Value.bool z)) h4⟩, ⟨rfl, congrArg (fun z => some (Value.bool z)) h5⟩, ⟨rfl, congrArg (fun z => some (Value.bool z)) h6⟩, ⟨rfl, congrArg (fun z => some (Value.bool z)) h7⟩, ⟨rfl, congrArg (fun z => some (Value.bool z)) h8⟩, ⟨rfl, congrArg (fun z => some (Value.bool z)) h9⟩, ⟨rfl, congrArg (fun z => some (Value.bool z)) h10⟩, ⟨rfl, congrArg (fun z => some (Value.bool z)) h11⟩, ⟨rfl, congrArg (fun z => some (Value.bool z)) h12⟩, trivial⟩ trivial trivial (by kernel_rfl) rfl rfl w hL,
  fun w hL => tab [.int .u8 o, .int .u8 ka, .int .i64 na, .string sa, .int .u8 kb, .int .i64 nb, .string sb] [2, 2, 2, 3, 2, 2, 3] [(.bin .eql 43, [.complex .f64 1 0, .int .u8 9], .bool false), (.bin .eql 43, [.complex .f64 1 0, .int .u8 10], .bool false), (.bin .eql 43, [.complex .f64 1 0, .int .u8 11], .bool false), (.bin .eql 43, [.complex .f64 1 0, .int .u8 14], .bool false), (.bin .eql 43, [.complex .f64 1 0, .int .u8 12], .bool false), (.bin .eql 43, [.complex .f64 1 0, .int .u8 13], .bool false), (.bin .eql 50, [.complex .f64 2 0, .int .u8 2], .bool false), (.bin .eql 50, [.complex .f64 2 0, .int .u8 3], .bool true), (.bin .eql 50, [.complex .f64 5 0, .int .u8 3], .bool true), (.bin .neq 43, [.complex .f64 1 0, .int .u8 9], .bool true), (.bin .neq 43, [.complex .f64 1 0, .int .u8 10], .bool true), (.bin .neq 43, [.complex .f64 1 0, .int .u8 11], .bool true), (.bin .neq 43, [.complex .f64 1 0, .int .u8 14], .bool true)] [] [] 22 [.complex .f64 1 0, .agg #[.complex .f64 2 0, .complex .f64 3 0, .complex .f64 4 0], .agg #[.complex .f64 5 0, .complex .f64 6 0, .complex .f64 7 0]] (.tuple #[.agg #[.int .u8 0, .int .i64 0, .string ⟨#[]⟩], .int .i64 16]) rfl rfl ⟨⟨rfl, congrArg (fun z => some (Value.bool z)) h0⟩, ⟨rfl, congrArg (fun z => some (Value.bool z)) h1⟩, ⟨rfl, congrArg (fun z => some (Value.bool z)) h2⟩, ⟨rfl, congrArg (fun z => some (Value.bool z)) h3⟩, ⟨rfl, congrArg (fun z => some (Value.bool z)) h4⟩, ⟨rfl, congrArg (fun z => some (Value.bool z)) h5⟩, ⟨rfl, congrArg (fun z => some (Value.bool z)) h6⟩, ⟨rfl, congrArg (fun z => some (Value.bool z)) h7⟩, ⟨rfl, congrArg (fun z => some (Value.bool z)) h8⟩, ⟨rfl, congrArg (fun z => some (Value.bool z)) h9⟩, ⟨rfl, congrArg (fun z => some (Value.bool z)) h10⟩, ⟨rfl, congrArg (fun z => some (Value.bool z)) h11⟩, ⟨rfl, congrArg (fun z => some (Value.bool z)) h12⟩, trivial⟩ trivial trivial (by kernel_rfl) rfl rfl w hL⟩
theorem two_dead165 (o ka na : Int) (sa : ByteArray) (kb nb : Int) (sb : ByteArray) (ha : sa.data.size ≤ 300) (hb : sb.data.size ≤ 300) (h0 : (o == 9) = false) (h1 : (o == 10) = false) (h2 : (o == 11) = false) (h3 : (o == 14) = false) (h4 : (o == 12) = false) (h5 : (o == 13) = false) (h6 : (ka == 2) = false) (h7 : (ka == 3) = true) (h8 : (kb == 3) = true) (h9 : (o != 9) = true) (h10 : (o != 10) = true) (h11 : (o != 11) = true) (h12 : (o != 14) = false) : False := by
  simp only [decide_eq_true_eq, decide_eq_false_iff_not, beq_iff_eq, bne_iff_ne, ne_eq, beq_eq_false_iff_ne, bne_eq_false_iff_eq] at *; first | omega | simp_all
theorem two_dead166 (o ka na : Int) (sa : ByteArray) (kb nb : Int) (sb : ByteArray) (ha : sa.data.size ≤ 300) (hb : sb.data.size ≤ 300) (h0 : (o == 9) = false) (h1 : (o == 10) = false) (h2 : (o == 11) = false) (h3 : (o == 14) = false) (h4 : (o == 12) = false) (h5 : (o == 13) = false) (h6 : (ka == 2) = false) (h7 : (ka == 3) = true) (h8 : (kb == 3) = true) (h9 : (o != 9) = true) (h10 : (o != 10) = true) (h11 : (o != 11) = false) : False := by
  simp only [decide_eq_true_eq, decide_eq_false_iff_not, beq_iff_eq, bne_iff_ne, ne_eq, beq_eq_false_iff_ne, bne_eq_false_iff_eq] at *; first | omega | simp_all
theorem two_dead167 (o ka na : Int) (sa : ByteArray) (kb nb : Int) (sb : ByteArray) (ha : sa.data.size ≤ 300) (hb : sb.data.size ≤ 300) (h0 : (o == 9) = false) (h1 : (o == 10) = false) (h2 : (o == 11) = false) (h3 : (o == 14) = false) (h4 : (o == 12) = false) (h5 : (o == 13) = false) (h6 : (ka == 2) = false) (h7 : (ka == 3) = true) (h8 : (kb == 3) = true) (h9 : (o != 9) = true) (h10 : (o != 10) = false) : False := by
  simp only [decide_eq_true_eq, decide_eq_false_iff_not, beq_iff_eq, bne_iff_ne, ne_eq, beq_eq_false_iff_ne, bne_eq_false_iff_eq] at *; first | omega | simp_all
theorem two_dead168 (o ka na : Int) (sa : ByteArray) (kb nb : Int) (sb : ByteArray) (ha : sa.data.size ≤ 300) (hb : sb.data.size ≤ 300) (h0 : (o == 9) = false) (h1 : (o == 10) = false) (h2 : (o == 11) = false) (h3 : (o == 14) = false) (h4 : (o == 12) = false) (h5 : (o == 13) = false) (h6 : (ka == 2) = false) (h7 : (ka == 3) = true) (h8 : (kb == 3) = true) (h9 : (o != 9) = false) : False := by
  simp only [decide_eq_true_eq, decide_eq_false_iff_not, beq_iff_eq, bne_iff_ne, ne_eq, beq_eq_false_iff_ne, bne_eq_false_iff_eq] at *; first | omega | simp_all
theorem two_51 (o ka na : Int) (sa : ByteArray) (kb nb : Int) (sb : ByteArray) (ha : sa.data.size ≤ 300) (hb : sb.data.size ≤ 300) (h0 : (o == 9) = false) (h1 : (o == 10) = false) (h2 : (o == 11) = false) (h3 : (o == 14) = false) (h4 : (o == 12) = false) (h5 : (o == 13) = false) (h6 : (ka == 2) = false) (h7 : (ka == 3) = true) (h8 : (kb == 3) = false) (h9 : (o != 9) = true) (h10 : (o != 10) = true) (h11 : (o != 11) = true) (h12 : (o != 14) = true) : ∃ (x0 : Int) (x1 : Int) (x2 : ByteArray) (x3 : Int), (∀ w, Laid w → Calls Tryz.prog 21 #[.int .u8 o, .agg #[.int .u8 ka, .int .i64 na, .string sa], .agg #[.int .u8 kb, .int .i64 nb, .string sb]] w fun e w' => e = .returned (.tuple #[.agg #[.int .u8 x0, .int .i64 x1, .string x2], .int .i64 x3]) ∧ Below w.heap.size w w') ∧ (∀ w, Laid w → Calls Tryz.prog 22 #[.int .u8 o, .agg #[.int .u8 ka, .int .i64 na, .string sa], .agg #[.int .u8 kb, .int .i64 nb, .string sb]] w fun e w' => e = .returned (.tuple #[.agg #[.int .u8 x0, .int .i64 x1, .string x2], .int .i64 x3]) ∧ Below w.heap.size w w') :=
  ⟨0, 0, (⟨#[]⟩ : ByteArray), 16, fun w hL => tab [.int .u8 o, .int .u8 ka, .int .i64 na, .string sa, .int .u8 kb, .int .i64 nb, .string sb] [2, 2, 2, 3, 2, 2, 3] [(.bin .eql 43, [.complex .f64 1 0, .int .u8 9], .bool false), (.bin .eql 43, [.complex .f64 1 0, .int .u8 10], .bool false), (.bin .eql 43, [.complex .f64 1 0, .int .u8 11], .bool false), (.bin .eql 43, [.complex .f64 1 0, .int .u8 14], .bool false), (.bin .eql 43, [.complex .f64 1 0, .int .u8 12], .bool false), (.bin .eql 43, [.complex .f64 1 0, .int .u8 13], .bool false), (.bin .eql 50, [.complex .f64 2 0, .int .u8 2], .bool false), (.bin .eql 50, [.complex .f64 2 0, .int .u8 3], .bool true), (.bin .eql 50, [.complex .f64 5 0, .int .u8 3], .bool false), (.bin .neq 43, [.complex .f64 1 0, .int .u8 9], .bool true), (.bin .neq 43, [.complex .f64 1 0, .int .u8 10], .bool true), (.bin .neq 43, [.complex .f64 1 0, .int .u8 11], .bool true), (.bin .neq 43, [.complex .f64 1 0, .int .u8 14], .bool true)] [] [] 21 [.complex .f64 1 0, .agg #[.complex .f64 2 0, .complex .f64 3 0, .complex .f64 4 0], .agg #[.complex .f64 5 0, .complex .f64 6 0, .complex .f64 7 0]] (.tuple #[.agg #[.int .u8 0, .int .i64 0, .string ⟨#[]⟩], .int .i64 16]) rfl rfl ⟨⟨rfl, congrArg (fun z => some (Value.bool z)) h0⟩, ⟨rfl, congrArg (fun z => some (Value.bool z)) h1⟩, ⟨rfl, congrArg (fun z => some (Value.bool z)) h2⟩, ⟨rfl, congrArg (fun z => some (Value.bool z)) h3⟩, ⟨rfl, congrArg (fun z => some (Value.bool z)) h4⟩, ⟨rfl, congrArg (fun z => some (Value.bool z)) h5⟩, ⟨rfl, congrArg (fun z => some (Value.bool z)) h6⟩, ⟨rfl, congrArg (fun z => some (Value.bool z)) h7⟩, ⟨rfl, congrArg (fun z => some (Value.bool z)) h8⟩, ⟨rfl, congrArg (fun z => some (Value.bool z)) h9⟩, ⟨rfl, congrArg (fun z => some (Value.bool z)) h10⟩, ⟨rfl, congrArg (fun z => some (Value.bool z)) h11⟩, ⟨rfl, congrArg (fun z => some (Value.bool z)) h12⟩, trivial⟩ trivial trivial (by kernel_rfl) rfl rfl w hL,
  fun w hL => tab [.int .u8 o, .int .u8 ka, .int .i64 na, .string sa, .int .u8 kb, .int .i64 nb, .string sb] [2, 2, 2, 3, 2, 2, 3] [(.bin .eql 43, [.complex .f64 1 0, .int .u8 9], .bool false), (.bin .eql 43, [.complex .f64 1 0, .int .u8 10], .bool false), (.bin .eql 43, [.complex .f64 1 0, .int .u8 11], .bool false), (.bin .eql 43, [.complex .f64 1 0, .int .u8 14], .bool false), (.bin .eql 43, [.complex .f64 1 0, .int .u8 12], .bool false), (.bin .eql 43, [.complex .f64 1 0, .int .u8 13], .bool false), (.bin .eql 50, [.complex .f64 2 0, .int .u8 2], .bool false), (.bin .eql 50, [.complex .f64 2 0, .int .u8 3], .bool true), (.bin .eql 50, [.complex .f64 5 0, .int .u8 3], .bool false), (.bin .neq 43, [.complex .f64 1 0, .int .u8 9], .bool true), (.bin .neq 43, [.complex .f64 1 0, .int .u8 10], .bool true), (.bin .neq 43, [.complex .f64 1 0, .int .u8 11], .bool true), (.bin .neq 43, [.complex .f64 1 0, .int .u8 14], .bool true)] [] [] 22 [.complex .f64 1 0, .agg #[.complex .f64 2 0, .complex .f64 3 0, .complex .f64 4 0], .agg #[.complex .f64 5 0, .complex .f64 6 0, .complex .f64 7 0]] (.tuple #[.agg #[.int .u8 0, .int .i64 0, .string ⟨#[]⟩], .int .i64 16]) rfl rfl ⟨⟨rfl, congrArg (fun z => some (Value.bool z)) h0⟩, ⟨rfl, congrArg (fun z => some (Value.bool z)) h1⟩, ⟨rfl, congrArg (fun z => some (Value.bool z)) h2⟩, ⟨rfl, congrArg (fun z => some (Value.bool z)) h3⟩, ⟨rfl, congrArg (fun z => some (Value.bool z)) h4⟩, ⟨rfl, congrArg (fun z => some (Value.bool z)) h5⟩, ⟨rfl, congrArg (fun z => some (Value.bool z)) h6⟩, ⟨rfl, congrArg (fun z => some (Value.bool z)) h7⟩, ⟨rfl, congrArg (fun z => some (Value.bool z)) h8⟩, ⟨rfl, congrArg (fun z => some (Value.bool z)) h9⟩, ⟨rfl, congrArg (fun z => some (Value.bool z)) h10⟩, ⟨rfl, congrArg (fun z => some (Value.bool z)) h11⟩, ⟨rfl, congrArg (fun z => some (Value.bool z)) h12⟩, trivial⟩ trivial trivial (by kernel_rfl) rfl rfl w hL⟩
theorem two_dead169 (o ka na : Int) (sa : ByteArray) (kb nb : Int) (sb : ByteArray) (ha : sa.data.size ≤ 300) (hb : sb.data.size ≤ 300) (h0 : (o == 9) = false) (h1 : (o == 10) = false) (h2 : (o == 11) = false) (h3 : (o == 14) = false) (h4 : (o == 12) = false) (h5 : (o == 13) = false) (h6 : (ka == 2) = false) (h7 : (ka == 3) = true) (h8 : (kb == 3) = false) (h9 : (o != 9) = true) (h10 : (o != 10) = true) (h11 : (o != 11) = true) (h12 : (o != 14) = false) : False := by
  simp only [decide_eq_true_eq, decide_eq_false_iff_not, beq_iff_eq, bne_iff_ne, ne_eq, beq_eq_false_iff_ne, bne_eq_false_iff_eq] at *; first | omega | simp_all
theorem two_dead170 (o ka na : Int) (sa : ByteArray) (kb nb : Int) (sb : ByteArray) (ha : sa.data.size ≤ 300) (hb : sb.data.size ≤ 300) (h0 : (o == 9) = false) (h1 : (o == 10) = false) (h2 : (o == 11) = false) (h3 : (o == 14) = false) (h4 : (o == 12) = false) (h5 : (o == 13) = false) (h6 : (ka == 2) = false) (h7 : (ka == 3) = true) (h8 : (kb == 3) = false) (h9 : (o != 9) = true) (h10 : (o != 10) = true) (h11 : (o != 11) = false) : False := by
  simp only [decide_eq_true_eq, decide_eq_false_iff_not, beq_iff_eq, bne_iff_ne, ne_eq, beq_eq_false_iff_ne, bne_eq_false_iff_eq] at *; first | omega | simp_all
theorem two_dead171 (o ka na : Int) (sa : ByteArray) (kb nb : Int) (sb : ByteArray) (ha : sa.data.size ≤ 300) (hb : sb.data.size ≤ 300) (h0 : (o == 9) = false) (h1 : (o == 10) = false) (h2 : (o == 11) = false) (h3 : (o == 14) = false) (h4 : (o == 12) = false) (h5 : (o == 13) = false) (h6 : (ka == 2) = false) (h7 : (ka == 3) = true) (h8 : (kb == 3) = false) (h9 : (o != 9) = true) (h10 : (o != 10) = false) : False := by
  simp only [decide_eq_true_eq, decide_eq_false_iff_not, beq_iff_eq, bne_iff_ne, ne_eq, beq_eq_false_iff_ne, bne_eq_false_iff_eq] at *; first | omega | simp_all
theorem two_dead172 (o ka na : Int) (sa : ByteArray) (kb nb : Int) (sb : ByteArray) (ha : sa.data.size ≤ 300) (hb : sb.data.size ≤ 300) (h0 : (o == 9) = false) (h1 : (o == 10) = false) (h2 : (o == 11) = false) (h3 : (o == 14) = false) (h4 : (o == 12) = false) (h5 : (o == 13) = false) (h6 : (ka == 2) = false) (h7 : (ka == 3) = true) (h8 : (kb == 3) = false) (h9 : (o != 9) = false) : False := by
  simp only [decide_eq_true_eq, decide_eq_false_iff_not, beq_iff_eq, bne_iff_ne, ne_eq, beq_eq_false_iff_ne, bne_eq_false_iff_eq] at *; first | omega | simp_all
theorem two_52 (o ka na : Int) (sa : ByteArray) (kb nb : Int) (sb : ByteArray) (ha : sa.data.size ≤ 300) (hb : sb.data.size ≤ 300) (h0 : (o == 9) = false) (h1 : (o == 10) = false) (h2 : (o == 11) = false) (h3 : (o == 14) = false) (h4 : (o == 12) = false) (h5 : (o == 13) = false) (h6 : (ka == 2) = false) (h7 : (ka == 3) = false) (h8 : (o != 9) = true) (h9 : (o != 10) = true) (h10 : (o != 11) = true) (h11 : (o != 14) = true) : ∃ (x0 : Int) (x1 : Int) (x2 : ByteArray) (x3 : Int), (∀ w, Laid w → Calls Tryz.prog 21 #[.int .u8 o, .agg #[.int .u8 ka, .int .i64 na, .string sa], .agg #[.int .u8 kb, .int .i64 nb, .string sb]] w fun e w' => e = .returned (.tuple #[.agg #[.int .u8 x0, .int .i64 x1, .string x2], .int .i64 x3]) ∧ Below w.heap.size w w') ∧ (∀ w, Laid w → Calls Tryz.prog 22 #[.int .u8 o, .agg #[.int .u8 ka, .int .i64 na, .string sa], .agg #[.int .u8 kb, .int .i64 nb, .string sb]] w fun e w' => e = .returned (.tuple #[.agg #[.int .u8 x0, .int .i64 x1, .string x2], .int .i64 x3]) ∧ Below w.heap.size w w') :=
  ⟨0, 0, (⟨#[]⟩ : ByteArray), 16, fun w hL => tab [.int .u8 o, .int .u8 ka, .int .i64 na, .string sa, .int .u8 kb, .int .i64 nb, .string sb] [2, 2, 2, 3, 2, 2, 3] [(.bin .eql 43, [.complex .f64 1 0, .int .u8 9], .bool false), (.bin .eql 43, [.complex .f64 1 0, .int .u8 10], .bool false), (.bin .eql 43, [.complex .f64 1 0, .int .u8 11], .bool false), (.bin .eql 43, [.complex .f64 1 0, .int .u8 14], .bool false), (.bin .eql 43, [.complex .f64 1 0, .int .u8 12], .bool false), (.bin .eql 43, [.complex .f64 1 0, .int .u8 13], .bool false), (.bin .eql 50, [.complex .f64 2 0, .int .u8 2], .bool false), (.bin .eql 50, [.complex .f64 2 0, .int .u8 3], .bool false), (.bin .neq 43, [.complex .f64 1 0, .int .u8 9], .bool true), (.bin .neq 43, [.complex .f64 1 0, .int .u8 10], .bool true), (.bin .neq 43, [.complex .f64 1 0, .int .u8 11], .bool true), (.bin .neq 43, [.complex .f64 1 0, .int .u8 14], .bool true)] [] [] 21 [.complex .f64 1 0, .agg #[.complex .f64 2 0, .complex .f64 3 0, .complex .f64 4 0], .agg #[.complex .f64 5 0, .complex .f64 6 0, .complex .f64 7 0]] (.tuple #[.agg #[.int .u8 0, .int .i64 0, .string ⟨#[]⟩], .int .i64 16]) rfl rfl ⟨⟨rfl, congrArg (fun z => some (Value.bool z)) h0⟩, ⟨rfl, congrArg (fun z => some (Value.bool z)) h1⟩, ⟨rfl, congrArg (fun z => some (Value.bool z)) h2⟩, ⟨rfl, congrArg (fun z => some (Value.bool z)) h3⟩, ⟨rfl, congrArg (fun z => some (Value.bool z)) h4⟩, ⟨rfl, congrArg (fun z => some (Value.bool z)) h5⟩, ⟨rfl, congrArg (fun z => some (Value.bool z)) h6⟩, ⟨rfl, congrArg (fun z => some (Value.bool z)) h7⟩, ⟨rfl, congrArg (fun z => some (Value.bool z)) h8⟩, ⟨rfl, congrArg (fun z => some (Value.bool z)) h9⟩, ⟨rfl, congrArg (fun z => some (Value.bool z)) h10⟩, ⟨rfl, congrArg (fun z => some (Value.bool z)) h11⟩, trivial⟩ trivial trivial (by kernel_rfl) rfl rfl w hL,
  fun w hL => tab [.int .u8 o, .int .u8 ka, .int .i64 na, .string sa, .int .u8 kb, .int .i64 nb, .string sb] [2, 2, 2, 3, 2, 2, 3] [(.bin .eql 43, [.complex .f64 1 0, .int .u8 9], .bool false), (.bin .eql 43, [.complex .f64 1 0, .int .u8 10], .bool false), (.bin .eql 43, [.complex .f64 1 0, .int .u8 11], .bool false), (.bin .eql 43, [.complex .f64 1 0, .int .u8 14], .bool false), (.bin .eql 43, [.complex .f64 1 0, .int .u8 12], .bool false), (.bin .eql 43, [.complex .f64 1 0, .int .u8 13], .bool false), (.bin .eql 50, [.complex .f64 2 0, .int .u8 2], .bool false), (.bin .eql 50, [.complex .f64 2 0, .int .u8 3], .bool false), (.bin .neq 43, [.complex .f64 1 0, .int .u8 9], .bool true), (.bin .neq 43, [.complex .f64 1 0, .int .u8 10], .bool true), (.bin .neq 43, [.complex .f64 1 0, .int .u8 11], .bool true), (.bin .neq 43, [.complex .f64 1 0, .int .u8 14], .bool true)] [] [] 22 [.complex .f64 1 0, .agg #[.complex .f64 2 0, .complex .f64 3 0, .complex .f64 4 0], .agg #[.complex .f64 5 0, .complex .f64 6 0, .complex .f64 7 0]] (.tuple #[.agg #[.int .u8 0, .int .i64 0, .string ⟨#[]⟩], .int .i64 16]) rfl rfl ⟨⟨rfl, congrArg (fun z => some (Value.bool z)) h0⟩, ⟨rfl, congrArg (fun z => some (Value.bool z)) h1⟩, ⟨rfl, congrArg (fun z => some (Value.bool z)) h2⟩, ⟨rfl, congrArg (fun z => some (Value.bool z)) h3⟩, ⟨rfl, congrArg (fun z => some (Value.bool z)) h4⟩, ⟨rfl, congrArg (fun z => some (Value.bool z)) h5⟩, ⟨rfl, congrArg (fun z => some (Value.bool z)) h6⟩, ⟨rfl, congrArg (fun z => some (Value.bool z)) h7⟩, ⟨rfl, congrArg (fun z => some (Value.bool z)) h8⟩, ⟨rfl, congrArg (fun z => some (Value.bool z)) h9⟩, ⟨rfl, congrArg (fun z => some (Value.bool z)) h10⟩, ⟨rfl, congrArg (fun z => some (Value.bool z)) h11⟩, trivial⟩ trivial trivial (by kernel_rfl) rfl rfl w hL⟩
theorem two_dead173 (o ka na : Int) (sa : ByteArray) (kb nb : Int) (sb : ByteArray) (ha : sa.data.size ≤ 300) (hb : sb.data.size ≤ 300) (h0 : (o == 9) = false) (h1 : (o == 10) = false) (h2 : (o == 11) = false) (h3 : (o == 14) = false) (h4 : (o == 12) = false) (h5 : (o == 13) = false) (h6 : (ka == 2) = false) (h7 : (ka == 3) = false) (h8 : (o != 9) = true) (h9 : (o != 10) = true) (h10 : (o != 11) = true) (h11 : (o != 14) = false) : False := by
  simp only [decide_eq_true_eq, decide_eq_false_iff_not, beq_iff_eq, bne_iff_ne, ne_eq, beq_eq_false_iff_ne, bne_eq_false_iff_eq] at *; first | omega | simp_all
theorem two_dead174 (o ka na : Int) (sa : ByteArray) (kb nb : Int) (sb : ByteArray) (ha : sa.data.size ≤ 300) (hb : sb.data.size ≤ 300) (h0 : (o == 9) = false) (h1 : (o == 10) = false) (h2 : (o == 11) = false) (h3 : (o == 14) = false) (h4 : (o == 12) = false) (h5 : (o == 13) = false) (h6 : (ka == 2) = false) (h7 : (ka == 3) = false) (h8 : (o != 9) = true) (h9 : (o != 10) = true) (h10 : (o != 11) = false) : False := by
  simp only [decide_eq_true_eq, decide_eq_false_iff_not, beq_iff_eq, bne_iff_ne, ne_eq, beq_eq_false_iff_ne, bne_eq_false_iff_eq] at *; first | omega | simp_all
theorem two_dead175 (o ka na : Int) (sa : ByteArray) (kb nb : Int) (sb : ByteArray) (ha : sa.data.size ≤ 300) (hb : sb.data.size ≤ 300) (h0 : (o == 9) = false) (h1 : (o == 10) = false) (h2 : (o == 11) = false) (h3 : (o == 14) = false) (h4 : (o == 12) = false) (h5 : (o == 13) = false) (h6 : (ka == 2) = false) (h7 : (ka == 3) = false) (h8 : (o != 9) = true) (h9 : (o != 10) = false) : False := by
  simp only [decide_eq_true_eq, decide_eq_false_iff_not, beq_iff_eq, bne_iff_ne, ne_eq, beq_eq_false_iff_ne, bne_eq_false_iff_eq] at *; first | omega | simp_all
theorem two_dead176 (o ka na : Int) (sa : ByteArray) (kb nb : Int) (sb : ByteArray) (ha : sa.data.size ≤ 300) (hb : sb.data.size ≤ 300) (h0 : (o == 9) = false) (h1 : (o == 10) = false) (h2 : (o == 11) = false) (h3 : (o == 14) = false) (h4 : (o == 12) = false) (h5 : (o == 13) = false) (h6 : (ka == 2) = false) (h7 : (ka == 3) = false) (h8 : (o != 9) = false) : False := by
  simp only [decide_eq_true_eq, decide_eq_false_iff_not, beq_iff_eq, bne_iff_ne, ne_eq, beq_eq_false_iff_ne, bne_eq_false_iff_eq] at *; first | omega | simp_all
theorem two (o ka na : Int) (sa : ByteArray) (kb nb : Int) (sb : ByteArray) (ha : sa.data.size ≤ 300) (hb : sb.data.size ≤ 300) : ∃ (x0 : Int) (x1 : Int) (x2 : ByteArray) (x3 : Int), (∀ w, Laid w → Calls Tryz.prog 21 #[.int .u8 o, .agg #[.int .u8 ka, .int .i64 na, .string sa], .agg #[.int .u8 kb, .int .i64 nb, .string sb]] w fun e w' => e = .returned (.tuple #[.agg #[.int .u8 x0, .int .i64 x1, .string x2], .int .i64 x3]) ∧ Below w.heap.size w w') ∧ (∀ w, Laid w → Calls Tryz.prog 22 #[.int .u8 o, .agg #[.int .u8 ka, .int .i64 na, .string sa], .agg #[.int .u8 kb, .int .i64 nb, .string sb]] w fun e w' => e = .returned (.tuple #[.agg #[.int .u8 x0, .int .i64 x1, .string x2], .int .i64 x3]) ∧ Below w.heap.size w w') := by
  rcases Bool.eq_false_or_eq_true ((o == 9)) with h0 | h0
  · rcases Bool.eq_false_or_eq_true ((ka == 2)) with h1 | h1
    · rcases Bool.eq_false_or_eq_true ((kb == 2)) with h2 | h2
      · rcases Bool.eq_false_or_eq_true ((ka == 3)) with h3 | h3
        · exact (two_dead1 o ka na sa kb nb sb ha hb h0 h1 h2 h3).elim
        · rcases Bool.eq_false_or_eq_true ((o == 12)) with h4 | h4
          · exact (two_dead2 o ka na sa kb nb sb ha hb h0 h1 h2 h3 h4).elim
          · rcases Bool.eq_false_or_eq_true ((o == 13)) with h5 | h5
            · exact (two_dead3 o ka na sa kb nb sb ha hb h0 h1 h2 h3 h4 h5).elim
            · rcases Bool.eq_false_or_eq_true ((o == 14)) with h6 | h6
              · exact (two_dead4 o ka na sa kb nb sb ha hb h0 h1 h2 h3 h4 h5 h6).elim
              · rcases Bool.eq_false_or_eq_true ((o != 9)) with h7 | h7
                · exact (two_dead5 o ka na sa kb nb sb ha hb h0 h1 h2 h3 h4 h5 h6 h7).elim
                · rcases Bool.eq_false_or_eq_true ((o == 10)) with h8 | h8
                  · exact (two_dead6 o ka na sa kb nb sb ha hb h0 h1 h2 h3 h4 h5 h6 h7 h8).elim
                  · rcases Bool.eq_false_or_eq_true ((o == 11)) with h9 | h9
                    · exact (two_dead7 o ka na sa kb nb sb ha hb h0 h1 h2 h3 h4 h5 h6 h7 h8 h9).elim
                    · exact two_1 o ka na sa kb nb sb ha hb h0 h1 h2 h3 h4 h5 h6 h7 h8 h9
      · rcases Bool.eq_false_or_eq_true ((ka != 3)) with h3 | h3
        · rcases Bool.eq_false_or_eq_true ((ka == 3)) with h4 | h4
          · exact (two_dead8 o ka na sa kb nb sb ha hb h0 h1 h2 h3 h4).elim
          · rcases Bool.eq_false_or_eq_true ((o == 12)) with h5 | h5
            · exact (two_dead9 o ka na sa kb nb sb ha hb h0 h1 h2 h3 h4 h5).elim
            · rcases Bool.eq_false_or_eq_true ((o == 13)) with h6 | h6
              · exact (two_dead10 o ka na sa kb nb sb ha hb h0 h1 h2 h3 h4 h5 h6).elim
              · rcases Bool.eq_false_or_eq_true ((o == 14)) with h7 | h7
                · exact (two_dead11 o ka na sa kb nb sb ha hb h0 h1 h2 h3 h4 h5 h6 h7).elim
                · rcases Bool.eq_false_or_eq_true ((o != 9)) with h8 | h8
                  · exact (two_dead12 o ka na sa kb nb sb ha hb h0 h1 h2 h3 h4 h5 h6 h7 h8).elim
                  · exact two_2 o ka na sa kb nb sb ha hb h0 h1 h2 h3 h4 h5 h6 h7 h8
        · exact (two_dead13 o ka na sa kb nb sb ha hb h0 h1 h2 h3).elim
    · rcases Bool.eq_false_or_eq_true ((ka != 3)) with h2 | h2
      · rcases Bool.eq_false_or_eq_true ((ka == 3)) with h3 | h3
        · exact (two_dead14 o ka na sa kb nb sb ha hb h0 h1 h2 h3).elim
        · rcases Bool.eq_false_or_eq_true ((o == 12)) with h4 | h4
          · exact (two_dead15 o ka na sa kb nb sb ha hb h0 h1 h2 h3 h4).elim
          · rcases Bool.eq_false_or_eq_true ((o == 13)) with h5 | h5
            · exact (two_dead16 o ka na sa kb nb sb ha hb h0 h1 h2 h3 h4 h5).elim
            · rcases Bool.eq_false_or_eq_true ((o == 14)) with h6 | h6
              · exact (two_dead17 o ka na sa kb nb sb ha hb h0 h1 h2 h3 h4 h5 h6).elim
              · rcases Bool.eq_false_or_eq_true ((o != 9)) with h7 | h7
                · exact (two_dead18 o ka na sa kb nb sb ha hb h0 h1 h2 h3 h4 h5 h6 h7).elim
                · exact two_3 o ka na sa kb nb sb ha hb h0 h1 h2 h3 h4 h5 h6 h7
      · rcases Bool.eq_false_or_eq_true ((kb != 3)) with h3 | h3
        · rcases Bool.eq_false_or_eq_true ((ka == 3)) with h4 | h4
          · rcases Bool.eq_false_or_eq_true ((kb == 3)) with h5 | h5
            · exact (two_dead19 o ka na sa kb nb sb ha hb h0 h1 h2 h3 h4 h5).elim
            · rcases Bool.eq_false_or_eq_true ((o == 12)) with h6 | h6
              · exact (two_dead20 o ka na sa kb nb sb ha hb h0 h1 h2 h3 h4 h5 h6).elim
              · rcases Bool.eq_false_or_eq_true ((o == 13)) with h7 | h7
                · exact (two_dead21 o ka na sa kb nb sb ha hb h0 h1 h2 h3 h4 h5 h6 h7).elim
                · rcases Bool.eq_false_or_eq_true ((o == 14)) with h8 | h8
                  · exact (two_dead22 o ka na sa kb nb sb ha hb h0 h1 h2 h3 h4 h5 h6 h7 h8).elim
                  · rcases Bool.eq_false_or_eq_true ((o != 9)) with h9 | h9
                    · exact (two_dead23 o ka na sa kb nb sb ha hb h0 h1 h2 h3 h4 h5 h6 h7 h8 h9).elim
                    · exact two_4 o ka na sa kb nb sb ha hb h0 h1 h2 h3 h4 h5 h6 h7 h8 h9
          · exact (two_dead24 o ka na sa kb nb sb ha hb h0 h1 h2 h3 h4).elim
        · rcases Bool.eq_false_or_eq_true (decide (((wrapF .i64 ((((sa).data.size : Int)) + (((sb).data.size : Int))))) > 200)) with h4 | h4
          · rcases Bool.eq_false_or_eq_true ((ka == 3)) with h5 | h5
            · rcases Bool.eq_false_or_eq_true ((kb == 3)) with h6 | h6
              · rcases Bool.eq_false_or_eq_true ((o == 12)) with h7 | h7
                · exact (two_dead25 o ka na sa kb nb sb ha hb h0 h1 h2 h3 h4 h5 h6 h7).elim
                · rcases Bool.eq_false_or_eq_true ((o == 13)) with h8 | h8
                  · exact (two_dead26 o ka na sa kb nb sb ha hb h0 h1 h2 h3 h4 h5 h6 h7 h8).elim
                  · exact two_5 o ka na sa kb nb sb ha hb h0 h1 h2 h3 h4 h5 h6 h7 h8
              · exact (two_dead27 o ka na sa kb nb sb ha hb h0 h1 h2 h3 h4 h5 h6).elim
            · exact (two_dead28 o ka na sa kb nb sb ha hb h0 h1 h2 h3 h4 h5).elim
          · rcases Bool.eq_false_or_eq_true ((ka == 3)) with h5 | h5
            · rcases Bool.eq_false_or_eq_true ((kb == 3)) with h6 | h6
              · rcases Bool.eq_false_or_eq_true ((o == 12)) with h7 | h7
                · exact (two_dead29 o ka na sa kb nb sb ha hb h0 h1 h2 h3 h4 h5 h6 h7).elim
                · rcases Bool.eq_false_or_eq_true ((o == 13)) with h8 | h8
                  · exact (two_dead30 o ka na sa kb nb sb ha hb h0 h1 h2 h3 h4 h5 h6 h7 h8).elim
                  · exact two_6 o ka na sa kb nb sb ha hb h0 h1 h2 h3 h4 h5 h6 h7 h8
              · exact (two_dead31 o ka na sa kb nb sb ha hb h0 h1 h2 h3 h4 h5 h6).elim
            · exact (two_dead32 o ka na sa kb nb sb ha hb h0 h1 h2 h3 h4 h5).elim
  · rcases Bool.eq_false_or_eq_true ((o == 10)) with h1 | h1
    · rcases Bool.eq_false_or_eq_true ((ka != 2)) with h2 | h2
      · rcases Bool.eq_false_or_eq_true ((ka == 2)) with h3 | h3
        · exact (two_dead33 o ka na sa kb nb sb ha hb h0 h1 h2 h3).elim
        · rcases Bool.eq_false_or_eq_true ((ka == 3)) with h4 | h4
          · rcases Bool.eq_false_or_eq_true ((kb == 3)) with h5 | h5
            · rcases Bool.eq_false_or_eq_true ((o == 12)) with h6 | h6
              · exact (two_dead34 o ka na sa kb nb sb ha hb h0 h1 h2 h3 h4 h5 h6).elim
              · rcases Bool.eq_false_or_eq_true ((o == 13)) with h7 | h7
                · exact (two_dead35 o ka na sa kb nb sb ha hb h0 h1 h2 h3 h4 h5 h6 h7).elim
                · rcases Bool.eq_false_or_eq_true ((o == 14)) with h8 | h8
                  · exact (two_dead36 o ka na sa kb nb sb ha hb h0 h1 h2 h3 h4 h5 h6 h7 h8).elim
                  · rcases Bool.eq_false_or_eq_true ((o != 9)) with h9 | h9
                    · rcases Bool.eq_false_or_eq_true ((o != 10)) with h10 | h10
                      · exact (two_dead37 o ka na sa kb nb sb ha hb h0 h1 h2 h3 h4 h5 h6 h7 h8 h9 h10).elim
                      · exact two_7 o ka na sa kb nb sb ha hb h0 h1 h2 h3 h4 h5 h6 h7 h8 h9 h10
                    · exact (two_dead38 o ka na sa kb nb sb ha hb h0 h1 h2 h3 h4 h5 h6 h7 h8 h9).elim
            · rcases Bool.eq_false_or_eq_true ((o == 12)) with h6 | h6
              · exact (two_dead39 o ka na sa kb nb sb ha hb h0 h1 h2 h3 h4 h5 h6).elim
              · rcases Bool.eq_false_or_eq_true ((o == 13)) with h7 | h7
                · exact (two_dead40 o ka na sa kb nb sb ha hb h0 h1 h2 h3 h4 h5 h6 h7).elim
                · rcases Bool.eq_false_or_eq_true ((o == 14)) with h8 | h8
                  · exact (two_dead41 o ka na sa kb nb sb ha hb h0 h1 h2 h3 h4 h5 h6 h7 h8).elim
                  · rcases Bool.eq_false_or_eq_true ((o != 9)) with h9 | h9
                    · rcases Bool.eq_false_or_eq_true ((o != 10)) with h10 | h10
                      · exact (two_dead42 o ka na sa kb nb sb ha hb h0 h1 h2 h3 h4 h5 h6 h7 h8 h9 h10).elim
                      · exact two_8 o ka na sa kb nb sb ha hb h0 h1 h2 h3 h4 h5 h6 h7 h8 h9 h10
                    · exact (two_dead43 o ka na sa kb nb sb ha hb h0 h1 h2 h3 h4 h5 h6 h7 h8 h9).elim
          · rcases Bool.eq_false_or_eq_true ((o == 12)) with h5 | h5
            · exact (two_dead44 o ka na sa kb nb sb ha hb h0 h1 h2 h3 h4 h5).elim
            · rcases Bool.eq_false_or_eq_true ((o == 13)) with h6 | h6
              · exact (two_dead45 o ka na sa kb nb sb ha hb h0 h1 h2 h3 h4 h5 h6).elim
              · rcases Bool.eq_false_or_eq_true ((o == 14)) with h7 | h7
                · exact (two_dead46 o ka na sa kb nb sb ha hb h0 h1 h2 h3 h4 h5 h6 h7).elim
                · rcases Bool.eq_false_or_eq_true ((o != 9)) with h8 | h8
                  · rcases Bool.eq_false_or_eq_true ((o != 10)) with h9 | h9
                    · exact (two_dead47 o ka na sa kb nb sb ha hb h0 h1 h2 h3 h4 h5 h6 h7 h8 h9).elim
                    · exact two_9 o ka na sa kb nb sb ha hb h0 h1 h2 h3 h4 h5 h6 h7 h8 h9
                  · exact (two_dead48 o ka na sa kb nb sb ha hb h0 h1 h2 h3 h4 h5 h6 h7 h8).elim
      · rcases Bool.eq_false_or_eq_true ((kb != 2)) with h3 | h3
        · rcases Bool.eq_false_or_eq_true ((ka == 2)) with h4 | h4
          · rcases Bool.eq_false_or_eq_true ((kb == 2)) with h5 | h5
            · exact (two_dead49 o ka na sa kb nb sb ha hb h0 h1 h2 h3 h4 h5).elim
            · rcases Bool.eq_false_or_eq_true ((ka == 3)) with h6 | h6
              · exact (two_dead50 o ka na sa kb nb sb ha hb h0 h1 h2 h3 h4 h5 h6).elim
              · rcases Bool.eq_false_or_eq_true ((o == 12)) with h7 | h7
                · exact (two_dead51 o ka na sa kb nb sb ha hb h0 h1 h2 h3 h4 h5 h6 h7).elim
                · rcases Bool.eq_false_or_eq_true ((o == 13)) with h8 | h8
                  · exact (two_dead52 o ka na sa kb nb sb ha hb h0 h1 h2 h3 h4 h5 h6 h7 h8).elim
                  · rcases Bool.eq_false_or_eq_true ((o == 14)) with h9 | h9
                    · exact (two_dead53 o ka na sa kb nb sb ha hb h0 h1 h2 h3 h4 h5 h6 h7 h8 h9).elim
                    · rcases Bool.eq_false_or_eq_true ((o != 9)) with h10 | h10
                      · rcases Bool.eq_false_or_eq_true ((o != 10)) with h11 | h11
                        · exact (two_dead54 o ka na sa kb nb sb ha hb h0 h1 h2 h3 h4 h5 h6 h7 h8 h9 h10 h11).elim
                        · exact two_10 o ka na sa kb nb sb ha hb h0 h1 h2 h3 h4 h5 h6 h7 h8 h9 h10 h11
                      · exact (two_dead55 o ka na sa kb nb sb ha hb h0 h1 h2 h3 h4 h5 h6 h7 h8 h9 h10).elim
          · exact (two_dead56 o ka na sa kb nb sb ha hb h0 h1 h2 h3 h4).elim
        · rcases Bool.eq_false_or_eq_true ((ka == 2)) with h4 | h4
          · rcases Bool.eq_false_or_eq_true ((kb == 2)) with h5 | h5
            · rcases Bool.eq_false_or_eq_true ((ka == 3)) with h6 | h6
              · exact (two_dead57 o ka na sa kb nb sb ha hb h0 h1 h2 h3 h4 h5 h6).elim
              · rcases Bool.eq_false_or_eq_true ((o == 12)) with h7 | h7
                · exact (two_dead58 o ka na sa kb nb sb ha hb h0 h1 h2 h3 h4 h5 h6 h7).elim
                · rcases Bool.eq_false_or_eq_true ((o == 13)) with h8 | h8
                  · exact (two_dead59 o ka na sa kb nb sb ha hb h0 h1 h2 h3 h4 h5 h6 h7 h8).elim
                  · rcases Bool.eq_false_or_eq_true ((o == 14)) with h9 | h9
                    · exact (two_dead60 o ka na sa kb nb sb ha hb h0 h1 h2 h3 h4 h5 h6 h7 h8 h9).elim
                    · rcases Bool.eq_false_or_eq_true ((o != 9)) with h10 | h10
                      · rcases Bool.eq_false_or_eq_true ((o != 10)) with h11 | h11
                        · exact (two_dead61 o ka na sa kb nb sb ha hb h0 h1 h2 h3 h4 h5 h6 h7 h8 h9 h10 h11).elim
                        · exact two_11 o ka na sa kb nb sb ha hb h0 h1 h2 h3 h4 h5 h6 h7 h8 h9 h10 h11
                      · exact (two_dead62 o ka na sa kb nb sb ha hb h0 h1 h2 h3 h4 h5 h6 h7 h8 h9 h10).elim
            · exact (two_dead63 o ka na sa kb nb sb ha hb h0 h1 h2 h3 h4 h5).elim
          · exact (two_dead64 o ka na sa kb nb sb ha hb h0 h1 h2 h3 h4).elim
    · rcases Bool.eq_false_or_eq_true ((o == 11)) with h2 | h2
      · rcases Bool.eq_false_or_eq_true ((ka != 2)) with h3 | h3
        · rcases Bool.eq_false_or_eq_true ((ka == 2)) with h4 | h4
          · exact (two_dead65 o ka na sa kb nb sb ha hb h0 h1 h2 h3 h4).elim
          · rcases Bool.eq_false_or_eq_true ((ka == 3)) with h5 | h5
            · rcases Bool.eq_false_or_eq_true ((kb == 3)) with h6 | h6
              · rcases Bool.eq_false_or_eq_true ((o == 12)) with h7 | h7
                · exact (two_dead66 o ka na sa kb nb sb ha hb h0 h1 h2 h3 h4 h5 h6 h7).elim
                · rcases Bool.eq_false_or_eq_true ((o == 13)) with h8 | h8
                  · exact (two_dead67 o ka na sa kb nb sb ha hb h0 h1 h2 h3 h4 h5 h6 h7 h8).elim
                  · rcases Bool.eq_false_or_eq_true ((o == 14)) with h9 | h9
                    · exact (two_dead68 o ka na sa kb nb sb ha hb h0 h1 h2 h3 h4 h5 h6 h7 h8 h9).elim
                    · rcases Bool.eq_false_or_eq_true ((o != 9)) with h10 | h10
                      · rcases Bool.eq_false_or_eq_true ((o != 10)) with h11 | h11
                        · rcases Bool.eq_false_or_eq_true ((o != 11)) with h12 | h12
                          · exact (two_dead69 o ka na sa kb nb sb ha hb h0 h1 h2 h3 h4 h5 h6 h7 h8 h9 h10 h11 h12).elim
                          · exact two_12 o ka na sa kb nb sb ha hb h0 h1 h2 h3 h4 h5 h6 h7 h8 h9 h10 h11 h12
                        · exact (two_dead70 o ka na sa kb nb sb ha hb h0 h1 h2 h3 h4 h5 h6 h7 h8 h9 h10 h11).elim
                      · exact (two_dead71 o ka na sa kb nb sb ha hb h0 h1 h2 h3 h4 h5 h6 h7 h8 h9 h10).elim
              · rcases Bool.eq_false_or_eq_true ((o == 12)) with h7 | h7
                · exact (two_dead72 o ka na sa kb nb sb ha hb h0 h1 h2 h3 h4 h5 h6 h7).elim
                · rcases Bool.eq_false_or_eq_true ((o == 13)) with h8 | h8
                  · exact (two_dead73 o ka na sa kb nb sb ha hb h0 h1 h2 h3 h4 h5 h6 h7 h8).elim
                  · rcases Bool.eq_false_or_eq_true ((o == 14)) with h9 | h9
                    · exact (two_dead74 o ka na sa kb nb sb ha hb h0 h1 h2 h3 h4 h5 h6 h7 h8 h9).elim
                    · rcases Bool.eq_false_or_eq_true ((o != 9)) with h10 | h10
                      · rcases Bool.eq_false_or_eq_true ((o != 10)) with h11 | h11
                        · rcases Bool.eq_false_or_eq_true ((o != 11)) with h12 | h12
                          · exact (two_dead75 o ka na sa kb nb sb ha hb h0 h1 h2 h3 h4 h5 h6 h7 h8 h9 h10 h11 h12).elim
                          · exact two_13 o ka na sa kb nb sb ha hb h0 h1 h2 h3 h4 h5 h6 h7 h8 h9 h10 h11 h12
                        · exact (two_dead76 o ka na sa kb nb sb ha hb h0 h1 h2 h3 h4 h5 h6 h7 h8 h9 h10 h11).elim
                      · exact (two_dead77 o ka na sa kb nb sb ha hb h0 h1 h2 h3 h4 h5 h6 h7 h8 h9 h10).elim
            · rcases Bool.eq_false_or_eq_true ((o == 12)) with h6 | h6
              · exact (two_dead78 o ka na sa kb nb sb ha hb h0 h1 h2 h3 h4 h5 h6).elim
              · rcases Bool.eq_false_or_eq_true ((o == 13)) with h7 | h7
                · exact (two_dead79 o ka na sa kb nb sb ha hb h0 h1 h2 h3 h4 h5 h6 h7).elim
                · rcases Bool.eq_false_or_eq_true ((o == 14)) with h8 | h8
                  · exact (two_dead80 o ka na sa kb nb sb ha hb h0 h1 h2 h3 h4 h5 h6 h7 h8).elim
                  · rcases Bool.eq_false_or_eq_true ((o != 9)) with h9 | h9
                    · rcases Bool.eq_false_or_eq_true ((o != 10)) with h10 | h10
                      · rcases Bool.eq_false_or_eq_true ((o != 11)) with h11 | h11
                        · exact (two_dead81 o ka na sa kb nb sb ha hb h0 h1 h2 h3 h4 h5 h6 h7 h8 h9 h10 h11).elim
                        · exact two_14 o ka na sa kb nb sb ha hb h0 h1 h2 h3 h4 h5 h6 h7 h8 h9 h10 h11
                      · exact (two_dead82 o ka na sa kb nb sb ha hb h0 h1 h2 h3 h4 h5 h6 h7 h8 h9 h10).elim
                    · exact (two_dead83 o ka na sa kb nb sb ha hb h0 h1 h2 h3 h4 h5 h6 h7 h8 h9).elim
        · rcases Bool.eq_false_or_eq_true ((kb != 2)) with h4 | h4
          · rcases Bool.eq_false_or_eq_true ((ka == 2)) with h5 | h5
            · rcases Bool.eq_false_or_eq_true ((kb == 2)) with h6 | h6
              · exact (two_dead84 o ka na sa kb nb sb ha hb h0 h1 h2 h3 h4 h5 h6).elim
              · rcases Bool.eq_false_or_eq_true ((ka == 3)) with h7 | h7
                · exact (two_dead85 o ka na sa kb nb sb ha hb h0 h1 h2 h3 h4 h5 h6 h7).elim
                · rcases Bool.eq_false_or_eq_true ((o == 12)) with h8 | h8
                  · exact (two_dead86 o ka na sa kb nb sb ha hb h0 h1 h2 h3 h4 h5 h6 h7 h8).elim
                  · rcases Bool.eq_false_or_eq_true ((o == 13)) with h9 | h9
                    · exact (two_dead87 o ka na sa kb nb sb ha hb h0 h1 h2 h3 h4 h5 h6 h7 h8 h9).elim
                    · rcases Bool.eq_false_or_eq_true ((o == 14)) with h10 | h10
                      · exact (two_dead88 o ka na sa kb nb sb ha hb h0 h1 h2 h3 h4 h5 h6 h7 h8 h9 h10).elim
                      · rcases Bool.eq_false_or_eq_true ((o != 9)) with h11 | h11
                        · rcases Bool.eq_false_or_eq_true ((o != 10)) with h12 | h12
                          · rcases Bool.eq_false_or_eq_true ((o != 11)) with h13 | h13
                            · exact (two_dead89 o ka na sa kb nb sb ha hb h0 h1 h2 h3 h4 h5 h6 h7 h8 h9 h10 h11 h12 h13).elim
                            · exact two_15 o ka na sa kb nb sb ha hb h0 h1 h2 h3 h4 h5 h6 h7 h8 h9 h10 h11 h12 h13
                          · exact (two_dead90 o ka na sa kb nb sb ha hb h0 h1 h2 h3 h4 h5 h6 h7 h8 h9 h10 h11 h12).elim
                        · exact (two_dead91 o ka na sa kb nb sb ha hb h0 h1 h2 h3 h4 h5 h6 h7 h8 h9 h10 h11).elim
            · exact (two_dead92 o ka na sa kb nb sb ha hb h0 h1 h2 h3 h4 h5).elim
          · rcases Bool.eq_false_or_eq_true ((ka == 2)) with h5 | h5
            · rcases Bool.eq_false_or_eq_true ((kb == 2)) with h6 | h6
              · rcases Bool.eq_false_or_eq_true ((ka == 3)) with h7 | h7
                · exact (two_dead93 o ka na sa kb nb sb ha hb h0 h1 h2 h3 h4 h5 h6 h7).elim
                · rcases Bool.eq_false_or_eq_true ((o == 12)) with h8 | h8
                  · exact (two_dead94 o ka na sa kb nb sb ha hb h0 h1 h2 h3 h4 h5 h6 h7 h8).elim
                  · rcases Bool.eq_false_or_eq_true ((o == 13)) with h9 | h9
                    · exact (two_dead95 o ka na sa kb nb sb ha hb h0 h1 h2 h3 h4 h5 h6 h7 h8 h9).elim
                    · rcases Bool.eq_false_or_eq_true ((o == 14)) with h10 | h10
                      · exact (two_dead96 o ka na sa kb nb sb ha hb h0 h1 h2 h3 h4 h5 h6 h7 h8 h9 h10).elim
                      · rcases Bool.eq_false_or_eq_true ((o != 9)) with h11 | h11
                        · rcases Bool.eq_false_or_eq_true ((o != 10)) with h12 | h12
                          · rcases Bool.eq_false_or_eq_true ((o != 11)) with h13 | h13
                            · exact (two_dead97 o ka na sa kb nb sb ha hb h0 h1 h2 h3 h4 h5 h6 h7 h8 h9 h10 h11 h12 h13).elim
                            · exact two_16 o ka na sa kb nb sb ha hb h0 h1 h2 h3 h4 h5 h6 h7 h8 h9 h10 h11 h12 h13
                          · exact (two_dead98 o ka na sa kb nb sb ha hb h0 h1 h2 h3 h4 h5 h6 h7 h8 h9 h10 h11 h12).elim
                        · exact (two_dead99 o ka na sa kb nb sb ha hb h0 h1 h2 h3 h4 h5 h6 h7 h8 h9 h10 h11).elim
              · exact (two_dead100 o ka na sa kb nb sb ha hb h0 h1 h2 h3 h4 h5 h6).elim
            · exact (two_dead101 o ka na sa kb nb sb ha hb h0 h1 h2 h3 h4 h5).elim
      · rcases Bool.eq_false_or_eq_true ((o == 14)) with h3 | h3
        · rcases Bool.eq_false_or_eq_true ((ka == 2)) with h4 | h4
          · rcases Bool.eq_false_or_eq_true ((kb == 2)) with h5 | h5
            · rcases Bool.eq_false_or_eq_true (decide ((na) < nb)) with h6 | h6
              · rcases Bool.eq_false_or_eq_true ((ka == 3)) with h7 | h7
                · exact (two_dead102 o ka na sa kb nb sb ha hb h0 h1 h2 h3 h4 h5 h6 h7).elim
                · rcases Bool.eq_false_or_eq_true ((o == 12)) with h8 | h8
                  · exact (two_dead103 o ka na sa kb nb sb ha hb h0 h1 h2 h3 h4 h5 h6 h7 h8).elim
                  · rcases Bool.eq_false_or_eq_true ((o == 13)) with h9 | h9
                    · exact (two_dead104 o ka na sa kb nb sb ha hb h0 h1 h2 h3 h4 h5 h6 h7 h8 h9).elim
                    · exact two_17 o ka na sa kb nb sb ha hb h0 h1 h2 h3 h4 h5 h6 h7 h8 h9
              · rcases Bool.eq_false_or_eq_true ((ka == 3)) with h7 | h7
                · exact (two_dead105 o ka na sa kb nb sb ha hb h0 h1 h2 h3 h4 h5 h6 h7).elim
                · rcases Bool.eq_false_or_eq_true ((o == 12)) with h8 | h8
                  · exact (two_dead106 o ka na sa kb nb sb ha hb h0 h1 h2 h3 h4 h5 h6 h7 h8).elim
                  · rcases Bool.eq_false_or_eq_true ((o == 13)) with h9 | h9
                    · exact (two_dead107 o ka na sa kb nb sb ha hb h0 h1 h2 h3 h4 h5 h6 h7 h8 h9).elim
                    · exact two_18 o ka na sa kb nb sb ha hb h0 h1 h2 h3 h4 h5 h6 h7 h8 h9
            · rcases Bool.eq_false_or_eq_true ((ka == 3)) with h6 | h6
              · exact (two_dead108 o ka na sa kb nb sb ha hb h0 h1 h2 h3 h4 h5 h6).elim
              · rcases Bool.eq_false_or_eq_true ((o == 12)) with h7 | h7
                · exact (two_dead109 o ka na sa kb nb sb ha hb h0 h1 h2 h3 h4 h5 h6 h7).elim
                · rcases Bool.eq_false_or_eq_true ((o == 13)) with h8 | h8
                  · exact (two_dead110 o ka na sa kb nb sb ha hb h0 h1 h2 h3 h4 h5 h6 h7 h8).elim
                  · rcases Bool.eq_false_or_eq_true ((o != 9)) with h9 | h9
                    · rcases Bool.eq_false_or_eq_true ((o != 10)) with h10 | h10
                      · rcases Bool.eq_false_or_eq_true ((o != 11)) with h11 | h11
                        · rcases Bool.eq_false_or_eq_true ((o != 14)) with h12 | h12
                          · exact (two_dead111 o ka na sa kb nb sb ha hb h0 h1 h2 h3 h4 h5 h6 h7 h8 h9 h10 h11 h12).elim
                          · exact two_19 o ka na sa kb nb sb ha hb h0 h1 h2 h3 h4 h5 h6 h7 h8 h9 h10 h11 h12
                        · exact (two_dead112 o ka na sa kb nb sb ha hb h0 h1 h2 h3 h4 h5 h6 h7 h8 h9 h10 h11).elim
                      · exact (two_dead113 o ka na sa kb nb sb ha hb h0 h1 h2 h3 h4 h5 h6 h7 h8 h9 h10).elim
                    · exact (two_dead114 o ka na sa kb nb sb ha hb h0 h1 h2 h3 h4 h5 h6 h7 h8 h9).elim
          · rcases Bool.eq_false_or_eq_true ((ka == 3)) with h5 | h5
            · rcases Bool.eq_false_or_eq_true ((kb == 3)) with h6 | h6
              · rcases Bool.eq_false_or_eq_true (bytesLessF (sa).data.toList (sb).data.toList) with h7 | h7
                · rcases Bool.eq_false_or_eq_true ((o == 12)) with h8 | h8
                  · exact (two_dead115 o ka na sa kb nb sb ha hb h0 h1 h2 h3 h4 h5 h6 h7 h8).elim
                  · rcases Bool.eq_false_or_eq_true ((o == 13)) with h9 | h9
                    · exact (two_dead116 o ka na sa kb nb sb ha hb h0 h1 h2 h3 h4 h5 h6 h7 h8 h9).elim
                    · exact two_20 o ka na sa kb nb sb ha hb h0 h1 h2 h3 h4 h5 h6 h7 h8 h9
                · rcases Bool.eq_false_or_eq_true ((o == 12)) with h8 | h8
                  · exact (two_dead117 o ka na sa kb nb sb ha hb h0 h1 h2 h3 h4 h5 h6 h7 h8).elim
                  · rcases Bool.eq_false_or_eq_true ((o == 13)) with h9 | h9
                    · exact (two_dead118 o ka na sa kb nb sb ha hb h0 h1 h2 h3 h4 h5 h6 h7 h8 h9).elim
                    · exact two_21 o ka na sa kb nb sb ha hb h0 h1 h2 h3 h4 h5 h6 h7 h8 h9
              · rcases Bool.eq_false_or_eq_true ((o == 12)) with h7 | h7
                · exact (two_dead119 o ka na sa kb nb sb ha hb h0 h1 h2 h3 h4 h5 h6 h7).elim
                · rcases Bool.eq_false_or_eq_true ((o == 13)) with h8 | h8
                  · exact (two_dead120 o ka na sa kb nb sb ha hb h0 h1 h2 h3 h4 h5 h6 h7 h8).elim
                  · rcases Bool.eq_false_or_eq_true ((o != 9)) with h9 | h9
                    · rcases Bool.eq_false_or_eq_true ((o != 10)) with h10 | h10
                      · rcases Bool.eq_false_or_eq_true ((o != 11)) with h11 | h11
                        · rcases Bool.eq_false_or_eq_true ((o != 14)) with h12 | h12
                          · exact (two_dead121 o ka na sa kb nb sb ha hb h0 h1 h2 h3 h4 h5 h6 h7 h8 h9 h10 h11 h12).elim
                          · exact two_22 o ka na sa kb nb sb ha hb h0 h1 h2 h3 h4 h5 h6 h7 h8 h9 h10 h11 h12
                        · exact (two_dead122 o ka na sa kb nb sb ha hb h0 h1 h2 h3 h4 h5 h6 h7 h8 h9 h10 h11).elim
                      · exact (two_dead123 o ka na sa kb nb sb ha hb h0 h1 h2 h3 h4 h5 h6 h7 h8 h9 h10).elim
                    · exact (two_dead124 o ka na sa kb nb sb ha hb h0 h1 h2 h3 h4 h5 h6 h7 h8 h9).elim
            · rcases Bool.eq_false_or_eq_true ((o == 12)) with h6 | h6
              · exact (two_dead125 o ka na sa kb nb sb ha hb h0 h1 h2 h3 h4 h5 h6).elim
              · rcases Bool.eq_false_or_eq_true ((o == 13)) with h7 | h7
                · exact (two_dead126 o ka na sa kb nb sb ha hb h0 h1 h2 h3 h4 h5 h6 h7).elim
                · rcases Bool.eq_false_or_eq_true ((o != 9)) with h8 | h8
                  · rcases Bool.eq_false_or_eq_true ((o != 10)) with h9 | h9
                    · rcases Bool.eq_false_or_eq_true ((o != 11)) with h10 | h10
                      · rcases Bool.eq_false_or_eq_true ((o != 14)) with h11 | h11
                        · exact (two_dead127 o ka na sa kb nb sb ha hb h0 h1 h2 h3 h4 h5 h6 h7 h8 h9 h10 h11).elim
                        · exact two_23 o ka na sa kb nb sb ha hb h0 h1 h2 h3 h4 h5 h6 h7 h8 h9 h10 h11
                      · exact (two_dead128 o ka na sa kb nb sb ha hb h0 h1 h2 h3 h4 h5 h6 h7 h8 h9 h10).elim
                    · exact (two_dead129 o ka na sa kb nb sb ha hb h0 h1 h2 h3 h4 h5 h6 h7 h8 h9).elim
                  · exact (two_dead130 o ka na sa kb nb sb ha hb h0 h1 h2 h3 h4 h5 h6 h7 h8).elim
        · rcases Bool.eq_false_or_eq_true ((o == 12)) with h4 | h4
          · rcases Bool.eq_false_or_eq_true ((ka == kb)) with h5 | h5
            · rcases Bool.eq_false_or_eq_true ((na == nb)) with h6 | h6
              · rcases Bool.eq_false_or_eq_true (((sa).data.toList == (sb).data.toList)) with h7 | h7
                · rcases Bool.eq_false_or_eq_true ((ka == 2)) with h8 | h8
                  · rcases Bool.eq_false_or_eq_true ((kb == 2)) with h9 | h9
                    · rcases Bool.eq_false_or_eq_true ((ka == 3)) with h10 | h10
                      · exact (two_dead131 o ka na sa kb nb sb ha hb h0 h1 h2 h3 h4 h5 h6 h7 h8 h9 h10).elim
                      · exact two_24 o ka na sa kb nb sb ha hb h0 h1 h2 h3 h4 h5 h6 h7 h8 h9 h10
                    · exact (two_dead132 o ka na sa kb nb sb ha hb h0 h1 h2 h3 h4 h5 h6 h7 h8 h9).elim
                  · rcases Bool.eq_false_or_eq_true ((ka == 3)) with h9 | h9
                    · rcases Bool.eq_false_or_eq_true ((kb == 3)) with h10 | h10
                      · exact two_25 o ka na sa kb nb sb ha hb h0 h1 h2 h3 h4 h5 h6 h7 h8 h9 h10
                      · exact (two_dead133 o ka na sa kb nb sb ha hb h0 h1 h2 h3 h4 h5 h6 h7 h8 h9 h10).elim
                    · exact two_26 o ka na sa kb nb sb ha hb h0 h1 h2 h3 h4 h5 h6 h7 h8 h9
                · rcases Bool.eq_false_or_eq_true ((ka == 2)) with h8 | h8
                  · rcases Bool.eq_false_or_eq_true ((kb == 2)) with h9 | h9
                    · rcases Bool.eq_false_or_eq_true ((ka == 3)) with h10 | h10
                      · exact (two_dead134 o ka na sa kb nb sb ha hb h0 h1 h2 h3 h4 h5 h6 h7 h8 h9 h10).elim
                      · exact two_27 o ka na sa kb nb sb ha hb h0 h1 h2 h3 h4 h5 h6 h7 h8 h9 h10
                    · exact (two_dead135 o ka na sa kb nb sb ha hb h0 h1 h2 h3 h4 h5 h6 h7 h8 h9).elim
                  · rcases Bool.eq_false_or_eq_true ((ka == 3)) with h9 | h9
                    · rcases Bool.eq_false_or_eq_true ((kb == 3)) with h10 | h10
                      · exact two_28 o ka na sa kb nb sb ha hb h0 h1 h2 h3 h4 h5 h6 h7 h8 h9 h10
                      · exact (two_dead136 o ka na sa kb nb sb ha hb h0 h1 h2 h3 h4 h5 h6 h7 h8 h9 h10).elim
                    · exact two_29 o ka na sa kb nb sb ha hb h0 h1 h2 h3 h4 h5 h6 h7 h8 h9
              · rcases Bool.eq_false_or_eq_true ((ka == 2)) with h7 | h7
                · rcases Bool.eq_false_or_eq_true ((kb == 2)) with h8 | h8
                  · rcases Bool.eq_false_or_eq_true ((ka == 3)) with h9 | h9
                    · exact (two_dead137 o ka na sa kb nb sb ha hb h0 h1 h2 h3 h4 h5 h6 h7 h8 h9).elim
                    · exact two_30 o ka na sa kb nb sb ha hb h0 h1 h2 h3 h4 h5 h6 h7 h8 h9
                  · exact (two_dead138 o ka na sa kb nb sb ha hb h0 h1 h2 h3 h4 h5 h6 h7 h8).elim
                · rcases Bool.eq_false_or_eq_true ((ka == 3)) with h8 | h8
                  · rcases Bool.eq_false_or_eq_true ((kb == 3)) with h9 | h9
                    · exact two_31 o ka na sa kb nb sb ha hb h0 h1 h2 h3 h4 h5 h6 h7 h8 h9
                    · exact (two_dead139 o ka na sa kb nb sb ha hb h0 h1 h2 h3 h4 h5 h6 h7 h8 h9).elim
                  · exact two_32 o ka na sa kb nb sb ha hb h0 h1 h2 h3 h4 h5 h6 h7 h8
            · rcases Bool.eq_false_or_eq_true ((ka == 2)) with h6 | h6
              · rcases Bool.eq_false_or_eq_true ((kb == 2)) with h7 | h7
                · exact (two_dead140 o ka na sa kb nb sb ha hb h0 h1 h2 h3 h4 h5 h6 h7).elim
                · rcases Bool.eq_false_or_eq_true ((ka == 3)) with h8 | h8
                  · exact (two_dead141 o ka na sa kb nb sb ha hb h0 h1 h2 h3 h4 h5 h6 h7 h8).elim
                  · exact two_33 o ka na sa kb nb sb ha hb h0 h1 h2 h3 h4 h5 h6 h7 h8
              · rcases Bool.eq_false_or_eq_true ((ka == 3)) with h7 | h7
                · rcases Bool.eq_false_or_eq_true ((kb == 3)) with h8 | h8
                  · exact (two_dead142 o ka na sa kb nb sb ha hb h0 h1 h2 h3 h4 h5 h6 h7 h8).elim
                  · exact two_34 o ka na sa kb nb sb ha hb h0 h1 h2 h3 h4 h5 h6 h7 h8
                · exact two_35 o ka na sa kb nb sb ha hb h0 h1 h2 h3 h4 h5 h6 h7
          · rcases Bool.eq_false_or_eq_true ((o == 13)) with h5 | h5
            · rcases Bool.eq_false_or_eq_true ((ka == kb)) with h6 | h6
              · rcases Bool.eq_false_or_eq_true ((na == nb)) with h7 | h7
                · rcases Bool.eq_false_or_eq_true (((sa).data.toList == (sb).data.toList)) with h8 | h8
                  · rcases Bool.eq_false_or_eq_true ((ka == 2)) with h9 | h9
                    · rcases Bool.eq_false_or_eq_true ((kb == 2)) with h10 | h10
                      · rcases Bool.eq_false_or_eq_true ((ka == 3)) with h11 | h11
                        · exact (two_dead143 o ka na sa kb nb sb ha hb h0 h1 h2 h3 h4 h5 h6 h7 h8 h9 h10 h11).elim
                        · exact two_36 o ka na sa kb nb sb ha hb h0 h1 h2 h3 h4 h5 h6 h7 h8 h9 h10 h11
                      · exact (two_dead144 o ka na sa kb nb sb ha hb h0 h1 h2 h3 h4 h5 h6 h7 h8 h9 h10).elim
                    · rcases Bool.eq_false_or_eq_true ((ka == 3)) with h10 | h10
                      · rcases Bool.eq_false_or_eq_true ((kb == 3)) with h11 | h11
                        · exact two_37 o ka na sa kb nb sb ha hb h0 h1 h2 h3 h4 h5 h6 h7 h8 h9 h10 h11
                        · exact (two_dead145 o ka na sa kb nb sb ha hb h0 h1 h2 h3 h4 h5 h6 h7 h8 h9 h10 h11).elim
                      · exact two_38 o ka na sa kb nb sb ha hb h0 h1 h2 h3 h4 h5 h6 h7 h8 h9 h10
                  · rcases Bool.eq_false_or_eq_true ((ka == 2)) with h9 | h9
                    · rcases Bool.eq_false_or_eq_true ((kb == 2)) with h10 | h10
                      · rcases Bool.eq_false_or_eq_true ((ka == 3)) with h11 | h11
                        · exact (two_dead146 o ka na sa kb nb sb ha hb h0 h1 h2 h3 h4 h5 h6 h7 h8 h9 h10 h11).elim
                        · exact two_39 o ka na sa kb nb sb ha hb h0 h1 h2 h3 h4 h5 h6 h7 h8 h9 h10 h11
                      · exact (two_dead147 o ka na sa kb nb sb ha hb h0 h1 h2 h3 h4 h5 h6 h7 h8 h9 h10).elim
                    · rcases Bool.eq_false_or_eq_true ((ka == 3)) with h10 | h10
                      · rcases Bool.eq_false_or_eq_true ((kb == 3)) with h11 | h11
                        · exact two_40 o ka na sa kb nb sb ha hb h0 h1 h2 h3 h4 h5 h6 h7 h8 h9 h10 h11
                        · exact (two_dead148 o ka na sa kb nb sb ha hb h0 h1 h2 h3 h4 h5 h6 h7 h8 h9 h10 h11).elim
                      · exact two_41 o ka na sa kb nb sb ha hb h0 h1 h2 h3 h4 h5 h6 h7 h8 h9 h10
                · rcases Bool.eq_false_or_eq_true ((ka == 2)) with h8 | h8
                  · rcases Bool.eq_false_or_eq_true ((kb == 2)) with h9 | h9
                    · rcases Bool.eq_false_or_eq_true ((ka == 3)) with h10 | h10
                      · exact (two_dead149 o ka na sa kb nb sb ha hb h0 h1 h2 h3 h4 h5 h6 h7 h8 h9 h10).elim
                      · exact two_42 o ka na sa kb nb sb ha hb h0 h1 h2 h3 h4 h5 h6 h7 h8 h9 h10
                    · exact (two_dead150 o ka na sa kb nb sb ha hb h0 h1 h2 h3 h4 h5 h6 h7 h8 h9).elim
                  · rcases Bool.eq_false_or_eq_true ((ka == 3)) with h9 | h9
                    · rcases Bool.eq_false_or_eq_true ((kb == 3)) with h10 | h10
                      · exact two_43 o ka na sa kb nb sb ha hb h0 h1 h2 h3 h4 h5 h6 h7 h8 h9 h10
                      · exact (two_dead151 o ka na sa kb nb sb ha hb h0 h1 h2 h3 h4 h5 h6 h7 h8 h9 h10).elim
                    · exact two_44 o ka na sa kb nb sb ha hb h0 h1 h2 h3 h4 h5 h6 h7 h8 h9
              · rcases Bool.eq_false_or_eq_true ((ka == 2)) with h7 | h7
                · rcases Bool.eq_false_or_eq_true ((kb == 2)) with h8 | h8
                  · exact (two_dead152 o ka na sa kb nb sb ha hb h0 h1 h2 h3 h4 h5 h6 h7 h8).elim
                  · rcases Bool.eq_false_or_eq_true ((ka == 3)) with h9 | h9
                    · exact (two_dead153 o ka na sa kb nb sb ha hb h0 h1 h2 h3 h4 h5 h6 h7 h8 h9).elim
                    · exact two_45 o ka na sa kb nb sb ha hb h0 h1 h2 h3 h4 h5 h6 h7 h8 h9
                · rcases Bool.eq_false_or_eq_true ((ka == 3)) with h8 | h8
                  · rcases Bool.eq_false_or_eq_true ((kb == 3)) with h9 | h9
                    · exact (two_dead154 o ka na sa kb nb sb ha hb h0 h1 h2 h3 h4 h5 h6 h7 h8 h9).elim
                    · exact two_46 o ka na sa kb nb sb ha hb h0 h1 h2 h3 h4 h5 h6 h7 h8 h9
                  · exact two_47 o ka na sa kb nb sb ha hb h0 h1 h2 h3 h4 h5 h6 h7 h8
            · rcases Bool.eq_false_or_eq_true ((ka == 2)) with h6 | h6
              · rcases Bool.eq_false_or_eq_true ((kb == 2)) with h7 | h7
                · rcases Bool.eq_false_or_eq_true ((ka == 3)) with h8 | h8
                  · exact (two_dead155 o ka na sa kb nb sb ha hb h0 h1 h2 h3 h4 h5 h6 h7 h8).elim
                  · rcases Bool.eq_false_or_eq_true ((o != 9)) with h9 | h9
                    · rcases Bool.eq_false_or_eq_true ((o != 10)) with h10 | h10
                      · rcases Bool.eq_false_or_eq_true ((o != 11)) with h11 | h11
                        · rcases Bool.eq_false_or_eq_true ((o != 14)) with h12 | h12
                          · exact two_48 o ka na sa kb nb sb ha hb h0 h1 h2 h3 h4 h5 h6 h7 h8 h9 h10 h11 h12
                          · exact (two_dead156 o ka na sa kb nb sb ha hb h0 h1 h2 h3 h4 h5 h6 h7 h8 h9 h10 h11 h12).elim
                        · exact (two_dead157 o ka na sa kb nb sb ha hb h0 h1 h2 h3 h4 h5 h6 h7 h8 h9 h10 h11).elim
                      · exact (two_dead158 o ka na sa kb nb sb ha hb h0 h1 h2 h3 h4 h5 h6 h7 h8 h9 h10).elim
                    · exact (two_dead159 o ka na sa kb nb sb ha hb h0 h1 h2 h3 h4 h5 h6 h7 h8 h9).elim
                · rcases Bool.eq_false_or_eq_true ((ka == 3)) with h8 | h8
                  · exact (two_dead160 o ka na sa kb nb sb ha hb h0 h1 h2 h3 h4 h5 h6 h7 h8).elim
                  · rcases Bool.eq_false_or_eq_true ((o != 9)) with h9 | h9
                    · rcases Bool.eq_false_or_eq_true ((o != 10)) with h10 | h10
                      · rcases Bool.eq_false_or_eq_true ((o != 11)) with h11 | h11
                        · rcases Bool.eq_false_or_eq_true ((o != 14)) with h12 | h12
                          · exact two_49 o ka na sa kb nb sb ha hb h0 h1 h2 h3 h4 h5 h6 h7 h8 h9 h10 h11 h12
                          · exact (two_dead161 o ka na sa kb nb sb ha hb h0 h1 h2 h3 h4 h5 h6 h7 h8 h9 h10 h11 h12).elim
                        · exact (two_dead162 o ka na sa kb nb sb ha hb h0 h1 h2 h3 h4 h5 h6 h7 h8 h9 h10 h11).elim
                      · exact (two_dead163 o ka na sa kb nb sb ha hb h0 h1 h2 h3 h4 h5 h6 h7 h8 h9 h10).elim
                    · exact (two_dead164 o ka na sa kb nb sb ha hb h0 h1 h2 h3 h4 h5 h6 h7 h8 h9).elim
              · rcases Bool.eq_false_or_eq_true ((ka == 3)) with h7 | h7
                · rcases Bool.eq_false_or_eq_true ((kb == 3)) with h8 | h8
                  · rcases Bool.eq_false_or_eq_true ((o != 9)) with h9 | h9
                    · rcases Bool.eq_false_or_eq_true ((o != 10)) with h10 | h10
                      · rcases Bool.eq_false_or_eq_true ((o != 11)) with h11 | h11
                        · rcases Bool.eq_false_or_eq_true ((o != 14)) with h12 | h12
                          · exact two_50 o ka na sa kb nb sb ha hb h0 h1 h2 h3 h4 h5 h6 h7 h8 h9 h10 h11 h12
                          · exact (two_dead165 o ka na sa kb nb sb ha hb h0 h1 h2 h3 h4 h5 h6 h7 h8 h9 h10 h11 h12).elim
                        · exact (two_dead166 o ka na sa kb nb sb ha hb h0 h1 h2 h3 h4 h5 h6 h7 h8 h9 h10 h11).elim
                      · exact (two_dead167 o ka na sa kb nb sb ha hb h0 h1 h2 h3 h4 h5 h6 h7 h8 h9 h10).elim
                    · exact (two_dead168 o ka na sa kb nb sb ha hb h0 h1 h2 h3 h4 h5 h6 h7 h8 h9).elim
                  · rcases Bool.eq_false_or_eq_true ((o != 9)) with h9 | h9
                    · rcases Bool.eq_false_or_eq_true ((o != 10)) with h10 | h10
                      · rcases Bool.eq_false_or_eq_true ((o != 11)) with h11 | h11
                        · rcases Bool.eq_false_or_eq_true ((o != 14)) with h12 | h12
                          · exact two_51 o ka na sa kb nb sb ha hb h0 h1 h2 h3 h4 h5 h6 h7 h8 h9 h10 h11 h12
                          · exact (two_dead169 o ka na sa kb nb sb ha hb h0 h1 h2 h3 h4 h5 h6 h7 h8 h9 h10 h11 h12).elim
                        · exact (two_dead170 o ka na sa kb nb sb ha hb h0 h1 h2 h3 h4 h5 h6 h7 h8 h9 h10 h11).elim
                      · exact (two_dead171 o ka na sa kb nb sb ha hb h0 h1 h2 h3 h4 h5 h6 h7 h8 h9 h10).elim
                    · exact (two_dead172 o ka na sa kb nb sb ha hb h0 h1 h2 h3 h4 h5 h6 h7 h8 h9).elim
                · rcases Bool.eq_false_or_eq_true ((o != 9)) with h8 | h8
                  · rcases Bool.eq_false_or_eq_true ((o != 10)) with h9 | h9
                    · rcases Bool.eq_false_or_eq_true ((o != 11)) with h10 | h10
                      · rcases Bool.eq_false_or_eq_true ((o != 14)) with h11 | h11
                        · exact two_52 o ka na sa kb nb sb ha hb h0 h1 h2 h3 h4 h5 h6 h7 h8 h9 h10 h11
                        · exact (two_dead173 o ka na sa kb nb sb ha hb h0 h1 h2 h3 h4 h5 h6 h7 h8 h9 h10 h11).elim
                      · exact (two_dead174 o ka na sa kb nb sb ha hb h0 h1 h2 h3 h4 h5 h6 h7 h8 h9 h10).elim
                    · exact (two_dead175 o ka na sa kb nb sb ha hb h0 h1 h2 h3 h4 h5 h6 h7 h8 h9).elim
                  · exact (two_dead176 o ka na sa kb nb sb ha hb h0 h1 h2 h3 h4 h5 h6 h7 h8).elim
end Go.Proofs.YthomiajjiikmaaaGreatDoor.prim
