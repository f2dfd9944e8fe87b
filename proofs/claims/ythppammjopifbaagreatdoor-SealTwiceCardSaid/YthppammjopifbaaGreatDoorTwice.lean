/- SealTwice. -/
import Derived.Test.YthppammjopifbaaGreatDoorAwake
import Derived.Test.YthppammjopifbaaGreatDoorPrim
set_option linter.unusedVariables false
set_option linter.unusedSimpArgs false
set_option maxRecDepth 100000
namespace Go.Proofs.YthppammjopifbaaGreatDoor.twice
open Go Go.RowKit Ev
theorem twice_1 (kv nv : Int) (sv : ByteArray) (kw nw : Int) (sw : ByteArray) (ka na : Int) (sa : ByteArray) (kb nb : Int) (sb : ByteArray) (ha : 0 ≤ ka ∧ ka ≤ 4) (hb : 0 ≤ kb ∧ kb ≤ 4) (cA : ∀ w, Laid w → Calls Tryz.prog 20 #[.agg #[.int .u8 kv, .int .i64 nv, .string sv]] w fun e w' => e = .returned (.agg #[.int .u8 ka, .int .i64 na, .string sa]) ∧ Below w.heap.size w w') (cB : ∀ w, Laid w → Calls Tryz.prog 20 #[.agg #[.int .u8 kw, .int .i64 nw, .string sw]] w fun e w' => e = .returned (.agg #[.int .u8 kb, .int .i64 nb, .string sb]) ∧ Below w.heap.size w w')  (w : World) (hL : Laid w) : Calls Tryz.prog 4 #[.agg #[.int .u8 kv, .int .i64 nv, .string sv], .agg #[.int .u8 kw, .int .i64 nw, .string sw]] w fun e w' => e = .returned (.bool true) ∧ Below w.heap.size w w' :=
  tab [.int .u8 kv, .int .i64 nv, .string sv, .int .u8 kw, .int .i64 nw, .string sw, .int .u8 ka, .int .i64 na, .string sa, .int .u8 kb, .int .i64 nb, .string sb] [2, 2, 3, 2, 2, 3, 2, 2, 3, 2, 2, 3] [] [] [(13, [], .bool true), (20, [.agg #[.complex .f64 1 0, .complex .f64 2 0, .complex .f64 3 0]], .agg #[.complex .f64 7 0, .complex .f64 8 0, .complex .f64 9 0]), (20, [.agg #[.complex .f64 4 0, .complex .f64 5 0, .complex .f64 6 0]], .agg #[.complex .f64 10 0, .complex .f64 11 0, .complex .f64 12 0])] 4 [.agg #[.complex .f64 1 0, .complex .f64 2 0, .complex .f64 3 0], .agg #[.complex .f64 4 0, .complex .f64 5 0, .complex .f64 6 0]] (.bool true) rfl rfl trivial trivial ⟨⟨rfl, fun w h => awake14 w h⟩, ⟨rfl, cA⟩, ⟨rfl, cB⟩, trivial⟩ (by kernel_rfl) rfl rfl w hL
theorem twice (kv nv : Int) (sv : ByteArray) (kw nw : Int) (sw : ByteArray) (ka na : Int) (sa : ByteArray) (kb nb : Int) (sb : ByteArray) (ha : 0 ≤ ka ∧ ka ≤ 4) (hb : 0 ≤ kb ∧ kb ≤ 4) (cA : ∀ w, Laid w → Calls Tryz.prog 20 #[.agg #[.int .u8 kv, .int .i64 nv, .string sv]] w fun e w' => e = .returned (.agg #[.int .u8 ka, .int .i64 na, .string sa]) ∧ Below w.heap.size w w') (cB : ∀ w, Laid w → Calls Tryz.prog 20 #[.agg #[.int .u8 kw, .int .i64 nw, .string sw]] w fun e w' => e = .returned (.agg #[.int .u8 kb, .int .i64 nb, .string sb]) ∧ Below w.heap.size w w') (w : World) (hL : Laid w) : Calls Tryz.prog 4 #[.agg #[.int .u8 kv, .int .i64 nv, .string sv], .agg #[.int .u8 kw, .int .i64 nw, .string sw]] w fun e w' => e = .returned (.bool true) ∧ Below w.heap.size w w' := by
  exact twice_1 kv nv sv kw nw sw ka na sa kb nb sb ha hb cA cB w hL
theorem law (kv nv : Int) (sv : ByteArray) (kw nw : Int) (sw : ByteArray) (h1 : 0 ≤ kv) (h2 : 0 ≤ kw) (w : World) (hL : Laid w) :
    Calls Tryz.prog 4 #[.agg #[.int .u8 kv, .int .i64 nv, .string sv], .agg #[.int .u8 kw, .int .i64 nw, .string sw]] w fun e w' => e = .returned (.bool true) ∧ Below w.heap.size w w' := by
  obtain ⟨ka, na, sa, ha, _, cA⟩ := prim.make kv nv sv h1
  obtain ⟨kb, nb, sb, hb, _, cB⟩ := prim.make kw nw sw h2
  exact twice kv nv sv kw nw sw ka na sa kb nb sb ha hb cA cB w hL
end Go.Proofs.YthppammjopifbaaGreatDoor.twice
