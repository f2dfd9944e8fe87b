/- HostGives, back. -/
import Derived.Test.YtdgeilfopkbacaaGreatDoorAwake
import Derived.Test.YtdgeilfopkbacaaGreatDoorCf
set_option linter.unusedVariables false
set_option linter.unusedSimpArgs false
set_option maxRecDepth 100000
namespace Go.Proofs.YtdgeilfopkbacaaGreatDoor.gives1
open Go Go.RowKit Ev
def D_gives1 : List Nat := [13]
noncomputable def gives1_4_f0 : FrSpec := ⟨13, itemsAt [1, 1, 1, 1, 1, 1, 1, 1, 1, 1, 1, 0, 6] (codeOf Tryz.f13) [], ([.complex .f64 1 0, tp, tp, tp, tp, pt 39 0, tp, tp, tp, tp, .int .i64 0, pt 40 0, tp, .int .i64 1, tp, tp, pt 41 0, .int .i64 0] ++ tps 86 ++ [.tuple #[.agg #[.int .u8 5, .int .i64 4294967297, .string ⟨#[]⟩, .bool false, .int .i64 0], .int .i64 0]] ++ tps 50)⟩
noncomputable def gives1_4_o : List AObj := [.cells #[pt 42 0, sl 43 0 2 4611686018427387906, .map (some 44), sl 45 0 4 4611686018427387908] 144 false 0,
  .cells #[.int .u8 5, .int .i64 4294967297, .string ⟨#[]⟩] 47 false 0,
  .cells #[.int .u8 2, .complex .f64 2 0, .string ⟨#[]⟩, .bool false, .int .i64 0] 101 false 0,
  .cells #[pt 46 0, .map (some 47), sl 48 0 2 4611686018427387906, sl 49 0 1 4611686018427387905] 68 false 0,
  .cells #[.int .u8 5, .int .i64 4294967296, .string ⟨#[]⟩, .int .i64 0, .bool false, .int .u8 5, .int .i64 4294967297, .string ⟨#[]⟩, .int .i64 1, .bool false] 183 false 5,
  .other (.map #[⟨.int .u64 4294967296, .int .i64 0, 0⟩, ⟨.int .u64 4294967297, .int .i64 1, 1⟩] 2),
  .cells #[.int .i64 1, .int .u64 4294967297, .int .i64 0, .int .u64 4294967296, .int .i64 1, .int .u64 4294967297, .int .i64 0, .int .u64 4294967296] 273 false 2,
  .cells #[sl 50 0 2 4611686018427387906, sl 51 0 0 4611686018427387905, sl 52 0 3 4611686018427387907, sl 53 0 3 4611686018427387907] 154 false 0,
  .other (.map #[⟨.agg #[.int .i64 0, .int .u64 4294967296], .int .u64 4294967297, 0⟩] 1),
  .cells #[.int .i64 0, .int .i64 1, .bool false, .int .i64 1, .int .i64 2, .bool false] 38 false 3,
  .cells #[sl 54 0 2 4611686018427387906] 84 false 1,
  .cells ([.int .u32 1, .bool true, .int .u8 1, .int .i64 0, .bool false, .map none, .int .i64 0, .int .i64 1, .slice none 0 0, .int .u64 0, .int .u8 0, .int .i64 0, .string ⟨#[]⟩, .int .i64 0, .int .u64 0, .int .i64 0, .int .u32 1, .bool true, .int .u8 6, .int .i64 1, .bool false, .map none, .int .i64 0, .int .i64 0, .slice none 0 0, .int .u64 0, .int .u8 0, .int .i64 0, .string ⟨#[]⟩, .int .i64 0, .int .u64 4294967296, .int .i64 1]).toArray 157 false 16,
  .cells #[.int .u32 1] 155 false 1,
  .cells #[.int .i64 1000, .int .i64 1000, .int .i64 1000] 3 false 1,
  .cells #[.int .i64 1, .int .i64 1, .int .i64 0] 3 false 1,
  .cells #[.int .i64 0, .slice none 0 0, .int .i64 1, sl 55 0 1 4611686018427387905, sl 56 0 4 4611686018427387908, .int .i64 1, .slice none 0 0, .int .i64 2, sl 57 0 1 4611686018427387905, sl 58 0 4 4611686018427387908] 81 false 5,
  .cells #[.int .u8 0, .int .i64 0, .string ⟨#[]⟩] 47 false 3,
  .cells #[.int .u8 5, .int .i64 0, .int .i64 1, .int .i64 0, .int .u8 18, .int .i64 0, .int .i64 0, .int .i64 0, .int .u8 0, .int .i64 0, .int .i64 0, .int .i64 0, .int .u8 18, .int .i64 0, .int .i64 0, .int .i64 0] 260 false 4,
  .cells #[.int .u8 0, .int .i64 0, .string ⟨#[]⟩] 47 false 3,
  .cells #[.int .u8 1, .int .i64 1, .int .i64 0, .int .i64 0, .int .u8 18, .int .i64 1, .int .i64 0, .int .i64 0, .int .u8 0, .int .i64 1, .int .i64 0, .int .i64 0, .int .u8 18, .int .i64 1, .int .i64 0, .int .i64 0] 260 false 4]
set_option maxRecDepth 100000 in
theorem gives1_4 (n : Int) : GoodAt (fun _ => True) [.int .i32 n, .int .i64 (wrapF .i64 n)] 13 (cfgOf gives1_4_f0 [] gives1_4_o) := by
  exact step_done [.int .i32 n, .int .i64 (wrapF .i64 n)] [2, 2] [(.conv 21 2, [.complex .f64 1 0], .complex .f64 2 0)] [] [] D_gives1 37 rfl ⟨⟨rfl, (pureF_conv Tryz.underlying21 Tryz.underlying2).trans (congrArg (fun z => some (Value.int .i64 z)) (show (wrapF .i64 n) = (wrapF .i64 n) by first | rfl | (simp only [wrapF]; omega)))⟩, trivial⟩ trivial trivial (by kernel_rfl)
noncomputable def gives1_3_f0 : FrSpec := ⟨13, itemsAt [1, 1, 1, 1, 1, 1, 1, 1, 1, 1, 0, 8] (codeOf Tryz.f13) [], ([.complex .f64 1 0, tp, tp, tp, tp, pt 39 0, tp, tp, tp, tp, .int .i64 0, pt 40 0, tp, .int .i64 1] ++ tps 81 ++ [.tuple #[.agg #[.int .u8 2, .complex .f64 2 0, .string ⟨#[]⟩, .bool false, .int .i64 0], .int .i64 0]] ++ tps 59)⟩
noncomputable def gives1_3_o : List AObj := [.cells #[pt 41 0, sl 42 0 2 4611686018427387906, .map (some 43), sl 44 0 2 4611686018427387906] 144 false 0,
  .cells #[.int .u8 5, .int .i64 4294967297, .string ⟨#[]⟩] 47 false 0,
  .cells #[pt 45 0, .map (some 46), sl 47 0 2 4611686018427387906, sl 48 0 1 4611686018427387905] 68 false 0,
  .cells #[.int .u8 5, .int .i64 4294967296, .string ⟨#[]⟩, .int .i64 0, .bool false, .int .u8 5, .int .i64 4294967297, .string ⟨#[]⟩, .int .i64 1, .bool false] 183 false 5,
  .other (.map #[⟨.int .u64 4294967296, .int .i64 0, 0⟩, ⟨.int .u64 4294967297, .int .i64 1, 1⟩] 2),
  .cells #[.int .i64 1, .int .u64 4294967297, .int .i64 0, .int .u64 4294967296] 273 false 2,
  .cells #[sl 49 0 2 4611686018427387906, sl 50 0 0 4611686018427387905, sl 51 0 3 4611686018427387907, sl 52 0 3 4611686018427387907] 154 false 0,
  .other (.map #[⟨.agg #[.int .i64 0, .int .u64 4294967296], .int .u64 4294967297, 0⟩] 1),
  .cells #[.int .i64 0, .int .i64 1, .bool false, .int .i64 1, .int .i64 2, .bool false] 38 false 3,
  .cells #[sl 53 0 2 4611686018427387906] 84 false 1,
  .cells ([.int .u32 1, .bool true, .int .u8 1, .int .i64 0, .bool false, .map none, .int .i64 0, .int .i64 1, .slice none 0 0, .int .u64 0, .int .u8 0, .int .i64 0, .string ⟨#[]⟩, .int .i64 0, .int .u64 0, .int .i64 0, .int .u32 1, .bool true, .int .u8 6, .int .i64 1, .bool false, .map none, .int .i64 0, .int .i64 0, .slice none 0 0, .int .u64 0, .int .u8 0, .int .i64 0, .string ⟨#[]⟩, .int .i64 0, .int .u64 4294967296, .int .i64 1]).toArray 157 false 16,
  .cells #[.int .u32 1] 155 false 1,
  .cells #[.int .i64 1000, .int .i64 1000, .int .i64 1000] 3 false 1,
  .cells #[.int .i64 1, .int .i64 1, .int .i64 0] 3 false 1,
  .cells #[.int .i64 0, .slice none 0 0, .int .i64 1, sl 54 0 1 4611686018427387905, sl 55 0 4 4611686018427387908, .int .i64 1, .slice none 0 0, .int .i64 2, sl 56 0 1 4611686018427387905, sl 57 0 4 4611686018427387908] 81 false 5,
  .cells #[.int .u8 0, .int .i64 0, .string ⟨#[]⟩] 47 false 3,
  .cells #[.int .u8 5, .int .i64 0, .int .i64 1, .int .i64 0, .int .u8 18, .int .i64 0, .int .i64 0, .int .i64 0, .int .u8 0, .int .i64 0, .int .i64 0, .int .i64 0, .int .u8 18, .int .i64 0, .int .i64 0, .int .i64 0] 260 false 4,
  .cells #[.int .u8 0, .int .i64 0, .string ⟨#[]⟩] 47 false 3,
  .cells #[.int .u8 1, .int .i64 1, .int .i64 0, .int .i64 0, .int .u8 18, .int .i64 1, .int .i64 0, .int .i64 0, .int .u8 0, .int .i64 1, .int .i64 0, .int .i64 0, .int .u8 18, .int .i64 1, .int .i64 0, .int .i64 0] 260 false 4]
set_option maxRecDepth 100000 in
theorem gives1_3 (n : Int) : GoodAt (fun _ => True) [.int .i32 n, .int .i64 (wrapF .i64 n)] 13 (cfgOf gives1_3_f0 [] gives1_3_o) := by
  exact step_go [.int .i32 n, .int .i64 (wrapF .i64 n)] [2, 2] [] [] [] D_gives1 15 [39, 40, 58, 41, 42, 43, 141, 45, 46, 47, 48, 49, 50, 51, 52, 53, 54, 55, 56, 57] [.complex .f64 1 0, .complex .f64 2 0] [.int .i32 n, .int .i64 (wrapF .i64 n)] gives1_4_f0 [] gives1_4_o rfl trivial trivial trivial rfl (by kernel_rfl) rfl rfl (gives1_4 n)
noncomputable def gives1_2_f0 : FrSpec := ⟨13, itemsAt [1, 1, 1, 1, 1, 1, 1, 0, 0, 7] (codeOf Tryz.f13) [], ([.complex .f64 1 0, .bool true, tp, tp, tp, pt 39 0, tp, pt 40 0, tp, tp, .int .i64 0, pt 41 0] ++ tps 49 ++ [.bool false] ++ tps 93)⟩
noncomputable def gives1_2_o : List AObj := [.cells #[pt 42 0, sl 43 0 1 4611686018427387905, .map (some 44), .slice none 0 0] 144 false 0,
  .cells #[.int .u8 5, .int .i64 4294967296, .string ⟨#[]⟩, .bool false, .int .i64 0] 101 false 0,
  .cells #[.int .u8 5, .int .i64 4294967297, .string ⟨#[]⟩] 47 false 0,
  .cells #[pt 45 0, .map (some 46), sl 47 0 2 4611686018427387906, sl 48 0 1 4611686018427387905] 68 false 0,
  .cells #[.int .u8 5, .int .i64 4294967296, .string ⟨#[]⟩, .int .i64 0, .bool false] 183 false 5,
  .other (.map #[⟨.int .u64 4294967296, .int .i64 0, 0⟩] 1),
  .cells #[sl 49 0 2 4611686018427387906, sl 50 0 0 4611686018427387905, sl 51 0 3 4611686018427387907, sl 52 0 3 4611686018427387907] 154 false 0,
  .other (.map #[⟨.agg #[.int .i64 0, .int .u64 4294967296], .int .u64 4294967297, 0⟩] 1),
  .cells #[.int .i64 0, .int .i64 1, .bool false, .int .i64 1, .int .i64 2, .bool false] 38 false 3,
  .cells #[sl 53 0 2 4611686018427387906] 84 false 1,
  .cells ([.int .u32 1, .bool true, .int .u8 1, .int .i64 0, .bool false, .map none, .int .i64 0, .int .i64 1, .slice none 0 0, .int .u64 0, .int .u8 0, .int .i64 0, .string ⟨#[]⟩, .int .i64 0, .int .u64 0, .int .i64 0, .int .u32 1, .bool true, .int .u8 6, .int .i64 1, .bool false, .map none, .int .i64 0, .int .i64 0, .slice none 0 0, .int .u64 0, .int .u8 0, .int .i64 0, .string ⟨#[]⟩, .int .i64 0, .int .u64 4294967296, .int .i64 1]).toArray 157 false 16,
  .cells #[.int .u32 1] 155 false 1,
  .cells #[.int .i64 1000, .int .i64 1000, .int .i64 1000] 3 false 1,
  .cells #[.int .i64 1, .int .i64 1, .int .i64 0] 3 false 1,
  .cells #[.int .i64 0, .slice none 0 0, .int .i64 1, sl 54 0 1 4611686018427387905, sl 55 0 4 4611686018427387908, .int .i64 1, .slice none 0 0, .int .i64 2, sl 56 0 1 4611686018427387905, sl 57 0 4 4611686018427387908] 81 false 5,
  .cells #[.int .u8 0, .int .i64 0, .string ⟨#[]⟩] 47 false 3,
  .cells #[.int .u8 5, .int .i64 0, .int .i64 1, .int .i64 0, .int .u8 18, .int .i64 0, .int .i64 0, .int .i64 0, .int .u8 0, .int .i64 0, .int .i64 0, .int .i64 0, .int .u8 18, .int .i64 0, .int .i64 0, .int .i64 0] 260 false 4,
  .cells #[.int .u8 0, .int .i64 0, .string ⟨#[]⟩] 47 false 3,
  .cells #[.int .u8 1, .int .i64 1, .int .i64 0, .int .i64 0, .int .u8 18, .int .i64 1, .int .i64 0, .int .i64 0, .int .u8 0, .int .i64 1, .int .i64 0, .int .i64 0, .int .u8 18, .int .i64 1, .int .i64 0, .int .i64 0] 260 false 4]
set_option maxRecDepth 100000 in
theorem gives1_2 (n : Int) : GoodAt (fun _ => True) [.int .i32 n, .int .i64 (wrapF .i64 n)] 13 (cfgOf gives1_2_f0 [] gives1_2_o) := by
  exact step_go [.int .i32 n, .int .i64 (wrapF .i64 n)] [2, 2] [(.conv 21 2, [.complex .f64 1 0], .complex .f64 2 0)] [] [] D_gives1 58 [39, 41, 42, 61, 44, 160, 45, 46, 47, 48, 49, 50, 51, 52, 53, 54, 55, 56, 57] [.complex .f64 1 0, .complex .f64 2 0] [.int .i32 n, .int .i64 (wrapF .i64 n)] gives1_3_f0 [] gives1_3_o rfl ⟨⟨rfl, pureF_conv Tryz.underlying21 Tryz.underlying2⟩, trivial⟩ trivial trivial rfl (by kernel_rfl) rfl rfl (gives1_3 n)
noncomputable def gives1_1_f0 : FrSpec := ⟨13, itemsAt [1, 1, 1, 0, 2] (codeOf Tryz.f13) [], ([.complex .f64 1 0, .bool true, tp, tp, tp, pt 39 0] ++ tps 26 ++ [.tuple #[.agg #[.int .u8 5, .int .i64 4294967296, .string ⟨#[]⟩, .bool false, .int .i64 0], .int .i64 0, .int .i64 0]] ++ tps 122)⟩
noncomputable def gives1_1_o : List AObj := [.cells #[pt 40 0, .slice none 0 0, .map (some 41), .slice none 0 0] 144 false 0,
  .cells #[pt 42 0, .map (some 43), sl 44 0 2 4611686018427387906, sl 45 0 1 4611686018427387905] 68 false 0,
  .other (.map #[] 0),
  .cells #[sl 46 0 1 4611686018427387905, sl 47 0 0 4611686018427387905, sl 48 0 3 4611686018427387907, sl 49 0 3 4611686018427387907] 154 false 0,
  .other (.map #[] 0),
  .cells #[.int .i64 0, .int .i64 1, .bool false, .int .i64 1, .int .i64 2, .bool false] 38 false 3,
  .cells #[sl 50 0 2 4611686018427387906] 84 false 1,
  .cells #[.int .u32 1, .bool true, .int .u8 1, .int .i64 0, .bool false, .map none, .int .i64 0, .int .i64 1, .slice none 0 0, .int .u64 0, .int .u8 0, .int .i64 0, .string ⟨#[]⟩, .int .i64 0, .int .u64 0, .int .i64 0] 157 false 16,
  .cells #[.int .u32 0] 155 false 1,
  .cells #[.int .i64 1000, .int .i64 1000, .int .i64 1000] 3 false 1,
  .cells #[.int .i64 1, .int .i64 0, .int .i64 0] 3 false 1,
  .cells #[.int .i64 0, .slice none 0 0, .int .i64 1, sl 51 0 1 4611686018427387905, sl 52 0 4 4611686018427387908, .int .i64 1, .slice none 0 0, .int .i64 2, sl 53 0 1 4611686018427387905, sl 54 0 4 4611686018427387908] 81 false 5,
  .cells #[.int .u8 0, .int .i64 0, .string ⟨#[]⟩] 47 false 3,
  .cells #[.int .u8 5, .int .i64 0, .int .i64 1, .int .i64 0, .int .u8 18, .int .i64 0, .int .i64 0, .int .i64 0, .int .u8 0, .int .i64 0, .int .i64 0, .int .i64 0, .int .u8 18, .int .i64 0, .int .i64 0, .int .i64 0] 260 false 4,
  .cells #[.int .u8 0, .int .i64 0, .string ⟨#[]⟩] 47 false 3,
  .cells #[.int .u8 1, .int .i64 1, .int .i64 0, .int .i64 0, .int .u8 18, .int .i64 1, .int .i64 0, .int .i64 0, .int .u8 0, .int .i64 1, .int .i64 0, .int .i64 0, .int .u8 18, .int .i64 1, .int .i64 0, .int .i64 0] 260 false 4]
set_option maxRecDepth 100000 in
theorem gives1_1 (n : Int) : GoodAt (fun _ => True) [.int .i32 n, .int .i64 (wrapF .i64 n)] 13 (cfgOf gives1_1_f0 [] gives1_1_o) := by
  exact step_go [.int .i32 n, .int .i64 (wrapF .i64 n)] [2, 2] [] [] [] D_gives1 54 [39, 55, 86, 40, 59, 41, 42, 43, 44, 45, 83, 47, 48, 49, 50, 51, 52, 53, 54] [.complex .f64 1 0, .complex .f64 2 0] [.int .i32 n, .int .i64 (wrapF .i64 n)] gives1_2_f0 [] gives1_2_o rfl trivial trivial trivial rfl (by kernel_rfl) rfl rfl (gives1_2 n)
set_option maxRecDepth 100000 in
theorem gives1_0 (n : Int) : GoodAt (fun _ => True) [.int .i32 n, .int .i64 (wrapF .i64 n)] 13 (cfg0 13 [.complex .f64 1 0, .bool true]) := by
  exact step_go [.int .i32 n, .int .i64 (wrapF .i64 n)] [2, 2] [] [] [(49, [], .bool true)] D_gives1 25 [43, 41, 42, 39, 40, 67, 245, 267, 265, 54, 56, 199, 238, 242, 226, 230] [.complex .f64 1 0, .complex .f64 2 0] [.int .i32 n, .int .i64 (wrapF .i64 n)] gives1_1_f0 [] gives1_1_o rfl trivial trivial ⟨⟨rfl, fun w h => awake20 w h⟩, trivial⟩ rfl (by kernel_rfl) rfl rfl (gives1_1 n)
end Go.Proofs.YtdgeilfopkbacaaGreatDoor.gives1
