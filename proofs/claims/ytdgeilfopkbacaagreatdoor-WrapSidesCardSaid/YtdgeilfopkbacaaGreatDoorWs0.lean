/- WrapSides, 0 membranes. -/
import Derived.Test.YtdgeilfopkbacaaGreatDoorAwakeW
import Derived.Test.YtdgeilfopkbacaaGreatDoorCfW
set_option linter.unusedVariables false
set_option linter.unusedSimpArgs false
set_option maxRecDepth 100000
namespace Go.Proofs.YtdgeilfopkbacaaGreatDoor.ws0
open Go Go.RowKit Ev
def sh (x k : Int) : Int := Int.fdiv x (2 ^ (min (Int.toNat k) (IntKind.bits .u8)))
def lo (x : Int) : Int := wrapF .u8 ((BitVec.ofInt (IntKind.bits .u8) x &&& BitVec.ofInt (IntKind.bits .u8) 1).toNat : Int)
def D_ws0 : List Nat := [3, 16]
noncomputable def ws0_4_f0 : FrSpec := ⟨3, itemsAt [1, 1, 1, 1, 1, 1, 0] (codeOf Tryz.f3) [], ([.complex .f64 1 0, .complex .f64 2 0, .complex .f64 3 0, .complex .f64 4 0] ++ tps 7 ++ [pt 39 0] ++ tps 131)⟩
noncomputable def ws0_4_o : List AObj := [.cells #[pt 40 0, .map (some 41), .slice none 0 0, sl 42 0 4 4611686018427387908, .slice none 0 0, .slice none 0 0] 35 false 0,
  .cells #[sl 43 0 4 4611686018427387908, sl 44 0 0 4611686018427387905, sl 45 0 4 4611686018427387908, sl 46 0 4 4611686018427387908] 154 false 0,
  .other (.map #[] 0),
  .cells #[.int .u64 4294967296, .int .u64 4294967297, .int .u64 4294967298, .int .u64 4294967299] 49 false 1,
  .cells (((.int .u32 1) :: (.bool true) :: (.int .u8 0) :: (.int .i64 0) :: (.bool false) :: (.map (some 47)) :: (.int .i64 0) :: (.int .i64 0) :: (.slice none 0 0) :: (.int .u64 0) :: (.int .u8 0) :: (.int .i64 0) :: (.string ⟨#[]⟩) :: (.int .i64 0) :: (.int .u64 0) :: (.int .i64 0) :: (.int .u32 1) :: (.bool true) :: (.int .u8 0) :: (.int .i64 1) :: (.bool false) :: (.map (some 48)) :: (.int .i64 0) :: (.int .i64 0) :: (.slice none 0 0) :: (.int .u64 0) :: (.int .u8 0) :: (.int .i64 0) :: (.string ⟨#[]⟩) :: (.int .i64 0) :: (.int .u64 0) :: (.int .i64 0) :: (.int .u32 1) :: (.bool true) :: (.int .u8 0) :: (.int .i64 2) :: (.bool false) :: (.map (some 49)) :: (.int .i64 0) :: (.int .i64 0) :: (.slice none 0 0) :: (.int .u64 0) :: (.int .u8 0) :: (.int .i64 0) :: (.string ⟨#[]⟩) :: (.int .i64 0) :: (.int .u64 0) :: (.int .i64 0) :: (.int .u32 1) :: (.bool true) :: (.int .u8 0) :: (.int .i64 3) :: (.bool false) :: (.map (some 50)) :: (.int .i64 0) :: (.int .i64 0) :: (.slice none 0 0) :: (.int .u64 0) :: (.int .u8 0) :: (.int .i64 0) :: (.string ⟨#[]⟩) :: (.int .i64 0) :: (.int .u64 0) :: (.int .i64 0) :: [])).toArray 157 false 16,
  .cells #[.int .u32 3] 155 false 1,
  .cells #[.int .i64 60, .int .i64 60, .int .i64 60, .int .i64 60] 3 false 1,
  .cells #[.int .i64 1, .int .i64 1, .int .i64 1, .int .i64 1] 3 false 1,
  .other (.map #[] 0),
  .other (.map #[] 0),
  .other (.map #[] 0),
  .other (.map #[] 0)]
set_option maxRecDepth 100000 in
theorem ws0_4 (a : Addr) (cap : Nat) (m o d : Int) (near : Bool) (z0 z1 : Int) : GoodAt (PairsAt a []) [.slice (some a) 0 cap, .int .i64 z0, .int .i64 z1, .int .u8 d] 3 (cfgOf ws0_4_f0 [] ws0_4_o) := by
  rcases Bool.eq_false_or_eq_true (decide ((z0) < 0)) with h3 | h4
  · rcases Bool.eq_false_or_eq_true (decide ((z0) ≥ 0)) with h5 | h6
    · exact False.elim (by simp only [decide_eq_true_eq, decide_eq_false_iff_not, beq_iff_eq, bne_iff_ne, ne_eq, beq_eq_false_iff_ne, bne_eq_false_iff_eq, gt_iff_lt, ge_iff_le, Bool.not_eq_true] at h3 h5; omega)
    · exact step_doneM [.slice (some a) 0 cap, .int .i64 z0, .int .i64 z1, .int .u8 d] [0, 2, 2, 2] [(.bin .lss 3, [.complex .f64 2 0, .int .i64 0], .bool true), (.bin .geq 3, [.complex .f64 2 0, .int .i64 0], .bool false)] [] [] [] D_ws0 99 rfl ⟨⟨rfl, congrArg (fun z => some (Value.bool z)) h3⟩, ⟨rfl, congrArg (fun z => some (Value.bool z)) h6⟩, trivial⟩ trivial trivial trivial (by kernel_rfl)
  · rcases Bool.eq_false_or_eq_true (decide ((z0) ≥ 0)) with h7 | h8
    · exact step_doneM [.slice (some a) 0 cap, .int .i64 z0, .int .i64 z1, .int .u8 d] [0, 2, 2, 2] [(.bin .lss 3, [.complex .f64 2 0, .int .i64 0], .bool false), (.bin .geq 3, [.complex .f64 2 0, .int .i64 0], .bool true)] [(.len 22, [.complex .f64 1 0], .int .i64 0)] [] [] D_ws0 99 rfl ⟨⟨rfl, congrArg (fun z => some (Value.bool z)) h4⟩, ⟨rfl, congrArg (fun z => some (Value.bool z)) h7⟩, trivial⟩ ⟨⟨rfl, fun w hM => mem_len Tryz.underlying22⟩, trivial⟩ trivial trivial (by kernel_rfl)
    · exact False.elim (by simp only [decide_eq_true_eq, decide_eq_false_iff_not, beq_iff_eq, bne_iff_ne, ne_eq, beq_eq_false_iff_ne, bne_eq_false_iff_eq, gt_iff_lt, ge_iff_le, Bool.not_eq_true] at h4 h8; omega)
noncomputable def ws0_3_f0 : FrSpec := ⟨3, itemsAt [1, 1, 1, 1, 1, 0, 1000] (codeOf Tryz.f3) [], ([.complex .f64 1 0, .complex .f64 2 0, .complex .f64 3 0, .complex .f64 4 0] ++ tps 7 ++ [pt 39 0] ++ tps 131)⟩
noncomputable def ws0_3_o : List AObj := [.cells #[pt 40 0, .map (some 41), .slice none 0 0, sl 42 0 4 4611686018427387908, .slice none 0 0, .slice none 0 0] 35 false 0,
  .cells #[sl 43 0 4 4611686018427387908, sl 44 0 0 4611686018427387905, sl 45 0 4 4611686018427387908, sl 46 0 4 4611686018427387908] 154 false 0,
  .other (.map #[] 0),
  .cells #[.int .u64 4294967296, .int .u64 4294967297, .int .u64 4294967298, .int .u64 4294967299] 49 false 1,
  .cells (((.int .u32 1) :: (.bool true) :: (.int .u8 0) :: (.int .i64 0) :: (.bool false) :: (.map (some 47)) :: (.int .i64 0) :: (.int .i64 0) :: (.slice none 0 0) :: (.int .u64 0) :: (.int .u8 0) :: (.int .i64 0) :: (.string ⟨#[]⟩) :: (.int .i64 0) :: (.int .u64 0) :: (.int .i64 0) :: (.int .u32 1) :: (.bool true) :: (.int .u8 0) :: (.int .i64 1) :: (.bool false) :: (.map (some 48)) :: (.int .i64 0) :: (.int .i64 0) :: (.slice none 0 0) :: (.int .u64 0) :: (.int .u8 0) :: (.int .i64 0) :: (.string ⟨#[]⟩) :: (.int .i64 0) :: (.int .u64 0) :: (.int .i64 0) :: (.int .u32 1) :: (.bool true) :: (.int .u8 0) :: (.int .i64 2) :: (.bool false) :: (.map (some 49)) :: (.int .i64 0) :: (.int .i64 0) :: (.slice none 0 0) :: (.int .u64 0) :: (.int .u8 0) :: (.int .i64 0) :: (.string ⟨#[]⟩) :: (.int .i64 0) :: (.int .u64 0) :: (.int .i64 0) :: (.int .u32 1) :: (.bool true) :: (.int .u8 0) :: (.int .i64 3) :: (.bool false) :: (.map (some 50)) :: (.int .i64 0) :: (.int .i64 0) :: (.slice none 0 0) :: (.int .u64 0) :: (.int .u8 0) :: (.int .i64 0) :: (.string ⟨#[]⟩) :: (.int .i64 0) :: (.int .u64 0) :: (.int .i64 0) :: [])).toArray 157 false 16,
  .cells #[.int .u32 3] 155 false 1,
  .cells #[.int .i64 60, .int .i64 60, .int .i64 60, .int .i64 60] 3 false 1,
  .cells #[.int .i64 1, .int .i64 1, .int .i64 1, .int .i64 1] 3 false 1,
  .other (.map #[] 0),
  .other (.map #[] 0),
  .other (.map #[] 0),
  .other (.map #[] 0)]
set_option maxRecDepth 100000 in
theorem ws0_3 (a : Addr) (cap : Nat) (m o d : Int) (near : Bool) (z0 z1 : Int) : GoodAt (PairsAt a []) [.slice (some a) 0 cap, .int .i64 z0, .int .i64 z1, .int .u8 d] 3 (cfgOf ws0_3_f0 [] ws0_3_o) := by
  exact step_goM [.slice (some a) 0 cap, .int .i64 z0, .int .i64 z1, .int .u8 d] [0, 2, 2, 2] [] [] [] [] D_ws0 1 [39, 40, 41, 42, 43, 44, 45, 46, 47, 48, 49, 50] [.complex .f64 1 0, .complex .f64 2 0, .complex .f64 3 0, .complex .f64 4 0] [] [.slice (some a) 0 cap, .int .i64 z0, .int .i64 z1, .int .u8 d] ws0_4_f0 [] ws0_4_o rfl trivial trivial trivial trivial rfl (by kernel_rfl) rfl rfl trivial (ws0_4 a cap m o d near z0 z1)
noncomputable def ws0_2_f0 : FrSpec := ⟨3, itemsAt [1, 1, 1, 1, 1, 0, 0, 1000] (codeOf Tryz.f3) [], ([.complex .f64 1 0, .complex .f64 2 0, .complex .f64 3 0, .complex .f64 4 0] ++ tps 7 ++ [pt 39 0] ++ tps 32 ++ [.bool false] ++ tps 98)⟩
noncomputable def ws0_2_o : List AObj := [.cells #[pt 40 0, .map (some 41), .slice none 0 0, sl 42 0 4 4611686018427387908, .slice none 0 0, .slice none 0 0] 35 false 0,
  .cells #[sl 43 0 4 4611686018427387908, sl 44 0 0 4611686018427387905, sl 45 0 4 4611686018427387908, sl 46 0 4 4611686018427387908] 154 false 0,
  .other (.map #[] 0),
  .cells #[.int .u64 4294967296, .int .u64 4294967297, .int .u64 4294967298, .int .u64 4294967299] 49 false 1,
  .cells (((.int .u32 1) :: (.bool true) :: (.int .u8 0) :: (.int .i64 0) :: (.bool false) :: (.map (some 47)) :: (.int .i64 0) :: (.int .i64 0) :: (.slice none 0 0) :: (.int .u64 0) :: (.int .u8 0) :: (.int .i64 0) :: (.string ⟨#[]⟩) :: (.int .i64 0) :: (.int .u64 0) :: (.int .i64 0) :: (.int .u32 1) :: (.bool true) :: (.int .u8 0) :: (.int .i64 1) :: (.bool false) :: (.map (some 48)) :: (.int .i64 0) :: (.int .i64 0) :: (.slice none 0 0) :: (.int .u64 0) :: (.int .u8 0) :: (.int .i64 0) :: (.string ⟨#[]⟩) :: (.int .i64 0) :: (.int .u64 0) :: (.int .i64 0) :: (.int .u32 1) :: (.bool true) :: (.int .u8 0) :: (.int .i64 2) :: (.bool false) :: (.map (some 49)) :: (.int .i64 0) :: (.int .i64 0) :: (.slice none 0 0) :: (.int .u64 0) :: (.int .u8 0) :: (.int .i64 0) :: (.string ⟨#[]⟩) :: (.int .i64 0) :: (.int .u64 0) :: (.int .i64 0) :: (.int .u32 1) :: (.bool true) :: (.int .u8 0) :: (.int .i64 3) :: (.bool false) :: (.map (some 50)) :: (.int .i64 0) :: (.int .i64 0) :: (.slice none 0 0) :: (.int .u64 0) :: (.int .u8 0) :: (.int .i64 0) :: (.string ⟨#[]⟩) :: (.int .i64 0) :: (.int .u64 0) :: (.int .i64 0) :: [])).toArray 157 false 16,
  .cells #[.int .u32 3] 155 false 1,
  .cells #[.int .i64 60, .int .i64 60, .int .i64 60, .int .i64 60] 3 false 1,
  .cells #[.int .i64 1, .int .i64 1, .int .i64 1, .int .i64 1] 3 false 1,
  .other (.map #[] 0),
  .other (.map #[] 0),
  .other (.map #[] 0),
  .other (.map #[] 0)]
set_option maxRecDepth 100000 in
theorem ws0_2 (a : Addr) (cap : Nat) (m o d : Int) (near : Bool) (h2 : near = false) : GoodAt (PairsAt a []) [.slice (some a) 0 cap, .int .i64 m, .int .i64 o, .int .u8 d] 3 (cfgOf ws0_2_f0 [] ws0_2_o) := by
  exact step_goM [.slice (some a) 0 cap, .int .i64 m, .int .i64 o, .int .u8 d] [0, 2, 2, 2] [] [] [] [] D_ws0 2 [39, 40, 41, 42, 43, 44, 45, 46, 47, 48, 49, 50] [.complex .f64 1 0, .complex .f64 2 0, .complex .f64 3 0, .complex .f64 4 0] [] [.slice (some a) 0 cap, .int .i64 m, .int .i64 o, .int .u8 d] ws0_3_f0 [] ws0_3_o rfl trivial trivial trivial trivial rfl (by kernel_rfl) rfl rfl trivial (ws0_3 a cap m o d near m o)
noncomputable def ws0_1_f0 : FrSpec := ⟨3, itemsAt [1, 1, 1, 1, 1, 0, 0, 1000] (codeOf Tryz.f3) [], ([.complex .f64 1 0, .complex .f64 2 0, .complex .f64 3 0, .complex .f64 4 0] ++ tps 7 ++ [pt 39 0] ++ tps 32 ++ [.bool true] ++ tps 98)⟩
noncomputable def ws0_1_o : List AObj := [.cells #[pt 40 0, .map (some 41), .slice none 0 0, sl 42 0 4 4611686018427387908, .slice none 0 0, .slice none 0 0] 35 false 0,
  .cells #[sl 43 0 4 4611686018427387908, sl 44 0 0 4611686018427387905, sl 45 0 4 4611686018427387908, sl 46 0 4 4611686018427387908] 154 false 0,
  .other (.map #[] 0),
  .cells #[.int .u64 4294967296, .int .u64 4294967297, .int .u64 4294967298, .int .u64 4294967299] 49 false 1,
  .cells (((.int .u32 1) :: (.bool true) :: (.int .u8 0) :: (.int .i64 0) :: (.bool false) :: (.map (some 47)) :: (.int .i64 0) :: (.int .i64 0) :: (.slice none 0 0) :: (.int .u64 0) :: (.int .u8 0) :: (.int .i64 0) :: (.string ⟨#[]⟩) :: (.int .i64 0) :: (.int .u64 0) :: (.int .i64 0) :: (.int .u32 1) :: (.bool true) :: (.int .u8 0) :: (.int .i64 1) :: (.bool false) :: (.map (some 48)) :: (.int .i64 0) :: (.int .i64 0) :: (.slice none 0 0) :: (.int .u64 0) :: (.int .u8 0) :: (.int .i64 0) :: (.string ⟨#[]⟩) :: (.int .i64 0) :: (.int .u64 0) :: (.int .i64 0) :: (.int .u32 1) :: (.bool true) :: (.int .u8 0) :: (.int .i64 2) :: (.bool false) :: (.map (some 49)) :: (.int .i64 0) :: (.int .i64 0) :: (.slice none 0 0) :: (.int .u64 0) :: (.int .u8 0) :: (.int .i64 0) :: (.string ⟨#[]⟩) :: (.int .i64 0) :: (.int .u64 0) :: (.int .i64 0) :: (.int .u32 1) :: (.bool true) :: (.int .u8 0) :: (.int .i64 3) :: (.bool false) :: (.map (some 50)) :: (.int .i64 0) :: (.int .i64 0) :: (.slice none 0 0) :: (.int .u64 0) :: (.int .u8 0) :: (.int .i64 0) :: (.string ⟨#[]⟩) :: (.int .i64 0) :: (.int .u64 0) :: (.int .i64 0) :: [])).toArray 157 false 16,
  .cells #[.int .u32 3] 155 false 1,
  .cells #[.int .i64 60, .int .i64 60, .int .i64 60, .int .i64 60] 3 false 1,
  .cells #[.int .i64 1, .int .i64 1, .int .i64 1, .int .i64 1] 3 false 1,
  .other (.map #[] 0),
  .other (.map #[] 0),
  .other (.map #[] 0),
  .other (.map #[] 0)]
set_option maxRecDepth 100000 in
theorem ws0_1 (a : Addr) (cap : Nat) (m o d : Int) (near : Bool) (h1 : near = true) : GoodAt (PairsAt a []) [.slice (some a) 0 cap, .int .i64 m, .int .i64 o, .int .u8 d, .int .i64 (Int.tmod m 8), .int .i64 (Int.tmod o 5)] 3 (cfgOf ws0_1_f0 [] ws0_1_o) := by
  exact step_goM [.slice (some a) 0 cap, .int .i64 m, .int .i64 o, .int .u8 d, .int .i64 (Int.tmod m 8), .int .i64 (Int.tmod o 5)] [0, 2, 2, 2, 2, 2] [(.bin .rem 3, [.complex .f64 2 0, .int .i64 8], .complex .f64 5 0), (.bin .rem 3, [.complex .f64 3 0, .int .i64 5], .complex .f64 6 0)] [] [] [] D_ws0 9 [39, 40, 41, 42, 43, 44, 45, 46, 47, 48, 49, 50] [.complex .f64 1 0, .complex .f64 5 0, .complex .f64 6 0, .complex .f64 4 0] [] [.slice (some a) 0 cap, .int .i64 (Int.tmod m 8), .int .i64 (Int.tmod o 5), .int .u8 d] ws0_3_f0 [] ws0_3_o rfl ⟨⟨rfl, rfl⟩, ⟨rfl, rfl⟩, trivial⟩ trivial trivial trivial rfl (by kernel_rfl) rfl rfl trivial (ws0_3 a cap m o d near (Int.tmod m 8) (Int.tmod o 5))
set_option maxRecDepth 100000 in
theorem ws0_0 (a : Addr) (cap : Nat) (m o d : Int) (near : Bool) : GoodAt (PairsAt a []) [.slice (some a) 0 cap, .int .i64 m, .int .i64 o, .int .u8 d, .bool near] 3 (cfg0 3 [.complex .f64 1 0, .complex .f64 2 0, .complex .f64 3 0, .complex .f64 4 0, .complex .f64 5 0]) := by
  rcases Bool.eq_false_or_eq_true (near) with h1 | h2
  · exact step_goM [.slice (some a) 0 cap, .int .i64 m, .int .i64 o, .int .u8 d, .bool near] [0, 2, 2, 2, 1] [] [(.len 22, [.complex .f64 1 0], .int .i64 0)] [] [(15, [], .bool true)] D_ws0 271 [41, 39, 40, 90, 88, 50, 80, 82, 47, 60, 72, 84] [.complex .f64 1 0, .complex .f64 2 0, .complex .f64 3 0, .complex .f64 4 0] [(4, .bool true)] [.slice (some a) 0 cap, .int .i64 m, .int .i64 o, .int .u8 d, .int .i64 (Int.tmod m 8), .int .i64 (Int.tmod o 5)] ws0_1_f0 [] ws0_1_o rfl trivial ⟨⟨rfl, fun w hM => mem_len Tryz.underlying22⟩, trivial⟩ trivial ⟨⟨rfl, fun w h => awake15 w h.1⟩, trivial⟩ rfl (by kernel_rfl) rfl rfl ⟨congrArg Value.bool h1, trivial⟩ (ws0_1 a cap m o d near h1)
  · exact step_goM [.slice (some a) 0 cap, .int .i64 m, .int .i64 o, .int .u8 d, .bool near] [0, 2, 2, 2, 1] [] [(.len 22, [.complex .f64 1 0], .int .i64 0)] [] [(15, [], .bool true)] D_ws0 271 [41, 39, 40, 90, 88, 50, 80, 82, 47, 60, 72, 84] [.complex .f64 1 0, .complex .f64 2 0, .complex .f64 3 0, .complex .f64 4 0] [(4, .bool false)] [.slice (some a) 0 cap, .int .i64 m, .int .i64 o, .int .u8 d] ws0_2_f0 [] ws0_2_o rfl trivial ⟨⟨rfl, fun w hM => mem_len Tryz.underlying22⟩, trivial⟩ trivial ⟨⟨rfl, fun w h => awake15 w h.1⟩, trivial⟩ rfl (by kernel_rfl) rfl rfl ⟨congrArg Value.bool h2, trivial⟩ (ws0_2 a cap m o d near h2)
end Go.Proofs.YtdgeilfopkbacaaGreatDoor.ws0
