/- WrapSides, none, or more than six. -/
import Derived.Test.YtdgeilfopkbacaaGreatDoorAwakeW
import Derived.Test.YtdgeilfopkbacaaGreatDoorCfW
set_option linter.unusedVariables false
set_option linter.unusedSimpArgs false
set_option maxRecDepth 100000
namespace Go.Proofs.YtdgeilfopkbacaaGreatDoor.wsk
open Go Go.RowKit Ev
def sh (x k : Int) : Int := Int.fdiv x (2 ^ (min (Int.toNat k) (IntKind.bits .u8)))
def lo (x : Int) : Int := wrapF .u8 ((BitVec.ofInt (IntKind.bits .u8) x &&& BitVec.ofInt (IntKind.bits .u8) 1).toNat : Int)
def D_wsk : List Nat := [3, 16]
set_option maxRecDepth 100000 in
theorem wsk_0 (a : Addr) (cap k : Nat) (m o d : Int) (near : Bool) (hk : 7 ≤ k) : GoodAt (fun _ => True) [.slice (some a) k cap, .int .i64 m, .int .i64 o, .int .u8 d, .bool near, .int .i64 ((k : Nat) : Int)] 3 (cfg0 3 [.complex .f64 1 0, .complex .f64 2 0, .complex .f64 3 0, .complex .f64 4 0, .complex .f64 5 0]) := by
  rcases Bool.eq_false_or_eq_true (decide ((((k : Nat) : Int)) > 6)) with h1 | h2
  · exact step_doneM [.slice (some a) k cap, .int .i64 m, .int .i64 o, .int .u8 d, .bool near, .int .i64 ((k : Nat) : Int)] [0, 2, 2, 2, 1, 2] [(.bin .gtr 3, [.complex .f64 6 0, .int .i64 6], .bool true)] [(.len 22, [.complex .f64 1 0], .complex .f64 6 0)] [] [(15, [], .bool true)] D_wsk 25 rfl ⟨⟨rfl, congrArg (fun z => some (Value.bool z)) h1⟩, trivial⟩ ⟨⟨rfl, fun w hM => mem_len Tryz.underlying22⟩, trivial⟩ trivial ⟨⟨rfl, fun w h => awake15 w h.1⟩, trivial⟩ (by kernel_rfl)
  · exact False.elim (by simp only [decide_eq_true_eq, decide_eq_false_iff_not, beq_iff_eq, bne_iff_ne, ne_eq, beq_eq_false_iff_ne, bne_eq_false_iff_eq, gt_iff_lt, ge_iff_le, Bool.not_eq_true] at hk h2; omega)
def D_wsz : List Nat := [3, 16]
noncomputable def wsz_2_f0 : FrSpec := ⟨3, itemsAt [1, 1, 1, 1, 1, 0, 0, 1000] (codeOf Tryz.f3) [], ([.complex .f64 1 0, .complex .f64 2 0, .complex .f64 3 0, .complex .f64 4 0] ++ tps 7 ++ [pt 39 0] ++ tps 32 ++ [.bool false] ++ tps 98)⟩
noncomputable def wsz_2_o : List AObj := [.cells #[pt 40 0, .map (some 41), .slice none 0 0, sl 42 0 4 4611686018427387908, .slice none 0 0, .slice none 0 0] 35 false 0,
  .cells #[sl 43 0 4 4611686018427387908, sl 44 0 0 4611686018427387905, sl 45 0 4 4611686018427387908, sl 46 0 4 4611686018427387908] 154 false 0,
  .other (.map #[] 0),
  .cells #[.int .u64 4294967296, .int .u64 4294967297, .int .u64 4294967298, .int .u64 4294967299] 49 false 1,
  .cells (((.int .u32 1) :: (.bool true) :: (.int .u8 0) :: (.int .i64 0) :: (.bool false) :: (.map (some 47)) :: (.int .i64 0) :: (.int .i64 0) :: (.slice none 0 0) :: (.int .u64 0) :: (.int .u8 0) :: (.int .i64 0) :: (.string ⟨#[]⟩) :: (.int .i64 0) :: (.int .u64 0) :: (.int .i64 0) :: (.int .u32 1) :: (.bool true) :: (.int .u8 0) :: (.int .i64 1) :: (.bool false) :: (.map (some 48)) :: (.int .i64 0) :: (.int .i64 0) :: (.slice none 0 0) :: (.int .u64 0) :: (.int .u8 0) :: (.int .i64 0) :: (.string ⟨#[]⟩) :: (.int .i64 0) :: (.int .u64 0) :: (.int .i64 0) :: (.int .u32 1) :: (.bool true) :: (.int .u8 0) :: (.int .i64 2) :: (.bool false) :: (.map (some 49)) :: (.int .i64 0) :: (.int .i64 0) :: (.slice none 0 0) :: (.int .u64 0) :: (.int .u8 0) :: (.int .i64 0) :: (.string ⟨#[]⟩) :: (.int .i64 0) :: (.int .u64 0) :: (.int .i64 0) :: (.int .u32 1) :: (.bool true) :: (.int .u8 0) :: (.int .i64 3) :: (.bool false) :: (.map (some 50)) :: (.int .i64 0) :: (.int .i64 0) :: (.slice none 0 0) :: (.int .u64 0) :: (.int .u8 0) :: (.int .i64 0) :: (.string ⟨#[]⟩) :: (.int .i64 0) :: (.int .u64 0) :: (.int .i64 0) :: [])).toArray 157 false 16,
  .cells #[.int .u32 3] 155 false 1,
  .cells #[.int .i64 60, .int .i64 60, .int .i64 60, .int .i64 60] 3 false 1,
  .cells #[.int .i64 1, .int .i64 1, .int .i64 1, .int .i64 1] 3 false 1,
  .other (.map #[] 0),
  .other (.map #[] 0),
  .other (.map #[] 0),
  .other (.map #[] 0)]
set_option maxRecDepth 100000 in
theorem wsz_2 (m o d : Int) (near : Bool) (h2 : near = false) : GoodAt (fun _ => True) [.slice none 0 0, .int .i64 m, .int .i64 o, .int .u8 d] 3 (cfgOf wsz_2_f0 [] wsz_2_o) := by
  rcases Bool.eq_false_or_eq_true (decide ((m) < 0)) with h9 | h10
  · rcases Bool.eq_false_or_eq_true (decide ((m) ≥ 0)) with h11 | h12
    · exact False.elim (by simp only [decide_eq_true_eq, decide_eq_false_iff_not, beq_iff_eq, bne_iff_ne, ne_eq, beq_eq_false_iff_ne, bne_eq_false_iff_eq, gt_iff_lt, ge_iff_le, Bool.not_eq_true] at h2 h9 h11; omega)
    · exact step_doneM [.slice none 0 0, .int .i64 m, .int .i64 o, .int .u8 d] [0, 2, 2, 2] [(.bin .lss 3, [.complex .f64 2 0, .int .i64 0], .bool true), (.bin .geq 3, [.complex .f64 2 0, .int .i64 0], .bool false)] [] [] [] D_wsz 102 rfl ⟨⟨rfl, congrArg (fun z => some (Value.bool z)) h9⟩, ⟨rfl, congrArg (fun z => some (Value.bool z)) h12⟩, trivial⟩ trivial trivial trivial (by kernel_rfl)
  · rcases Bool.eq_false_or_eq_true (decide ((m) ≥ 0)) with h13 | h14
    · exact step_doneM [.slice none 0 0, .int .i64 m, .int .i64 o, .int .u8 d] [0, 2, 2, 2] [(.bin .lss 3, [.complex .f64 2 0, .int .i64 0], .bool false), (.bin .geq 3, [.complex .f64 2 0, .int .i64 0], .bool true)] [(.len 22, [.complex .f64 1 0], .int .i64 0)] [] [] D_wsz 102 rfl ⟨⟨rfl, congrArg (fun z => some (Value.bool z)) h10⟩, ⟨rfl, congrArg (fun z => some (Value.bool z)) h13⟩, trivial⟩ ⟨⟨rfl, fun w hM => mem_len0 Tryz.underlying22⟩, trivial⟩ trivial trivial (by kernel_rfl)
    · exact False.elim (by simp only [decide_eq_true_eq, decide_eq_false_iff_not, beq_iff_eq, bne_iff_ne, ne_eq, beq_eq_false_iff_ne, bne_eq_false_iff_eq, gt_iff_lt, ge_iff_le, Bool.not_eq_true] at h2 h10 h14; omega)
noncomputable def wsz_1_f0 : FrSpec := ⟨3, itemsAt [1, 1, 1, 1, 1, 0, 0, 1000] (codeOf Tryz.f3) [], ([.complex .f64 1 0, .complex .f64 2 0, .complex .f64 3 0, .complex .f64 4 0] ++ tps 7 ++ [pt 39 0] ++ tps 32 ++ [.bool true] ++ tps 98)⟩
noncomputable def wsz_1_o : List AObj := [.cells #[pt 40 0, .map (some 41), .slice none 0 0, sl 42 0 4 4611686018427387908, .slice none 0 0, .slice none 0 0] 35 false 0,
  .cells #[sl 43 0 4 4611686018427387908, sl 44 0 0 4611686018427387905, sl 45 0 4 4611686018427387908, sl 46 0 4 4611686018427387908] 154 false 0,
  .other (.map #[] 0),
  .cells #[.int .u64 4294967296, .int .u64 4294967297, .int .u64 4294967298, .int .u64 4294967299] 49 false 1,
  .cells (((.int .u32 1) :: (.bool true) :: (.int .u8 0) :: (.int .i64 0) :: (.bool false) :: (.map (some 47)) :: (.int .i64 0) :: (.int .i64 0) :: (.slice none 0 0) :: (.int .u64 0) :: (.int .u8 0) :: (.int .i64 0) :: (.string ⟨#[]⟩) :: (.int .i64 0) :: (.int .u64 0) :: (.int .i64 0) :: (.int .u32 1) :: (.bool true) :: (.int .u8 0) :: (.int .i64 1) :: (.bool false) :: (.map (some 48)) :: (.int .i64 0) :: (.int .i64 0) :: (.slice none 0 0) :: (.int .u64 0) :: (.int .u8 0) :: (.int .i64 0) :: (.string ⟨#[]⟩) :: (.int .i64 0) :: (.int .u64 0) :: (.int .i64 0) :: (.int .u32 1) :: (.bool true) :: (.int .u8 0) :: (.int .i64 2) :: (.bool false) :: (.map (some 49)) :: (.int .i64 0) :: (.int .i64 0) :: (.slice none 0 0) :: (.int .u64 0) :: (.int .u8 0) :: (.int .i64 0) :: (.string ⟨#[]⟩) :: (.int .i64 0) :: (.int .u64 0) :: (.int .i64 0) :: (.int .u32 1) :: (.bool true) :: (.int .u8 0) :: (.int .i64 3) :: (.bool false) :: (.map (some 50)) :: (.int .i64 0) :: (.int .i64 0) :: (.slice none 0 0) :: (.int .u64 0) :: (.int .u8 0) :: (.int .i64 0) :: (.string ⟨#[]⟩) :: (.int .i64 0) :: (.int .u64 0) :: (.int .i64 0) :: [])).toArray 157 false 16,
  .cells #[.int .u32 3] 155 false 1,
  .cells #[.int .i64 60, .int .i64 60, .int .i64 60, .int .i64 60] 3 false 1,
  .cells #[.int .i64 1, .int .i64 1, .int .i64 1, .int .i64 1] 3 false 1,
  .other (.map #[] 0),
  .other (.map #[] 0),
  .other (.map #[] 0),
  .other (.map #[] 0)]
set_option maxRecDepth 100000 in
theorem wsz_1 (m o d : Int) (near : Bool) (h1 : near = true) : GoodAt (fun _ => True) [.slice none 0 0, .int .i64 m, .int .i64 o, .int .u8 d, .int .i64 (Int.tmod m 8), .int .i64 (Int.tmod o 5)] 3 (cfgOf wsz_1_f0 [] wsz_1_o) := by
  rcases Bool.eq_false_or_eq_true (decide (((Int.tmod m 8)) < 0)) with h3 | h4
  · rcases Bool.eq_false_or_eq_true (decide (((Int.tmod m 8)) ≥ 0)) with h5 | h6
    · exact False.elim (by simp only [decide_eq_true_eq, decide_eq_false_iff_not, beq_iff_eq, bne_iff_ne, ne_eq, beq_eq_false_iff_ne, bne_eq_false_iff_eq, gt_iff_lt, ge_iff_le, Bool.not_eq_true] at h1 h3 h5; omega)
    · exact step_doneM [.slice none 0 0, .int .i64 m, .int .i64 o, .int .u8 d, .int .i64 (Int.tmod m 8), .int .i64 (Int.tmod o 5)] [0, 2, 2, 2, 2, 2] [(.bin .rem 3, [.complex .f64 2 0, .int .i64 8], .complex .f64 5 0), (.bin .rem 3, [.complex .f64 3 0, .int .i64 5], .complex .f64 6 0), (.bin .lss 3, [.complex .f64 5 0, .int .i64 0], .bool true), (.bin .geq 3, [.complex .f64 5 0, .int .i64 0], .bool false)] [] [] [] D_wsz 109 rfl ⟨⟨rfl, rfl⟩, ⟨rfl, rfl⟩, ⟨rfl, congrArg (fun z => some (Value.bool z)) h3⟩, ⟨rfl, congrArg (fun z => some (Value.bool z)) h6⟩, trivial⟩ trivial trivial trivial (by kernel_rfl)
  · rcases Bool.eq_false_or_eq_true (decide (((Int.tmod m 8)) ≥ 0)) with h7 | h8
    · exact step_doneM [.slice none 0 0, .int .i64 m, .int .i64 o, .int .u8 d, .int .i64 (Int.tmod m 8), .int .i64 (Int.tmod o 5)] [0, 2, 2, 2, 2, 2] [(.bin .rem 3, [.complex .f64 2 0, .int .i64 8], .complex .f64 5 0), (.bin .rem 3, [.complex .f64 3 0, .int .i64 5], .complex .f64 6 0), (.bin .lss 3, [.complex .f64 5 0, .int .i64 0], .bool false), (.bin .geq 3, [.complex .f64 5 0, .int .i64 0], .bool true)] [(.len 22, [.complex .f64 1 0], .int .i64 0)] [] [] D_wsz 109 rfl ⟨⟨rfl, rfl⟩, ⟨rfl, rfl⟩, ⟨rfl, congrArg (fun z => some (Value.bool z)) h4⟩, ⟨rfl, congrArg (fun z => some (Value.bool z)) h7⟩, trivial⟩ ⟨⟨rfl, fun w hM => mem_len0 Tryz.underlying22⟩, trivial⟩ trivial trivial (by kernel_rfl)
    · exact False.elim (by simp only [decide_eq_true_eq, decide_eq_false_iff_not, beq_iff_eq, bne_iff_ne, ne_eq, beq_eq_false_iff_ne, bne_eq_false_iff_eq, gt_iff_lt, ge_iff_le, Bool.not_eq_true] at h1 h4 h8; omega)
set_option maxRecDepth 100000 in
theorem wsz_0 (m o d : Int) (near : Bool) : GoodAt (fun _ => True) [.slice none 0 0, .int .i64 m, .int .i64 o, .int .u8 d, .bool near] 3 (cfg0 3 [.complex .f64 1 0, .complex .f64 2 0, .complex .f64 3 0, .complex .f64 4 0, .complex .f64 5 0]) := by
  rcases Bool.eq_false_or_eq_true (near) with h1 | h2
  · exact step_goM [.slice none 0 0, .int .i64 m, .int .i64 o, .int .u8 d, .bool near] [0, 2, 2, 2, 1] [] [(.len 22, [.complex .f64 1 0], .int .i64 0)] [] [(15, [], .bool true)] D_wsz 271 [41, 39, 40, 90, 88, 50, 80, 82, 47, 60, 72, 84] [.complex .f64 1 0, .complex .f64 2 0, .complex .f64 3 0, .complex .f64 4 0] [(4, .bool true)] [.slice none 0 0, .int .i64 m, .int .i64 o, .int .u8 d, .int .i64 (Int.tmod m 8), .int .i64 (Int.tmod o 5)] wsz_1_f0 [] wsz_1_o rfl trivial ⟨⟨rfl, fun w hM => mem_len0 Tryz.underlying22⟩, trivial⟩ trivial ⟨⟨rfl, fun w h => awake15 w h.1⟩, trivial⟩ rfl (by kernel_rfl) rfl rfl ⟨congrArg Value.bool h1, trivial⟩ (wsz_1 m o d near h1)
  · exact step_goM [.slice none 0 0, .int .i64 m, .int .i64 o, .int .u8 d, .bool near] [0, 2, 2, 2, 1] [] [(.len 22, [.complex .f64 1 0], .int .i64 0)] [] [(15, [], .bool true)] D_wsz 271 [41, 39, 40, 90, 88, 50, 80, 82, 47, 60, 72, 84] [.complex .f64 1 0, .complex .f64 2 0, .complex .f64 3 0, .complex .f64 4 0] [(4, .bool false)] [.slice none 0 0, .int .i64 m, .int .i64 o, .int .u8 d] wsz_2_f0 [] wsz_2_o rfl trivial ⟨⟨rfl, fun w hM => mem_len0 Tryz.underlying22⟩, trivial⟩ trivial ⟨⟨rfl, fun w h => awake15 w h.1⟩, trivial⟩ rfl (by kernel_rfl) rfl rfl ⟨congrArg Value.bool h2, trivial⟩ (wsz_2 m o d near h2)
end Go.Proofs.YtdgeilfopkbacaaGreatDoor.wsk
