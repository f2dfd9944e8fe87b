/- MachineErrors. -/
import Derived.Test.YtdgeilfopkbacaaGreatDoorAwake
import Derived.Test.YtdgeilfopkbacaaGreatDoorCf
set_option linter.unusedVariables false
set_option linter.unusedSimpArgs false
set_option maxRecDepth 100000
namespace Go.Proofs.YtdgeilfopkbacaaGreatDoor.errs
open Go Go.RowKit Ev
noncomputable def D_e : List Nat := [7]
theorem aw : CallsOk Tryz.prog Laid [] [(35, [], .bool true)] := ⟨⟨rfl, fun w h => awake17 w h⟩, trivial⟩
theorem c0 : ((List.range' 0 32).all fun k => doneB (seg [] [] [] [(35, [], .bool true)] D_e 100000 (cfg0 7 [.int .u8 (Int.ofNat k)]))) = true := by kernel_rfl
theorem c32 : ((List.range' 32 32).all fun k => doneB (seg [] [] [] [(35, [], .bool true)] D_e 100000 (cfg0 7 [.int .u8 (Int.ofNat k)]))) = true := by kernel_rfl
theorem c64 : ((List.range' 64 32).all fun k => doneB (seg [] [] [] [(35, [], .bool true)] D_e 100000 (cfg0 7 [.int .u8 (Int.ofNat k)]))) = true := by kernel_rfl
theorem c96 : ((List.range' 96 32).all fun k => doneB (seg [] [] [] [(35, [], .bool true)] D_e 100000 (cfg0 7 [.int .u8 (Int.ofNat k)]))) = true := by kernel_rfl
theorem c128 : ((List.range' 128 32).all fun k => doneB (seg [] [] [] [(35, [], .bool true)] D_e 100000 (cfg0 7 [.int .u8 (Int.ofNat k)]))) = true := by kernel_rfl
theorem c160 : ((List.range' 160 32).all fun k => doneB (seg [] [] [] [(35, [], .bool true)] D_e 100000 (cfg0 7 [.int .u8 (Int.ofNat k)]))) = true := by kernel_rfl
theorem c192 : ((List.range' 192 32).all fun k => doneB (seg [] [] [] [(35, [], .bool true)] D_e 100000 (cfg0 7 [.int .u8 (Int.ofNat k)]))) = true := by kernel_rfl
theorem c224 : ((List.range' 224 32).all fun k => doneB (seg [] [] [] [(35, [], .bool true)] D_e 100000 (cfg0 7 [.int .u8 (Int.ofNat k)]))) = true := by kernel_rfl
theorem good (k : Nat) (h : k < 256) : GoodF [] 7 (cfg0 7 [.int .u8 (Int.ofNat k)]) := by
  refine step_done [] [] [] [] [(35, [], .bool true)] D_e 100000 rfl trivial trivial aw ?_
  have key : ∀ a, ((List.range' a 32).all fun k => doneB (seg [] [] [] [(35, [], .bool true)] D_e 100000 (cfg0 7 [.int .u8 (Int.ofNat k)]))) = true → a ≤ k → k < a + 32 → doneB (seg [] [] [] [(35, [], .bool true)] D_e 100000 (cfg0 7 [.int .u8 (Int.ofNat k)])) = true :=
    fun a ha h1 h2 => List.all_eq_true.1 ha k (by rw [List.mem_range'_1]; omega)
  rcases (show k < 32 ∨ (32 ≤ k ∧ k < 64) ∨ (64 ≤ k ∧ k < 96) ∨ (96 ≤ k ∧ k < 128) ∨ (128 ≤ k ∧ k < 160) ∨ (160 ≤ k ∧ k < 192) ∨ (192 ≤ k ∧ k < 224) ∨ (224 ≤ k ∧ k < 256) by omega) with h | h | h | h | h | h | h | h
  · exact key 0 c0 (by omega) (by omega)
  · exact key 32 c32 (by omega) (by omega)
  · exact key 64 c64 (by omega) (by omega)
  · exact key 96 c96 (by omega) (by omega)
  · exact key 128 c128 (by omega) (by omega)
  · exact key 160 c160 (by omega) (by omega)
  · exact key 192 c192 (by omega) (by omega)
  · exact key 224 c224 (by omega) (by omega)
theorem law (x : Int) (hx : 0 ≤ x ∧ x ≤ 255) (w : World) (hL : Laid w) : Calls Tryz.prog 7 #[.int .u8 x] w fun e w' => e = .returned (.bool true) ∧ Below w.heap.size w w' := by
  obtain ⟨k, rfl⟩ := Int.eq_ofNat_of_zero_le hx.1
  exact calls_of_good [] rfl Tryz.func7 rfl [.int .u8 (Int.ofNat k)] (of_decide_eq_true (by kernel_rfl)) rfl (good k (by omega)) w hL
end Go.Proofs.YtdgeilfopkbacaaGreatDoor.errs
