/- A world in which the laid variables read as they are laid: the witness of the rows. -/
import Derived.Test.YtkcljohkcpdfaaaGreatDoorBase
import Derived.Test.YtkcljohkcpdfaaaGreatDoorFrm
set_option maxRecDepth 100000
set_option linter.unusedVariables false
namespace Go.Proofs.YtkcljohkcpdfaaaGreatDoor
open Go Go.ChangeShapes Go.WideShapes Go.RowKit
def newBlocks (n : Nat) : Array Obj := #[.cells #[.string ⟨#[118, 97, 108, 117, 101, 32, 111, 117, 116, 32, 111, 102, 32, 114, 97, 110, 103, 101]⟩] 352,
  .cells #[.string ⟨#[105, 110, 118, 97, 108, 105, 100, 32, 115, 121, 110, 116, 97, 120]⟩] 352,
  .map #[{ key := .int .i64 2, val := .string ⟨#[115, 105, 122, 101]⟩, born := 0 }, { key := .int .i64 3, val := .string ⟨#[100, 101, 101, 112]⟩, born := 1 }, { key := .int .i64 4, val := .string ⟨#[110, 111, 110, 101]⟩, born := 2 }, { key := .int .i64 7, val := .string ⟨#[107, 105, 110, 100]⟩, born := 3 }, { key := .int .i64 11, val := .string ⟨#[102, 114, 111, 122, 101, 110]⟩, born := 4 }, { key := .int .i64 12, val := .string ⟨#[114, 101, 118, 111, 107, 101, 100]⟩, born := 5 }, { key := .int .i64 13, val := .string ⟨#[98, 114, 97, 110, 100]⟩, born := 6 }, { key := .int .i64 14, val := .string ⟨#[99, 104, 97, 105, 110]⟩, born := 7 }, { key := .int .i64 15, val := .string ⟨#[108, 111, 110, 103]⟩, born := 8 }, { key := .int .i64 17, val := .string ⟨#[111, 119, 110, 101, 114]⟩, born := 9 }] 10,
  .map #[{ key := .string ⟨#[33, 61]⟩, val := .int .i64 12, born := 0 }, { key := .string ⟨#[60]⟩, val := .int .i64 13, born := 1 }, { key := .string ⟨#[61, 61]⟩, val := .int .i64 11, born := 2 }] 3,
  .map #[{ key := .string ⟨#[43]⟩, val := .int .i64 8, born := 0 }, { key := .string ⟨#[45]⟩, val := .int .i64 9, born := 1 }] 2,
  .map #[{ key := .string ⟨#[42]⟩, val := .int .i64 10, born := 0 }] 1,
  .map #[{ key := .int .i64 6, val := .int .u8 7, born := 0 }, { key := .int .i64 7, val := .int .u8 8, born := 1 }, { key := .int .i64 8, val := .int .u8 9, born := 2 }, { key := .int .i64 9, val := .int .u8 10, born := 3 }, { key := .int .i64 10, val := .int .u8 11, born := 4 }, { key := .int .i64 11, val := .int .u8 12, born := 5 }, { key := .int .i64 12, val := .int .u8 13, born := 6 }, { key := .int .i64 13, val := .int .u8 14, born := 7 }, { key := .int .i64 14, val := .int .u8 3, born := 8 }] 9]
def setCells (h : Array Obj) (g : Nat) (cs : Array Value) : Array Obj := h.modify g fun
  | .cells _ t frozen => .cells cs t frozen
  | o => o
noncomputable def laidWorld (os : Os) : World :=
  let w0 := World.settled Tryz.prog os
  let n := w0.heap.size
  let h := w0.heap ++ newBlocks n
  let h := setCells h 13 #[.int .u8 0, .int .u8 1, .int .u8 28, .int .u8 2, .int .u8 29, .int .u8 14, .int .u8 24, .int .u8 3, .int .u8 30, .int .u8 22, .int .u8 20, .int .u8 15, .int .u8 25, .int .u8 17, .int .u8 4, .int .u8 8, .int .u8 31, .int .u8 27, .int .u8 13, .int .u8 23, .int .u8 21, .int .u8 19, .int .u8 16, .int .u8 7, .int .u8 26, .int .u8 12, .int .u8 18, .int .u8 6, .int .u8 11, .int .u8 5, .int .u8 10, .int .u8 9]
  let h := setCells h 14 #[.int .u8 0, .int .u8 1, .int .u8 56, .int .u8 2, .int .u8 57, .int .u8 49, .int .u8 28, .int .u8 3, .int .u8 61, .int .u8 58, .int .u8 42, .int .u8 50, .int .u8 38, .int .u8 29, .int .u8 17, .int .u8 4, .int .u8 62, .int .u8 47, .int .u8 59, .int .u8 36, .int .u8 45, .int .u8 43, .int .u8 51, .int .u8 22, .int .u8 53, .int .u8 39, .int .u8 33, .int .u8 30, .int .u8 24, .int .u8 18, .int .u8 12, .int .u8 5, .int .u8 63, .int .u8 55, .int .u8 48, .int .u8 27, .int .u8 60, .int .u8 41, .int .u8 37, .int .u8 16, .int .u8 46, .int .u8 35, .int .u8 44, .int .u8 21, .int .u8 52, .int .u8 32, .int .u8 23, .int .u8 11, .int .u8 54, .int .u8 26, .int .u8 40, .int .u8 15, .int .u8 34, .int .u8 20, .int .u8 31, .int .u8 10, .int .u8 25, .int .u8 14, .int .u8 19, .int .u8 9, .int .u8 13, .int .u8 8, .int .u8 7, .int .u8 6]
  let h := setCells h 11 #[.int .u64 1, .int .u64 10, .int .u64 100, .int .u64 1000, .int .u64 10000, .int .u64 100000, .int .u64 1000000, .int .u64 10000000, .int .u64 100000000, .int .u64 1000000000, .int .u64 10000000000, .int .u64 100000000000, .int .u64 1000000000000, .int .u64 10000000000000, .int .u64 100000000000000, .int .u64 1000000000000000, .int .u64 10000000000000000, .int .u64 100000000000000000, .int .u64 1000000000000000000, .int .u64 10000000000000000000]
  let h := setCells h 9 #[.iface 350 (.pointer (some ⟨n + 0, 0, none⟩))]
  let h := setCells h 8 #[.iface 350 (.pointer (some ⟨n + 1, 0, none⟩))]
  let h := setCells h 12 #[.string ⟨#[99, 111, 110, 115, 116]⟩, .string ⟨#[109, 111, 118, 101]⟩, .string ⟨#[110, 101, 119]⟩, .string ⟨#[103, 101, 116]⟩, .string ⟨#[112, 117, 116]⟩, .string ⟨#[99, 108, 111, 115, 101]⟩, .string ⟨#[99, 97, 108, 108]⟩, .string ⟨#[109, 105, 110, 117, 115]⟩, .string ⟨#[110, 111, 116]⟩, .string ⟨#[97, 100, 100]⟩, .string ⟨#[115, 117, 98]⟩, .string ⟨#[109, 117, 108]⟩, .string ⟨#[101, 113, 117, 97, 108]⟩, .string ⟨#[117, 110, 108, 105, 107, 101]⟩, .string ⟨#[108, 101, 115, 115]⟩, .string ⟨#[106, 117, 109, 112]⟩, .string ⟨#[98, 97, 99, 107]⟩, .string ⟨#[117, 110, 108, 101, 115, 115]⟩, .string ⟨#[114, 101, 116, 117, 114, 110]⟩, .string ⟨#[116, 104, 114, 111, 119]⟩, .string ⟨#[116, 114, 121]⟩, .string ⟨#[100, 111, 110, 101]⟩]
  let h := setCells h 1 #[.map (some (n + 2))]
  let h := setCells h 2 #[.string ⟨#[110, 105, 108]⟩, .string ⟨#[98, 111, 111, 108]⟩, .string ⟨#[105, 110, 116]⟩, .string ⟨#[116, 101, 120, 116]⟩, .string ⟨#[102, 117, 110, 99, 116, 105, 111, 110]⟩, .string ⟨#[]⟩]
  let h := setCells h 3 #[.string ⟨#[114, 101, 99, 111, 114, 100]⟩, .string ⟨#[102, 117, 110, 99, 116, 105, 111, 110]⟩, .string ⟨#[98, 114, 97, 110, 100]⟩, .string ⟨#[102, 117, 110, 99, 116, 105, 111, 110]⟩, .string ⟨#[102, 117, 110, 99, 116, 105, 111, 110]⟩, .string ⟨#[98, 111, 120]⟩, .string ⟨#[]⟩, .string ⟨#[102, 117, 110, 99, 116, 105, 111, 110]⟩]
  let h := setCells h 15 #[.string ⟨#[]⟩, .string ⟨#[]⟩, .string ⟨#[]⟩, .string ⟨#[]⟩, .string ⟨#[]⟩, .string ⟨#[]⟩, .string ⟨#[45]⟩, .string ⟨#[33]⟩, .string ⟨#[43]⟩, .string ⟨#[45]⟩, .string ⟨#[42]⟩, .string ⟨#[61, 61]⟩, .string ⟨#[33, 61]⟩, .string ⟨#[60]⟩, .string ⟨#[]⟩, .string ⟨#[]⟩, .string ⟨#[]⟩, .string ⟨#[]⟩]
  let h := setCells h 5 #[.string ⟨#[108, 101, 116]⟩, .string ⟨#[105, 102]⟩, .string ⟨#[101, 108, 115, 101]⟩, .string ⟨#[119, 104, 105, 108, 101]⟩, .string ⟨#[114, 101, 116, 117, 114, 110]⟩, .string ⟨#[116, 104, 114, 111, 119]⟩, .string ⟨#[116, 114, 121]⟩, .string ⟨#[99, 97, 116, 99, 104]⟩, .string ⟨#[102, 110]⟩, .string ⟨#[110, 105, 108]⟩, .string ⟨#[116, 114, 117, 101]⟩, .string ⟨#[102, 97, 108, 115, 101]⟩]
  let h := setCells h 4 #[.map (some (n + 3)), .map (some (n + 4)), .map (some (n + 5))]
  let h := setCells h 0 #[.string ⟨#[114, 101, 116, 117, 114, 110]⟩, .int .i64 5, .string ⟨#[116, 104, 114, 111, 119]⟩, .int .i64 6]
  let h := setCells h 10 #[.string ⟨#[108, 101, 110]⟩, .string ⟨#[102, 114, 101, 101, 122, 101]⟩, .string ⟨#[102, 114, 111, 122, 101, 110]⟩, .string ⟨#[98, 114, 97, 110, 100]⟩, .string ⟨#[107, 105, 110, 100]⟩, .string ⟨#[116, 101, 120, 116]⟩]
  let h := setCells h 6 #[.map (some (n + 6))]
  { w0 with heap := h }
theorem own : ownKnob Tryz.prog.godebug = none := by kernel_rfl
theorem laidOut : laidOutB Tryz.prog = true := by kernel_rfl
theorem laid_plain : (laid0.all fun x => x.2.handleName?.isNone) = true := by kernel_rfl
theorem laid_met {w : World} (h : laidMetH Tryz.prog laid0 w) : laidMet Tryz.prog laid0 w := by
  rw [MakeChecks.laidMetH_plain _ _ _ laid_plain] at h
  exact h
theorem laidWorld_met (os : Os) (args : Array Value) : laidMetH Tryz.prog laid0 ((laidWorld os).forCall (fun _ _ => 0) ⟨#[], args, []⟩).memory := by
  rw [MakeChecks.laidMetH_plain _ _ _ laid_plain]
  exact laidMet_of_run' 8 (by kernel_rfl) (by kernel_rfl)
theorem big {w : World} (h : w.ShapedOpen Tryz.prog) : 16 ≤ w.heap.size := Frm.big_of_shape (g := 15) h (of_decide_eq_true (by kernel_rfl)) (by kernel_rfl)
theorem laid_of {w : World} (h : laidMetH Tryz.prog laid0 w) (hs : w.ShapedOpen Tryz.prog) : Laid w := laid_of_met (laid_met h) (big hs)
end Go.Proofs.YtkcljohkcpdfaaaGreatDoor
