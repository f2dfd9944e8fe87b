/- The ground of a seat: the laid variables as the evaluator's first state, out of the row's data; the packages' Awake, each by one run of the evaluator over the one below. No condition but that the laid variables read as they are laid. -/
import Derived.Test.YtmmfpkkkpeapeaaGreatDoorEvW
import Derived.Test.YtmmfpkkkpeapeaaGreatDoorRows
import Derived.KernelRfl
import Derived.Lib.LaidTab
import Derived.Lib.ItoaNum
set_option maxRecDepth 100000
namespace Go.Proofs.YtmmfpkkkpeapeaaGreatDoor
open Go Go.RowKit Ev
def low0 : AObj := .cells #[.string ⟨#[99, 111, 110, 115, 116]⟩, .string ⟨#[109, 111, 118, 101]⟩, .string ⟨#[110, 101, 119]⟩, .string ⟨#[103, 101, 116]⟩, .string ⟨#[112, 117, 116]⟩, .string ⟨#[99, 108, 111, 115, 101]⟩, .string ⟨#[99, 97, 108, 108]⟩, .string ⟨#[109, 105, 110, 117, 115]⟩, .string ⟨#[110, 111, 116]⟩, .string ⟨#[97, 100, 100]⟩, .string ⟨#[115, 117, 98]⟩, .string ⟨#[109, 117, 108]⟩, .string ⟨#[101, 113, 117, 97, 108]⟩, .string ⟨#[117, 110, 108, 105, 107, 101]⟩, .string ⟨#[108, 101, 115, 115]⟩, .string ⟨#[106, 117, 109, 112]⟩, .string ⟨#[98, 97, 99, 107]⟩, .string ⟨#[117, 110, 108, 101, 115, 115]⟩, .string ⟨#[114, 101, 116, 117, 114, 110]⟩, .string ⟨#[116, 104, 114, 111, 119]⟩, .string ⟨#[116, 114, 121]⟩, .string ⟨#[100, 111, 110, 101]⟩] 0 true 0
def low1 : AObj := .cells #[.string ⟨#[108, 101, 110]⟩, .string ⟨#[102, 114, 101, 101, 122, 101]⟩, .string ⟨#[102, 114, 111, 122, 101, 110]⟩, .string ⟨#[98, 114, 97, 110, 100]⟩, .string ⟨#[107, 105, 110, 100]⟩, .string ⟨#[116, 101, 120, 116]⟩] 0 true 0
def low2 : AObj := .cells #[.string ⟨#[114, 101, 116, 117, 114, 110]⟩, .int .i64 5, .string ⟨#[116, 104, 114, 111, 119]⟩, .int .i64 6] 0 true 0
def low3 : AObj := .cells #[.string ⟨#[108, 101, 116]⟩, .string ⟨#[105, 102]⟩, .string ⟨#[101, 108, 115, 101]⟩, .string ⟨#[119, 104, 105, 108, 101]⟩, .string ⟨#[114, 101, 116, 117, 114, 110]⟩, .string ⟨#[116, 104, 114, 111, 119]⟩, .string ⟨#[116, 114, 121]⟩, .string ⟨#[99, 97, 116, 99, 104]⟩, .string ⟨#[102, 110]⟩, .string ⟨#[110, 105, 108]⟩, .string ⟨#[116, 114, 117, 101]⟩, .string ⟨#[102, 97, 108, 115, 101]⟩] 0 true 0
def low4 : AObj := .cells #[.map (some 13), .map (some 14), .map (some 15)] 0 true 0
def low5 : AObj := .cells #[.string ⟨#[]⟩, .string ⟨#[]⟩, .string ⟨#[]⟩, .string ⟨#[]⟩, .string ⟨#[]⟩, .string ⟨#[]⟩, .string ⟨#[45]⟩, .string ⟨#[33]⟩, .string ⟨#[43]⟩, .string ⟨#[45]⟩, .string ⟨#[42]⟩, .string ⟨#[61, 61]⟩, .string ⟨#[33, 61]⟩, .string ⟨#[60]⟩, .string ⟨#[]⟩, .string ⟨#[]⟩, .string ⟨#[]⟩, .string ⟨#[]⟩] 0 true 0
def low6 : AObj := .cells #[.int .u64 1, .int .u64 10, .int .u64 100, .int .u64 1000, .int .u64 10000, .int .u64 100000, .int .u64 1000000, .int .u64 10000000, .int .u64 100000000, .int .u64 1000000000, .int .u64 10000000000, .int .u64 100000000000, .int .u64 1000000000000, .int .u64 10000000000000, .int .u64 100000000000000, .int .u64 1000000000000000, .int .u64 10000000000000000, .int .u64 100000000000000000, .int .u64 1000000000000000000, .int .u64 10000000000000000000] 0 true 0
def low7 : AObj := .cells #[.map (some 16)] 0 true 0
def low9 : AObj := .cells #[.int .u8 0, .int .u8 1, .int .u8 28, .int .u8 2, .int .u8 29, .int .u8 14, .int .u8 24, .int .u8 3, .int .u8 30, .int .u8 22, .int .u8 20, .int .u8 15, .int .u8 25, .int .u8 17, .int .u8 4, .int .u8 8, .int .u8 31, .int .u8 27, .int .u8 13, .int .u8 23, .int .u8 21, .int .u8 19, .int .u8 16, .int .u8 7, .int .u8 26, .int .u8 12, .int .u8 18, .int .u8 6, .int .u8 11, .int .u8 5, .int .u8 10, .int .u8 9] 0 true 0
def low10 : AObj := .cells #[.int .u8 0, .int .u8 1, .int .u8 56, .int .u8 2, .int .u8 57, .int .u8 49, .int .u8 28, .int .u8 3, .int .u8 61, .int .u8 58, .int .u8 42, .int .u8 50, .int .u8 38, .int .u8 29, .int .u8 17, .int .u8 4, .int .u8 62, .int .u8 47, .int .u8 59, .int .u8 36, .int .u8 45, .int .u8 43, .int .u8 51, .int .u8 22, .int .u8 53, .int .u8 39, .int .u8 33, .int .u8 30, .int .u8 24, .int .u8 18, .int .u8 12, .int .u8 5, .int .u8 63, .int .u8 55, .int .u8 48, .int .u8 27, .int .u8 60, .int .u8 41, .int .u8 37, .int .u8 16, .int .u8 46, .int .u8 35, .int .u8 44, .int .u8 21, .int .u8 52, .int .u8 32, .int .u8 23, .int .u8 11, .int .u8 54, .int .u8 26, .int .u8 40, .int .u8 15, .int .u8 34, .int .u8 20, .int .u8 31, .int .u8 10, .int .u8 25, .int .u8 14, .int .u8 19, .int .u8 9, .int .u8 13, .int .u8 8, .int .u8 7, .int .u8 6] 0 true 0
def low13 : AObj := .table [(.string ⟨#[33, 61]⟩, .int .i64 12), (.string ⟨#[60]⟩, .int .i64 13), (.string ⟨#[61, 61]⟩, .int .i64 11)]
def low14 : AObj := .table [(.string ⟨#[43]⟩, .int .i64 8), (.string ⟨#[45]⟩, .int .i64 9)]
def low15 : AObj := .table [(.string ⟨#[42]⟩, .int .i64 10)]
def low16 : AObj := .table [(.int .i64 6, .int .u8 7), (.int .i64 7, .int .u8 8), (.int .i64 8, .int .u8 9), (.int .i64 9, .int .u8 10), (.int .i64 10, .int .u8 11), (.int .i64 11, .int .u8 12), (.int .i64 12, .int .u8 13), (.int .i64 13, .int .u8 14), (.int .i64 14, .int .u8 3)]
def heap0 : Tr AObj := (.node (.node (.node (.node (.node .nil (some low15) .nil) (some low7) .nil) (some low3) .nil) (some low1) (.node (.node .nil (some low9) .nil) (some low5) (.node .nil (some low13) .nil))) (some low0) (.node (.node (.node (.node .nil (some low16) .nil) none .nil) (some low4) .nil) (some low2) (.node (.node .nil (some low10) .nil) (some low6) (.node .nil (some low14) .nil))))
def st0 : St := ⟨heap0, 29⟩
def laid0 : List (String × DataW Unit) := [("math/bits.deBruijn32tab", Rows.laid_math_bits_deBruijn32tab), ("math/bits.deBruijn64tab", Rows.laid_math_bits_deBruijn64tab), ("internal/strconv.uint64pow10", Rows.laid_internal_strconv_uint64pow10), ("strconv.ErrRange", Rows.laid_strconv_ErrRange), ("strconv.ErrSyntax", Rows.laid_strconv_ErrSyntax), ("paling/code.words", Rows.laid_paling_code_words), ("paling/tree.signs", Rows.laid_paling_tree_signs), ("paling/parse.reserved", Rows.laid_paling_parse_reserved), ("paling/parse.levels", Rows.laid_paling_parse_levels), ("paling/parse.simple", Rows.laid_paling_parse_simple), ("paling/scope.words", Rows.laid_paling_scope_words), ("paling/compile.ops", Rows.laid_paling_compile_ops)]
theorem gen : setAll (genL Tryz.prog laid0 13).1 .nil = heap0 := by kernel_rfl
theorem gen_cnt : (genL Tryz.prog laid0 13).2 = 4 := by kernel_rfl
theorem gen_small : ((genL Tryz.prog laid0 13).1.all fun p => decide (p.1 + 1 < 1099511627776)) = true := by kernel_rfl
theorem gen_globals : Tryz.prog.globals.size = 13 := by kernel_rfl
/-- The laid variables read so. -/
def Laid (w : World) : Prop := LaidN 13 4 st0 w.heap.size w
theorem laid_of_met {w : World} (h : laidMet Tryz.prog laid0 w) (hsz : 13 ≤ w.heap.size) : Laid w := laidN_of_met h gen_globals (by decide) hsz gen gen_cnt gen_small 29
theorem esc_run : EscRun Tryz.prog 211 := .inr (run_callFunc_extern Tryz.func211 (by kernel_rfl) (by kernel_rfl) (by kernel_rfl) (by kernel_rfl))
theorem idx_run : IdxRun Tryz.prog 191 := .inr (run_callFunc_extern Tryz.func191 (by kernel_rfl) (by kernel_rfl) (by kernel_rfl) (by kernel_rfl))
theorem mixed : Tryz.prog.follows .mixedOrders = true := by kernel_rfl
/-- What the run of a call at tokens gives. -/
noncomputable def ran (ks : List Nat) (facts mems : List Fact) (eqs : List EqF) (calls : List CallF) (f : Nat) (args : List Value) : Option Value :=
  runs (envOf Tryz.prog (13 + 16) (eqTT ks eqs)) (extOf 211 191 (factT (facts ++ mems))) (callT calls) 100000 200 st0 f args.toArray
theorem tabM (M : World → Prop) (l : List Value) (ks : List Nat) (facts mems : List Fact) (eqs : List EqF) (calls : List CallF) (f : Nat) (args : List Value) (v : Value) (hl : (l.all fun v => v.oneCell') = true) (hk : KindsB l ks = true) (hfacts : FactsOk Tryz.prog l facts) (hmems : MemsOk Tryz.prog M l mems) (heqs : EqsOk l eqs) (hcalls : CallsOk Tryz.prog (fun w => Laid w ∧ M w) l calls)
    (hrun : ran ks facts mems eqs calls f args = some v) (hs : sim3 v = true) (ha : args.all sim2 = true) (w : World) (hL : Laid w) (hM : M w) (keepM : ∀ w1 w2, Below w.heap.size w1 w2 → M w1 → M w2) :
    Calls Tryz.prog f (args.map (den2 l)).toArray w fun e w' => e = .returned (den l v) ∧ Below w.heap.size w w' :=
  calls_of_tab (ng := 13) (nt := 4) (by decide) (by decide) mixed esc_run idx_run M l ks facts mems eqs calls f args v hl hk hfacts hmems heqs hcalls hrun hs ha w hL hM keepM
theorem callsOk_laid {l : List Value} : ∀ {cs : List CallF}, CallsOk Tryz.prog Laid l cs → CallsOk Tryz.prog (fun w => Laid w ∧ True) l cs
  | [], _ => trivial
  | _ :: _, h => ⟨⟨h.1.1, fun w hw => h.1.2 w hw.1⟩, callsOk_laid h.2⟩
theorem tab (l : List Value) (ks : List Nat) (facts : List Fact) (eqs : List EqF) (calls : List CallF) (f : Nat) (args : List Value) (v : Value) (hl : (l.all fun v => v.oneCell') = true) (hk : KindsB l ks = true) (hfacts : FactsOk Tryz.prog l facts) (heqs : EqsOk l eqs) (hcalls : CallsOk Tryz.prog Laid l calls)
    (hrun : ran ks facts [] eqs calls f args = some v) (hs : sim3 v = true) (ha : args.all sim2 = true) (w : World) (hL : Laid w) :
    Calls Tryz.prog f (args.map (den2 l)).toArray w fun e w' => e = .returned (den l v) ∧ Below w.heap.size w w' :=
  tabM (fun _ => True) l ks facts [] eqs calls f args v hl hk hfacts trivial heqs (callsOk_laid hcalls) hrun hs ha w hL trivial (fun _ _ _ _ => trivial)
theorem pow10_tab {w : World} (h : Laid w) : Lib.TabIs Tryz.prog w "internal/strconv.uint64pow10" .u64 Lib.pow10Tab := by
  obtain ⟨t', fr, e⟩ := laid_cells (P := Tryz.prog) h (b := 6) (t := 0) (f := true) (g := 0) (by decide) (by kernel_rfl) (by kernel_rfl)
  have hg : Tryz.prog.globalNamed "internal/strconv.uint64pow10" = some 6 := by kernel_rfl
  unfold Lib.TabIs World.var?
  rw [hg, Option.bind_some, e]
end Go.Proofs.YtmmfpkkkpeapeaaGreatDoor
