/- The ground of a seat: the laid variables as the evaluator's first state, out of the row's data; the packages' Awake, each by one run of the evaluator over the one below. No condition but that the laid variables read as they are laid. -/
import Derived.Test.YtjhpigbilfbikaaDoorEvW
import Derived.Test.YtjhpigbilfbikaaDoorRows
import Derived.KernelRfl
import Derived.Test.YtjhpigbilfbikaaDoorShelf
import Derived.PinnedBridge
import Derived.Shelf.Unicode.DecodeSlow
import Derived.Lib.QuoteLoop
import Derived.Lib.LaidTab
import Derived.Lib.ItoaNum
set_option maxRecDepth 100000
set_option linter.unusedVariables false
namespace Go.Proofs.YtjhpigbilfbikaaDoor
open Go Go.RowKit Ev
def low0 : AObj := .cells #[.int .u64 1, .int .u64 10, .int .u64 100, .int .u64 1000, .int .u64 10000, .int .u64 100000, .int .u64 1000000, .int .u64 10000000, .int .u64 100000000, .int .u64 1000000000, .int .u64 10000000000, .int .u64 100000000000, .int .u64 1000000000000, .int .u64 10000000000000, .int .u64 100000000000000, .int .u64 1000000000000000, .int .u64 10000000000000000, .int .u64 100000000000000000, .int .u64 1000000000000000000, .int .u64 10000000000000000000] 0 true 0
def low1 : AObj := .cells #[.int .u8 0, .int .u8 1, .int .u8 28, .int .u8 2, .int .u8 29, .int .u8 14, .int .u8 24, .int .u8 3, .int .u8 30, .int .u8 22, .int .u8 20, .int .u8 15, .int .u8 25, .int .u8 17, .int .u8 4, .int .u8 8, .int .u8 31, .int .u8 27, .int .u8 13, .int .u8 23, .int .u8 21, .int .u8 19, .int .u8 16, .int .u8 7, .int .u8 26, .int .u8 12, .int .u8 18, .int .u8 6, .int .u8 11, .int .u8 5, .int .u8 10, .int .u8 9] 0 true 0
def low2 : AObj := .cells #[.int .u8 0, .int .u8 1, .int .u8 56, .int .u8 2, .int .u8 57, .int .u8 49, .int .u8 28, .int .u8 3, .int .u8 61, .int .u8 58, .int .u8 42, .int .u8 50, .int .u8 38, .int .u8 29, .int .u8 17, .int .u8 4, .int .u8 62, .int .u8 47, .int .u8 59, .int .u8 36, .int .u8 45, .int .u8 43, .int .u8 51, .int .u8 22, .int .u8 53, .int .u8 39, .int .u8 33, .int .u8 30, .int .u8 24, .int .u8 18, .int .u8 12, .int .u8 5, .int .u8 63, .int .u8 55, .int .u8 48, .int .u8 27, .int .u8 60, .int .u8 41, .int .u8 37, .int .u8 16, .int .u8 46, .int .u8 35, .int .u8 44, .int .u8 21, .int .u8 52, .int .u8 32, .int .u8 23, .int .u8 11, .int .u8 54, .int .u8 26, .int .u8 40, .int .u8 15, .int .u8 34, .int .u8 20, .int .u8 31, .int .u8 10, .int .u8 25, .int .u8 14, .int .u8 19, .int .u8 9, .int .u8 13, .int .u8 8, .int .u8 7, .int .u8 6] 0 true 0
def low3 : AObj := .cells (Go.Pinned.utf8FirstZ.map fun (n : Nat) => Value.int .u8 (n : Int)).toArray 0 true 0
def low4 : AObj := .cells #[.int .u8 128, .int .u8 191, .int .u8 160, .int .u8 191, .int .u8 128, .int .u8 159, .int .u8 144, .int .u8 191, .int .u8 128, .int .u8 143, .int .u8 0, .int .u8 0, .int .u8 0, .int .u8 0, .int .u8 0, .int .u8 0, .int .u8 0, .int .u8 0, .int .u8 0, .int .u8 0, .int .u8 0, .int .u8 0, .int .u8 0, .int .u8 0, .int .u8 0, .int .u8 0, .int .u8 0, .int .u8 0, .int .u8 0, .int .u8 0, .int .u8 0, .int .u8 0] 0 true 0
def heap0 : Tr AObj := (.node (.node (.node .nil (some low3) .nil) (some low1) .nil) (some low0) (.node (.node .nil (some low4) .nil) (some low2) .nil))
def st0 : St := ⟨heap0, 26⟩
def laid0 : List (String × DataW Unit) := [("math/bits.deBruijn32tab", Rows.laid_math_bits_deBruijn32tab), ("math/bits.deBruijn64tab", Rows.laid_math_bits_deBruijn64tab), ("internal/strconv.uint64pow10", Rows.laid_internal_strconv_uint64pow10), ("unicode/utf8.acceptRanges", Rows.laid_unicode_utf8_acceptRanges), ("strconv.isGraphic", Rows.laid_strconv_isGraphic), ("strconv.isNotPrint16", Rows.laid_strconv_isNotPrint16), ("strconv.isNotPrint32", Rows.laid_strconv_isNotPrint32), ("strconv.isPrint16", Rows.laid_strconv_isPrint16), ("strconv.isPrint32", Rows.laid_strconv_isPrint32), ("unicode/utf8.first", Rows.laid_unicode_utf8_first)]
theorem gen : setAll (genL Tryd.prog laid0 10).1 .nil = heap0 := by kernel_rfl
theorem gen_cnt : (genL Tryd.prog laid0 10).2 = 0 := by kernel_rfl
theorem gen_small : ((genL Tryd.prog laid0 10).1.all fun p => decide (p.1 + 1 < 1099511627776)) = true := by kernel_rfl
theorem gen_globals : Tryd.prog.globals.size = 10 := by kernel_rfl
/-- Go's own tables lie in their variables. -/
def Tabs (w : World) : Prop := Lib.PrintTabsAt 5 6 7 8 Lib.goPrintTabs w ∧ Lib.Utf8Tabs 3 4 w
theorem cell_lt {w : World} {a : Addr} {v : Value} (h : w.cell? a = some v) : a.block < w.heap.size := World.block_lt_of_cell? w a h
theorem tabSlice_below {g : Nat} {k : IntKind} {t : List Nat} {w w' : World} (h : Lib.TabSlice g k t w) (hb : Below w.heap.size w w') : Lib.TabSlice g k t w' := by
  obtain ⟨R, o, c, h1, h2⟩ := h
  exact ⟨R, o, c, (hb.cell (cell_lt h1)).trans h1, fun j hj => (hb.cell (cell_lt (h2 j hj))).trans (h2 j hj)⟩
theorem tabs_below {w w' : World} (h : Tabs w) (hb : Below w.heap.size w w') : Tabs w' := by
  obtain ⟨⟨a, b, c, d, e⟩, f, k⟩ := h
  exact ⟨⟨tabSlice_below a hb, tabSlice_below b hb, tabSlice_below c hb, tabSlice_below d hb, e⟩, fun i hi => (hb.cell (cell_lt (f i hi))).trans (f i hi),
    fun i hi => ⟨(hb.cell (cell_lt (k i hi).1)).trans (k i hi).1, (hb.cell (cell_lt (k i hi).2)).trans (k i hi).2⟩⟩
open Go.Lib in
theorem tabs_of_met {w : World} (h : laidMet Tryd.prog laid0 w) : Tabs w :=
  ⟨⟨tabSlice_of_reads (t := 74) (e := 73) (by kernel_rfl) (by kernel_rfl) Tryd.underlying74 Tryd.underlying73 (by kernel_rfl) (by decide) (by rw [← Pinned.isPrint16_eq]; exact laidMet.reads h (List.mem_of_getElem? (i := 7) rfl)),
    tabSlice_of_reads (t := 74) (e := 73) (by kernel_rfl) (by kernel_rfl) Tryd.underlying74 Tryd.underlying73 (by kernel_rfl) (by decide) (by rw [← Pinned.isNotPrint16_eq]; exact laidMet.reads h (List.mem_of_getElem? (i := 5) rfl)),
    tabSlice_of_reads (t := 77) (e := 44) (by kernel_rfl) (by kernel_rfl) Tryd.underlying77 Tryd.underlying44 (by kernel_rfl) (by decide) (by rw [← Pinned.isPrint32_eq]; exact laidMet.reads h (List.mem_of_getElem? (i := 8) rfl)),
    tabSlice_of_reads (t := 74) (e := 73) (by kernel_rfl) (by kernel_rfl) Tryd.underlying74 Tryd.underlying73 (by kernel_rfl) (by decide) (by rw [← Pinned.isNotPrint32_eq]; exact laidMet.reads h (List.mem_of_getElem? (i := 6) rfl)),
   by decide, by decide, by decide⟩,
   utf8Tabs_of_reads Tryd.lays260 ⟨by kernel_rfl, by kernel_rfl, by kernel_rfl, by kernel_rfl, by kernel_rfl, by kernel_rfl, by kernel_rfl⟩
     (by rw [← Pinned.utf8First_eq]; exact laidMet.reads h (List.mem_of_getElem? (i := 9) rfl)) (by rw [show acceptData = Rows.laid_unicode_utf8_acceptRanges from by kernel_rfl]; exact laidMet.reads h (List.mem_of_getElem? (i := 3) rfl))⟩
/-- The laid variables read so. -/
def Laid (w : World) : Prop := LaidN 10 0 st0 w.heap.size w ∧ Tabs w
theorem laid_of_met {w : World} (h : laidMet Tryd.prog laid0 w) (hsz : 10 ≤ w.heap.size) : Laid w := ⟨laidN_of_met h gen_globals (by decide) hsz gen gen_cnt gen_small 26, tabs_of_met h⟩
theorem esc_run : EscRun Tryd.prog 0 := .inl rfl
theorem idx_run : IdxRun Tryd.prog 0 := .inl rfl
theorem mixed : Tryd.prog.follows .mixedOrders = true := by kernel_rfl
/-- What the run of a call at tokens gives. -/
noncomputable def ran (ks : List Nat) (facts mems : List Fact) (eqs : List EqF) (calls : List CallF) (f : Nat) (args : List Value) : Option Value :=
  runs (envOf Tryd.prog (10 + 16) (eqTT ks eqs)) (extOf 0 0 (factT (facts ++ mems))) (callT calls) 100000 200 st0 f args.toArray
theorem tabM (M : World → Prop) (l : List Value) (ks : List Nat) (facts mems : List Fact) (eqs : List EqF) (calls : List CallF) (f : Nat) (args : List Value) (v : Value) (hl : (l.all fun v => v.oneCell') = true) (hk : KindsB l ks = true) (hfacts : FactsOk Tryd.prog l facts) (hmems : MemsOk Tryd.prog M l mems) (heqs : EqsOk l eqs) (hcalls : CallsOk Tryd.prog (fun w => LaidN 10 0 st0 w.heap.size w ∧ M w) l calls)
    (hrun : ran ks facts mems eqs calls f args = some v) (hs : sim3 v = true) (ha : args.all sim2 = true) (w : World) (hL : LaidN 10 0 st0 w.heap.size w) (hM : M w) (keepM : ∀ w1 w2, Below w.heap.size w1 w2 → M w1 → M w2) :
    Calls Tryd.prog f (args.map (den2 l)).toArray w fun e w' => e = .returned (den l v) ∧ Below w.heap.size w w' :=
  calls_of_tab (ng := 10) (nt := 0) (by decide) (by decide) mixed esc_run idx_run M l ks facts mems eqs calls f args v hl hk hfacts hmems heqs hcalls hrun hs ha w hL hM keepM
theorem callsOk_mono {l : List Value} {X Y : World → Prop} (hxy : ∀ w, Y w → X w) : ∀ {cs : List CallF}, CallsOk Tryd.prog X l cs → CallsOk Tryd.prog Y l cs
  | [], _ => trivial
  | _ :: _, h => ⟨⟨h.1.1, fun w hw => h.1.2 w (hxy w hw)⟩, callsOk_mono hxy h.2⟩
theorem tab (l : List Value) (ks : List Nat) (facts : List Fact) (eqs : List EqF) (calls : List CallF) (f : Nat) (args : List Value) (v : Value) (hl : (l.all fun v => v.oneCell') = true) (hk : KindsB l ks = true) (hfacts : FactsOk Tryd.prog l facts) (heqs : EqsOk l eqs) (hcalls : CallsOk Tryd.prog Laid l calls)
    (hrun : ran ks facts [] eqs calls f args = some v) (hs : sim3 v = true) (ha : args.all sim2 = true) (w : World) (hL : Laid w) :
    Calls Tryd.prog f (args.map (den2 l)).toArray w fun e w' => e = .returned (den l v) ∧ Below w.heap.size w w' :=
  tabM (fun w1 => Below w.heap.size w w1) l ks facts [] eqs calls f args v hl hk hfacts trivial heqs (callsOk_mono (fun w1 h => ⟨h.1, tabs_below hL.2 h.2⟩) hcalls) hrun hs ha w hL.1 (Below.refl _ _) (fun w1 w2 h12 h1 => h1.trans h12)
theorem pow10_tab {w : World} (h : Laid w) : Lib.TabIs Tryd.prog w "internal/strconv.uint64pow10" .u64 Lib.pow10Tab := by
  obtain ⟨t', fr, e⟩ := laid_cells (P := Tryd.prog) h.1 (b := 0) (t := 0) (f := true) (g := 0) (by decide) (by kernel_rfl) (by kernel_rfl)
  have hg : Tryd.prog.globalNamed "internal/strconv.uint64pow10" = some 0 := by kernel_rfl
  unfold Lib.TabIs World.var?
  rw [hg, Option.bind_some, e]
end Go.Proofs.YtjhpigbilfbikaaDoor
