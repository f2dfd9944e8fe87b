/-
  NARROWER THAN 'FOR EVERY INPUT', by the rows' own cells (each row's printed sentence says how): WrapPasses: laid · FrameWorlds: laid · FrameOf: laid · FrameRoots: laid.
  DERIVED. THE GIVEN ROWS OF THIS SEAT. 4 by the template 'for every input the law returns true; each argument reads behind the call as it read before'; 0 by the template 'total and deterministic' (their statements: YtmmfpkkkpeapeaaGreatDoorTotals.lean).
  GIVEN WITH THE SEED: the statements are not yours to turn. If you find one false, say at which input.
  Laid BY PROGRAM, IN A SANDBOX (cutbox-rows.mjs): the forced cells as the released guide's own fill.sh prints them over the translation f793dc22587b0f7c… (all of the seat's roots in one cut). By AI agents, Wed Nov 11 2026. No macro, syntax, notation, axiom, sorry.
-/
import Derived.Test.YtmmfpkkkpeapeaaGreatDoorChecked
import GoSem.Claim
import GoSem.ClaimJoined
import GoSem.ClaimMapViews
import Derived.JoinedTies
import Derived.KernelRfl
namespace Go.Proofs.YtmmfpkkkpeapeaaGreatDoor
/- THE CELL 'sum', in the pinned program and in every row, IS THE sha256 OF THE DUMP (.gsa) THAT YtmmfpkkkpeapeaaGreatDoorProg.lean LOADS. Nothing in Lean hashes anything: it is a label: what it is worth is what the hold of that sum in a sandbox is worth. -/
noncomputable def Tryz.pinned : Pinned := { name := "ytmmfpkkkpeapeaagreatdoor", sum := "f793dc22587b0f7c60fbb5d538c745cbfe964974b4b6a6776cb748030f2a7930", checked := Tryz.checked }
namespace Rows
def none {H : Type} : Left H := { results := [], args := [] }

/- WHAT THE LISTED PACKAGE-LEVEL VARIABLES READ AS WHEN THE CALL BEGINS. Each datum BY PROGRAM (the guide's laid-datum.mjs) off the statement by which the dump's own 'gosem.cut.vars' lays the variable. In a bare row this is a premise. The card (YtmmfpkkkpeapeaaGreatDoorCards.lean) ties it to the program's text. -/
def laid_math_bits_deBruijn32tab {H : Type} : DataW H := .agg [.lit (.int .u8 0), .lit (.int .u8 1), .lit (.int .u8 28), .lit (.int .u8 2), .lit (.int .u8 29), .lit (.int .u8 14), .lit (.int .u8 24), .lit (.int .u8 3), .lit (.int .u8 30), .lit (.int .u8 22), .lit (.int .u8 20), .lit (.int .u8 15), .lit (.int .u8 25), .lit (.int .u8 17), .lit (.int .u8 4), .lit (.int .u8 8), .lit (.int .u8 31), .lit (.int .u8 27), .lit (.int .u8 13), .lit (.int .u8 23), .lit (.int .u8 21), .lit (.int .u8 19), .lit (.int .u8 16), .lit (.int .u8 7), .lit (.int .u8 26), .lit (.int .u8 12), .lit (.int .u8 18), .lit (.int .u8 6), .lit (.int .u8 11), .lit (.int .u8 5), .lit (.int .u8 10), .lit (.int .u8 9)]
def laid_math_bits_deBruijn64tab {H : Type} : DataW H := .agg [.lit (.int .u8 0), .lit (.int .u8 1), .lit (.int .u8 56), .lit (.int .u8 2), .lit (.int .u8 57), .lit (.int .u8 49), .lit (.int .u8 28), .lit (.int .u8 3), .lit (.int .u8 61), .lit (.int .u8 58), .lit (.int .u8 42), .lit (.int .u8 50), .lit (.int .u8 38), .lit (.int .u8 29), .lit (.int .u8 17), .lit (.int .u8 4), .lit (.int .u8 62), .lit (.int .u8 47), .lit (.int .u8 59), .lit (.int .u8 36), .lit (.int .u8 45), .lit (.int .u8 43), .lit (.int .u8 51), .lit (.int .u8 22), .lit (.int .u8 53), .lit (.int .u8 39), .lit (.int .u8 33), .lit (.int .u8 30), .lit (.int .u8 24), .lit (.int .u8 18), .lit (.int .u8 12), .lit (.int .u8 5), .lit (.int .u8 63), .lit (.int .u8 55), .lit (.int .u8 48), .lit (.int .u8 27), .lit (.int .u8 60), .lit (.int .u8 41), .lit (.int .u8 37), .lit (.int .u8 16), .lit (.int .u8 46), .lit (.int .u8 35), .lit (.int .u8 44), .lit (.int .u8 21), .lit (.int .u8 52), .lit (.int .u8 32), .lit (.int .u8 23), .lit (.int .u8 11), .lit (.int .u8 54), .lit (.int .u8 26), .lit (.int .u8 40), .lit (.int .u8 15), .lit (.int .u8 34), .lit (.int .u8 20), .lit (.int .u8 31), .lit (.int .u8 10), .lit (.int .u8 25), .lit (.int .u8 14), .lit (.int .u8 19), .lit (.int .u8 9), .lit (.int .u8 13), .lit (.int .u8 8), .lit (.int .u8 7), .lit (.int .u8 6)]
def laid_internal_strconv_uint64pow10 {H : Type} : DataW H := .agg [.lit (.int .u64 1), .lit (.int .u64 10), .lit (.int .u64 100), .lit (.int .u64 1000), .lit (.int .u64 10000), .lit (.int .u64 100000), .lit (.int .u64 1000000), .lit (.int .u64 10000000), .lit (.int .u64 100000000), .lit (.int .u64 1000000000), .lit (.int .u64 10000000000), .lit (.int .u64 100000000000), .lit (.int .u64 1000000000000), .lit (.int .u64 10000000000000), .lit (.int .u64 100000000000000), .lit (.int .u64 1000000000000000), .lit (.int .u64 10000000000000000), .lit (.int .u64 100000000000000000), .lit (.int .u64 1000000000000000000), .lit (.int .u64 10000000000000000000)]
def laid_strconv_ErrRange {H : Type} : DataW H := .iface "*errors.errorString" (.ptr (.agg [.lit (.string [118, 97, 108, 117, 101, 32, 111, 117, 116, 32, 111, 102, 32, 114, 97, 110, 103, 101])]))
def laid_strconv_ErrSyntax {H : Type} : DataW H := .iface "*errors.errorString" (.ptr (.agg [.lit (.string [105, 110, 118, 97, 108, 105, 100, 32, 115, 121, 110, 116, 97, 120])]))
def laid_paling_code_words {H : Type} : DataW H := .agg [.lit (.string [99, 111, 110, 115, 116]), .lit (.string [109, 111, 118, 101]), .lit (.string [110, 101, 119]), .lit (.string [103, 101, 116]), .lit (.string [112, 117, 116]), .lit (.string [99, 108, 111, 115, 101]), .lit (.string [99, 97, 108, 108]), .lit (.string [109, 105, 110, 117, 115]), .lit (.string [110, 111, 116]), .lit (.string [97, 100, 100]), .lit (.string [115, 117, 98]), .lit (.string [109, 117, 108]), .lit (.string [101, 113, 117, 97, 108]), .lit (.string [117, 110, 108, 105, 107, 101]), .lit (.string [108, 101, 115, 115]), .lit (.string [106, 117, 109, 112]), .lit (.string [98, 97, 99, 107]), .lit (.string [117, 110, 108, 101, 115, 115]), .lit (.string [114, 101, 116, 117, 114, 110]), .lit (.string [116, 104, 114, 111, 119]), .lit (.string [116, 114, 121]), .lit (.string [100, 111, 110, 101])]
def laid_paling_tree_signs {H : Type} : DataW H := .agg [.lit (.string []), .lit (.string []), .lit (.string []), .lit (.string []), .lit (.string []), .lit (.string []), .lit (.string [45]), .lit (.string [33]), .lit (.string [43]), .lit (.string [45]), .lit (.string [42]), .lit (.string [61, 61]), .lit (.string [33, 61]), .lit (.string [60]), .lit (.string []), .lit (.string []), .lit (.string []), .lit (.string [])]
def laid_paling_parse_reserved {H : Type} : DataW H := .agg [.lit (.string [108, 101, 116]), .lit (.string [105, 102]), .lit (.string [101, 108, 115, 101]), .lit (.string [119, 104, 105, 108, 101]), .lit (.string [114, 101, 116, 117, 114, 110]), .lit (.string [116, 104, 114, 111, 119]), .lit (.string [116, 114, 121]), .lit (.string [99, 97, 116, 99, 104]), .lit (.string [102, 110]), .lit (.string [110, 105, 108]), .lit (.string [116, 114, 117, 101]), .lit (.string [102, 97, 108, 115, 101])]
def laid_paling_parse_levels {H : Type} : DataW H := .agg [.map [(.string [33, 61], .lit (.int .i64 12)), (.string [60], .lit (.int .i64 13)), (.string [61, 61], .lit (.int .i64 11))], .map [(.string [43], .lit (.int .i64 8)), (.string [45], .lit (.int .i64 9))], .map [(.string [42], .lit (.int .i64 10))]]
def laid_paling_parse_simple {H : Type} : DataW H := .agg [.agg [.lit (.string [114, 101, 116, 117, 114, 110]), .lit (.int .i64 5)], .agg [.lit (.string [116, 104, 114, 111, 119]), .lit (.int .i64 6)]]
def laid_paling_scope_words {H : Type} : DataW H := .agg [.lit (.string [108, 101, 110]), .lit (.string [102, 114, 101, 101, 122, 101]), .lit (.string [102, 114, 111, 122, 101, 110]), .lit (.string [98, 114, 97, 110, 100]), .lit (.string [107, 105, 110, 100]), .lit (.string [116, 101, 120, 116])]
def laid_paling_compile_ops {H : Type} : DataW H := .map [(.int .i64 6, .lit (.int .u8 7)), (.int .i64 7, .lit (.int .u8 8)), (.int .i64 8, .lit (.int .u8 9)), (.int .i64 9, .lit (.int .u8 10)), (.int .i64 10, .lit (.int .u8 11)), (.int .i64 11, .lit (.int .u8 12)), (.int .i64 12, .lit (.int .u8 13)), (.int .i64 13, .lit (.int .u8 14)), (.int .i64 14, .lit (.int .u8 3))]

/-- 'palinglaw15.WrapPasses': WHATEVER THE INPUT: true; the input reads as it did. -/
def wrapPassesSpec : ChangeSpec := { name := "wrapPasses", fn := fun _ => fun
  | [d1, d2, d3] => { results := [.lit (.bool true)], args := [d1, d2, d3] }
  | _ => none }
def wrapPassesRow : OpenClaim := { program := "ytmmfpkkkpeapeaagreatdoor", sum := "f793dc22587b0f7c60fbb5d538c745cbfe964974b4b6a6776cb748030f2a7930", func := "paling/palinglaw15.WrapPasses", spec := "wrapPasses", inPlace := ["internal/abi.NoEscape", "internal/bytealg.IndexByteString", "internal/bytealg.MakeNoZero"], unfollowed := true, recurses := true, named := ["strconv.ErrSyntax", "strconv.ErrRange", "internal/strconv.uint64pow10", "math/bits.deBruijn32tab", "math/bits.deBruijn64tab", "paling/tree.signs", "paling/parse.simple", "paling/parse.levels", "paling/parse.reserved", "paling/scope.words", "paling/code.words", "paling/compile.ops"], plainKeys := false, apart := false, laid := [("math/bits.deBruijn32tab", laid_math_bits_deBruijn32tab), ("math/bits.deBruijn64tab", laid_math_bits_deBruijn64tab), ("internal/strconv.uint64pow10", laid_internal_strconv_uint64pow10), ("strconv.ErrRange", laid_strconv_ErrRange), ("strconv.ErrSyntax", laid_strconv_ErrSyntax), ("paling/code.words", laid_paling_code_words), ("paling/tree.signs", laid_paling_tree_signs), ("paling/parse.reserved", laid_paling_parse_reserved), ("paling/parse.levels", laid_paling_parse_levels), ("paling/parse.simple", laid_paling_parse_simple), ("paling/scope.words", laid_paling_scope_words), ("paling/compile.ops", laid_paling_compile_ops)] }
def WrapPassesSaid : Prop := wrapPassesRow.holds Tryz.pinned (OpenSpec.ofChange wrapPassesSpec)

/-- ITS FALSE NEIGHBOUR: 'it returns false'. Refute it at one input. -/
def wrapPassesWrong : ChangeSpec := { name := "wrapPasses", fn := fun _ => fun
  | [d1, d2, d3] => { results := [.lit (.bool false)], args := [d1, d2, d3] }
  | _ => none }
def WrapPassesWrongFalsely : Prop := wrapPassesRow.holds Tryz.pinned (OpenSpec.ofChange wrapPassesWrong)

/-- 'palinglaw16.FrameWorlds': WHATEVER THE INPUT: true; the input reads as it did. -/
def frameWorldsSpec : ChangeSpec := { name := "frameWorlds", fn := fun _ => fun
  | [d1, d2, d3, d4] => { results := [.lit (.bool true)], args := [d1, d2, d3, d4] }
  | _ => none }
def frameWorldsRow : OpenClaim := { program := "ytmmfpkkkpeapeaagreatdoor", sum := "f793dc22587b0f7c60fbb5d538c745cbfe964974b4b6a6776cb748030f2a7930", func := "paling/palinglaw16.FrameWorlds", spec := "frameWorlds", inPlace := ["internal/abi.NoEscape", "internal/bytealg.IndexByteString", "internal/bytealg.MakeNoZero"], unfollowed := true, recurses := true, named := ["strconv.ErrSyntax", "strconv.ErrRange", "internal/strconv.uint64pow10", "math/bits.deBruijn32tab", "math/bits.deBruijn64tab", "paling/tree.signs", "paling/parse.simple", "paling/parse.levels", "paling/parse.reserved", "paling/scope.words", "paling/code.words", "paling/compile.ops"], plainKeys := false, apart := false, laid := [("math/bits.deBruijn32tab", laid_math_bits_deBruijn32tab), ("math/bits.deBruijn64tab", laid_math_bits_deBruijn64tab), ("internal/strconv.uint64pow10", laid_internal_strconv_uint64pow10), ("strconv.ErrRange", laid_strconv_ErrRange), ("strconv.ErrSyntax", laid_strconv_ErrSyntax), ("paling/code.words", laid_paling_code_words), ("paling/tree.signs", laid_paling_tree_signs), ("paling/parse.reserved", laid_paling_parse_reserved), ("paling/parse.levels", laid_paling_parse_levels), ("paling/parse.simple", laid_paling_parse_simple), ("paling/scope.words", laid_paling_scope_words), ("paling/compile.ops", laid_paling_compile_ops)] }
def FrameWorldsSaid : Prop := frameWorldsRow.holds Tryz.pinned (OpenSpec.ofChange frameWorldsSpec)

/-- ITS FALSE NEIGHBOUR: 'it returns false'. Refute it at one input. -/
def frameWorldsWrong : ChangeSpec := { name := "frameWorlds", fn := fun _ => fun
  | [d1, d2, d3, d4] => { results := [.lit (.bool false)], args := [d1, d2, d3, d4] }
  | _ => none }
def FrameWorldsWrongFalsely : Prop := frameWorldsRow.holds Tryz.pinned (OpenSpec.ofChange frameWorldsWrong)

/-- 'palinglaw16.FrameOf': WHATEVER THE INPUT: true; the input reads as it did. -/
def frameOfSpec : ChangeSpec := { name := "frameOf", fn := fun _ => fun
  | [d1, d2, d3, d4] => { results := [.lit (.bool true)], args := [d1, d2, d3, d4] }
  | _ => none }
def frameOfRow : OpenClaim := { program := "ytmmfpkkkpeapeaagreatdoor", sum := "f793dc22587b0f7c60fbb5d538c745cbfe964974b4b6a6776cb748030f2a7930", func := "paling/palinglaw16.FrameOf", spec := "frameOf", inPlace := ["internal/abi.NoEscape", "internal/bytealg.IndexByteString", "internal/bytealg.MakeNoZero"], unfollowed := true, recurses := true, named := ["strconv.ErrSyntax", "strconv.ErrRange", "internal/strconv.uint64pow10", "math/bits.deBruijn32tab", "math/bits.deBruijn64tab", "paling/tree.signs", "paling/parse.simple", "paling/parse.levels", "paling/parse.reserved", "paling/scope.words", "paling/code.words", "paling/compile.ops"], plainKeys := false, apart := false, laid := [("math/bits.deBruijn32tab", laid_math_bits_deBruijn32tab), ("math/bits.deBruijn64tab", laid_math_bits_deBruijn64tab), ("internal/strconv.uint64pow10", laid_internal_strconv_uint64pow10), ("strconv.ErrRange", laid_strconv_ErrRange), ("strconv.ErrSyntax", laid_strconv_ErrSyntax), ("paling/code.words", laid_paling_code_words), ("paling/tree.signs", laid_paling_tree_signs), ("paling/parse.reserved", laid_paling_parse_reserved), ("paling/parse.levels", laid_paling_parse_levels), ("paling/parse.simple", laid_paling_parse_simple), ("paling/scope.words", laid_paling_scope_words), ("paling/compile.ops", laid_paling_compile_ops)] }
def FrameOfSaid : Prop := frameOfRow.holds Tryz.pinned (OpenSpec.ofChange frameOfSpec)

/-- ITS FALSE NEIGHBOUR: 'it returns false'. Refute it at one input. -/
def frameOfWrong : ChangeSpec := { name := "frameOf", fn := fun _ => fun
  | [d1, d2, d3, d4] => { results := [.lit (.bool false)], args := [d1, d2, d3, d4] }
  | _ => none }
def FrameOfWrongFalsely : Prop := frameOfRow.holds Tryz.pinned (OpenSpec.ofChange frameOfWrong)

/-- 'palinglaw16.FrameRoots': WHATEVER THE INPUT: true; the input reads as it did. -/
def frameRootsSpec : ChangeSpec := { name := "frameRoots", fn := fun _ => fun
  | [d] => { results := [.lit (.bool true)], args := [d] }
  | _ => none }
def frameRootsRow : OpenClaim := { program := "ytmmfpkkkpeapeaagreatdoor", sum := "f793dc22587b0f7c60fbb5d538c745cbfe964974b4b6a6776cb748030f2a7930", func := "paling/palinglaw16.FrameRoots", spec := "frameRoots", inPlace := ["internal/abi.NoEscape", "internal/bytealg.IndexByteString", "internal/bytealg.MakeNoZero"], unfollowed := true, recurses := true, named := ["strconv.ErrSyntax", "strconv.ErrRange", "internal/strconv.uint64pow10", "math/bits.deBruijn32tab", "math/bits.deBruijn64tab", "paling/tree.signs", "paling/parse.simple", "paling/parse.levels", "paling/parse.reserved", "paling/scope.words", "paling/code.words", "paling/compile.ops"], plainKeys := false, apart := false, laid := [("math/bits.deBruijn32tab", laid_math_bits_deBruijn32tab), ("math/bits.deBruijn64tab", laid_math_bits_deBruijn64tab), ("internal/strconv.uint64pow10", laid_internal_strconv_uint64pow10), ("strconv.ErrRange", laid_strconv_ErrRange), ("strconv.ErrSyntax", laid_strconv_ErrSyntax), ("paling/code.words", laid_paling_code_words), ("paling/tree.signs", laid_paling_tree_signs), ("paling/parse.reserved", laid_paling_parse_reserved), ("paling/parse.levels", laid_paling_parse_levels), ("paling/parse.simple", laid_paling_parse_simple), ("paling/scope.words", laid_paling_scope_words), ("paling/compile.ops", laid_paling_compile_ops)] }
def FrameRootsSaid : Prop := frameRootsRow.holds Tryz.pinned (OpenSpec.ofChange frameRootsSpec)

/-- ITS FALSE NEIGHBOUR: 'it returns false'. Refute it at one input. -/
def frameRootsWrong : ChangeSpec := { name := "frameRoots", fn := fun _ => fun
  | [d] => { results := [.lit (.bool false)], args := [d] }
  | _ => none }
def FrameRootsWrongFalsely : Prop := frameRootsRow.holds Tryz.pinned (OpenSpec.ofChange frameRootsWrong)

/- THE SECOND FORM. 'bulk': how many values and letters a reading holds, each counted each time it is reached (what is shared counts as often as it is met; a slice's spare places count too). A statement '..UptoSaid' is the law's where the arguments, and the package variables that the reading takes, are together of bulk at most 1048576: NARROWER than '..Said'. Prove '..Said' where nothing that the law and all that it calls make is longer than what came in: it says more and counts as full. Else prove '..UptoSaid'. A law counts once. -/
mutual
def uptoBulk {H : Type} : DataW H → Nat
  | .lit (.string bytes) => bytes.length + 1
  | .lit _ => 1
  | .nil => 1
  | .ptr d => uptoBulk d + 1
  | .slice elems spare => uptoBulkAll elems + uptoBulkAll spare + 1
  | .agg parts => uptoBulkAll parts + 1
  | .iface _ d => uptoBulk d + 1
  | .map entries => uptoBulkEntries entries + 1
  | .held _ => 1
def uptoBulkAll {H : Type} : List (DataW H) → Nat
  | [] => 0
  | d :: r => uptoBulk d + uptoBulkAll r
def uptoBulkEntries {H : Type} : List (Lit × DataW H) → Nat
  | [] => 0
  | x :: r => uptoBulkEntry x + uptoBulkEntries r
def uptoBulkEntry {H : Type} : Lit × DataW H → Nat
  | (.string bytes, d) => bytes.length + uptoBulk d + 1
  | (_, d) => uptoBulk d + 1
 end
def uptoSmall : (H : Type) → List (DataW H) → Bool := fun _ ds => decide (uptoBulkAll ds ≤ 1048576)
def OpenSpec.upto (s : _root_.Go.ChangeSpec) : _root_.Go.OpenSpec := { _root_.Go.OpenSpec.ofChange s with cond := some uptoSmall }

/-- 'palinglaw15.WrapPasses', WHERE WHAT IT READS IS OF BULK AT MOST 1048576: true; the input reads as it did. -/
def wrapPassesUptoRow : OpenClaim := { program := "ytmmfpkkkpeapeaagreatdoor", sum := "f793dc22587b0f7c60fbb5d538c745cbfe964974b4b6a6776cb748030f2a7930", func := "paling/palinglaw15.WrapPasses", spec := "wrapPasses", inPlace := ["internal/abi.NoEscape", "internal/bytealg.IndexByteString", "internal/bytealg.MakeNoZero"], unfollowed := true, recurses := true, named := ["strconv.ErrSyntax", "strconv.ErrRange", "internal/strconv.uint64pow10", "math/bits.deBruijn32tab", "math/bits.deBruijn64tab", "paling/tree.signs", "paling/parse.simple", "paling/parse.levels", "paling/parse.reserved", "paling/scope.words", "paling/code.words", "paling/compile.ops"], plainKeys := false, apart := false, laid := [("math/bits.deBruijn32tab", laid_math_bits_deBruijn32tab), ("math/bits.deBruijn64tab", laid_math_bits_deBruijn64tab), ("internal/strconv.uint64pow10", laid_internal_strconv_uint64pow10), ("strconv.ErrRange", laid_strconv_ErrRange), ("strconv.ErrSyntax", laid_strconv_ErrSyntax), ("paling/code.words", laid_paling_code_words), ("paling/tree.signs", laid_paling_tree_signs), ("paling/parse.reserved", laid_paling_parse_reserved), ("paling/parse.levels", laid_paling_parse_levels), ("paling/parse.simple", laid_paling_parse_simple), ("paling/scope.words", laid_paling_scope_words), ("paling/compile.ops", laid_paling_compile_ops)], narrowed := true }
def WrapPassesUptoSaid : Prop := wrapPassesUptoRow.holds Tryz.pinned (OpenSpec.upto wrapPassesSpec)

/-- 'palinglaw16.FrameWorlds', WHERE WHAT IT READS IS OF BULK AT MOST 1048576: true; the input reads as it did. -/
def frameWorldsUptoRow : OpenClaim := { program := "ytmmfpkkkpeapeaagreatdoor", sum := "f793dc22587b0f7c60fbb5d538c745cbfe964974b4b6a6776cb748030f2a7930", func := "paling/palinglaw16.FrameWorlds", spec := "frameWorlds", inPlace := ["internal/abi.NoEscape", "internal/bytealg.IndexByteString", "internal/bytealg.MakeNoZero"], unfollowed := true, recurses := true, named := ["strconv.ErrSyntax", "strconv.ErrRange", "internal/strconv.uint64pow10", "math/bits.deBruijn32tab", "math/bits.deBruijn64tab", "paling/tree.signs", "paling/parse.simple", "paling/parse.levels", "paling/parse.reserved", "paling/scope.words", "paling/code.words", "paling/compile.ops"], plainKeys := false, apart := false, laid := [("math/bits.deBruijn32tab", laid_math_bits_deBruijn32tab), ("math/bits.deBruijn64tab", laid_math_bits_deBruijn64tab), ("internal/strconv.uint64pow10", laid_internal_strconv_uint64pow10), ("strconv.ErrRange", laid_strconv_ErrRange), ("strconv.ErrSyntax", laid_strconv_ErrSyntax), ("paling/code.words", laid_paling_code_words), ("paling/tree.signs", laid_paling_tree_signs), ("paling/parse.reserved", laid_paling_parse_reserved), ("paling/parse.levels", laid_paling_parse_levels), ("paling/parse.simple", laid_paling_parse_simple), ("paling/scope.words", laid_paling_scope_words), ("paling/compile.ops", laid_paling_compile_ops)], narrowed := true }
def FrameWorldsUptoSaid : Prop := frameWorldsUptoRow.holds Tryz.pinned (OpenSpec.upto frameWorldsSpec)

/-- 'palinglaw16.FrameOf', WHERE WHAT IT READS IS OF BULK AT MOST 1048576: true; the input reads as it did. -/
def frameOfUptoRow : OpenClaim := { program := "ytmmfpkkkpeapeaagreatdoor", sum := "f793dc22587b0f7c60fbb5d538c745cbfe964974b4b6a6776cb748030f2a7930", func := "paling/palinglaw16.FrameOf", spec := "frameOf", inPlace := ["internal/abi.NoEscape", "internal/bytealg.IndexByteString", "internal/bytealg.MakeNoZero"], unfollowed := true, recurses := true, named := ["strconv.ErrSyntax", "strconv.ErrRange", "internal/strconv.uint64pow10", "math/bits.deBruijn32tab", "math/bits.deBruijn64tab", "paling/tree.signs", "paling/parse.simple", "paling/parse.levels", "paling/parse.reserved", "paling/scope.words", "paling/code.words", "paling/compile.ops"], plainKeys := false, apart := false, laid := [("math/bits.deBruijn32tab", laid_math_bits_deBruijn32tab), ("math/bits.deBruijn64tab", laid_math_bits_deBruijn64tab), ("internal/strconv.uint64pow10", laid_internal_strconv_uint64pow10), ("strconv.ErrRange", laid_strconv_ErrRange), ("strconv.ErrSyntax", laid_strconv_ErrSyntax), ("paling/code.words", laid_paling_code_words), ("paling/tree.signs", laid_paling_tree_signs), ("paling/parse.reserved", laid_paling_parse_reserved), ("paling/parse.levels", laid_paling_parse_levels), ("paling/parse.simple", laid_paling_parse_simple), ("paling/scope.words", laid_paling_scope_words), ("paling/compile.ops", laid_paling_compile_ops)], narrowed := true }
def FrameOfUptoSaid : Prop := frameOfUptoRow.holds Tryz.pinned (OpenSpec.upto frameOfSpec)

/-- 'palinglaw16.FrameRoots', WHERE WHAT IT READS IS OF BULK AT MOST 1048576: true; the input reads as it did. -/
def frameRootsUptoRow : OpenClaim := { program := "ytmmfpkkkpeapeaagreatdoor", sum := "f793dc22587b0f7c60fbb5d538c745cbfe964974b4b6a6776cb748030f2a7930", func := "paling/palinglaw16.FrameRoots", spec := "frameRoots", inPlace := ["internal/abi.NoEscape", "internal/bytealg.IndexByteString", "internal/bytealg.MakeNoZero"], unfollowed := true, recurses := true, named := ["strconv.ErrSyntax", "strconv.ErrRange", "internal/strconv.uint64pow10", "math/bits.deBruijn32tab", "math/bits.deBruijn64tab", "paling/tree.signs", "paling/parse.simple", "paling/parse.levels", "paling/parse.reserved", "paling/scope.words", "paling/code.words", "paling/compile.ops"], plainKeys := false, apart := false, laid := [("math/bits.deBruijn32tab", laid_math_bits_deBruijn32tab), ("math/bits.deBruijn64tab", laid_math_bits_deBruijn64tab), ("internal/strconv.uint64pow10", laid_internal_strconv_uint64pow10), ("strconv.ErrRange", laid_strconv_ErrRange), ("strconv.ErrSyntax", laid_strconv_ErrSyntax), ("paling/code.words", laid_paling_code_words), ("paling/tree.signs", laid_paling_tree_signs), ("paling/parse.reserved", laid_paling_parse_reserved), ("paling/parse.levels", laid_paling_parse_levels), ("paling/parse.simple", laid_paling_parse_simple), ("paling/scope.words", laid_paling_scope_words), ("paling/compile.ops", laid_paling_compile_ops)], narrowed := true }
def FrameRootsUptoSaid : Prop := frameRootsUptoRow.holds Tryz.pinned (OpenSpec.upto frameRootsSpec)

end Rows
end Go.Proofs.YtmmfpkkkpeapeaaGreatDoor
