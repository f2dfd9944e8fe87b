/-
  NARROWER THAN 'FOR EVERY INPUT', by the rows' own cells (each row's printed sentence says how): ValidChecks: laid · ValidMany: laid · PrimTwo: laid · PrimTexts: laid · PrimRing: laid · PrimOne: laid · RecordFull: laid · RecordApart: laid · RecordPlays: laid · RecordOthers: laid · SealBrands: laid · SealOthers: laid.
  DERIVED. THE GIVEN ROWS OF THIS SEAT. 12 by the template 'for every input the law returns true; each argument reads behind the call as it read before'; 0 by the template 'total and deterministic' (their statements: YthomiajjiikmaaaGreatDoorTotals.lean).
  GIVEN WITH THE SEED: the statements are not yours to turn. If you find one false, say at which input.
  Laid BY PROGRAM, IN A SANDBOX (cutbox-rows.mjs): the forced cells as the released guide's own fill.sh prints them over the translation 6a3f2f288c4e6842… (all of the seat's roots in one cut). By AI agents, Wed Nov 11 2026. No macro, syntax, notation, axiom, sorry.
-/
import Derived.Test.YthomiajjiikmaaaGreatDoorChecked
import GoSem.Claim
import GoSem.ClaimJoined
import GoSem.ClaimMapViews
import Derived.JoinedTies
import Derived.KernelRfl
namespace Go.Proofs.YthomiajjiikmaaaGreatDoor
/- THE CELL 'sum', in the pinned program and in every row, IS THE sha256 OF THE DUMP (.gsa) THAT YthomiajjiikmaaaGreatDoorProg.lean LOADS. Nothing in Lean hashes anything: it is a label: what it is worth is what the hold of that sum in a sandbox is worth. -/
noncomputable def Tryz.pinned : Pinned := { name := "ythomiajjiikmaaagreatdoor", sum := "6a3f2f288c4e684221ac17315973ea95b1d7cdbc15a31dd471d95fd77457af0c", checked := Tryz.checked }
namespace Rows
def none {H : Type} : Left H := { results := [], args := [] }

/- WHAT THE LISTED PACKAGE-LEVEL VARIABLES READ AS WHEN THE CALL BEGINS. Each datum BY PROGRAM (the guide's laid-datum.mjs) off the statement by which the dump's own 'gosem.cut.vars' lays the variable. In a bare row this is a premise. The card (YthomiajjiikmaaaGreatDoorCards.lean) ties it to the program's text. -/
def laid_math_bits_deBruijn32tab {H : Type} : DataW H := .agg [.lit (.int .u8 0), .lit (.int .u8 1), .lit (.int .u8 28), .lit (.int .u8 2), .lit (.int .u8 29), .lit (.int .u8 14), .lit (.int .u8 24), .lit (.int .u8 3), .lit (.int .u8 30), .lit (.int .u8 22), .lit (.int .u8 20), .lit (.int .u8 15), .lit (.int .u8 25), .lit (.int .u8 17), .lit (.int .u8 4), .lit (.int .u8 8), .lit (.int .u8 31), .lit (.int .u8 27), .lit (.int .u8 13), .lit (.int .u8 23), .lit (.int .u8 21), .lit (.int .u8 19), .lit (.int .u8 16), .lit (.int .u8 7), .lit (.int .u8 26), .lit (.int .u8 12), .lit (.int .u8 18), .lit (.int .u8 6), .lit (.int .u8 11), .lit (.int .u8 5), .lit (.int .u8 10), .lit (.int .u8 9)]
def laid_math_bits_deBruijn64tab {H : Type} : DataW H := .agg [.lit (.int .u8 0), .lit (.int .u8 1), .lit (.int .u8 56), .lit (.int .u8 2), .lit (.int .u8 57), .lit (.int .u8 49), .lit (.int .u8 28), .lit (.int .u8 3), .lit (.int .u8 61), .lit (.int .u8 58), .lit (.int .u8 42), .lit (.int .u8 50), .lit (.int .u8 38), .lit (.int .u8 29), .lit (.int .u8 17), .lit (.int .u8 4), .lit (.int .u8 62), .lit (.int .u8 47), .lit (.int .u8 59), .lit (.int .u8 36), .lit (.int .u8 45), .lit (.int .u8 43), .lit (.int .u8 51), .lit (.int .u8 22), .lit (.int .u8 53), .lit (.int .u8 39), .lit (.int .u8 33), .lit (.int .u8 30), .lit (.int .u8 24), .lit (.int .u8 18), .lit (.int .u8 12), .lit (.int .u8 5), .lit (.int .u8 63), .lit (.int .u8 55), .lit (.int .u8 48), .lit (.int .u8 27), .lit (.int .u8 60), .lit (.int .u8 41), .lit (.int .u8 37), .lit (.int .u8 16), .lit (.int .u8 46), .lit (.int .u8 35), .lit (.int .u8 44), .lit (.int .u8 21), .lit (.int .u8 52), .lit (.int .u8 32), .lit (.int .u8 23), .lit (.int .u8 11), .lit (.int .u8 54), .lit (.int .u8 26), .lit (.int .u8 40), .lit (.int .u8 15), .lit (.int .u8 34), .lit (.int .u8 20), .lit (.int .u8 31), .lit (.int .u8 10), .lit (.int .u8 25), .lit (.int .u8 14), .lit (.int .u8 19), .lit (.int .u8 9), .lit (.int .u8 13), .lit (.int .u8 8), .lit (.int .u8 7), .lit (.int .u8 6)]
def laid_internal_strconv_uint64pow10 {H : Type} : DataW H := .agg [.lit (.int .u64 1), .lit (.int .u64 10), .lit (.int .u64 100), .lit (.int .u64 1000), .lit (.int .u64 10000), .lit (.int .u64 100000), .lit (.int .u64 1000000), .lit (.int .u64 10000000), .lit (.int .u64 100000000), .lit (.int .u64 1000000000), .lit (.int .u64 10000000000), .lit (.int .u64 100000000000), .lit (.int .u64 1000000000000), .lit (.int .u64 10000000000000), .lit (.int .u64 100000000000000), .lit (.int .u64 1000000000000000), .lit (.int .u64 10000000000000000), .lit (.int .u64 100000000000000000), .lit (.int .u64 1000000000000000000), .lit (.int .u64 10000000000000000000)]
def laid_strconv_ErrRange {H : Type} : DataW H := .iface "*errors.errorString" (.ptr (.agg [.lit (.string [118, 97, 108, 117, 101, 32, 111, 117, 116, 32, 111, 102, 32, 114, 97, 110, 103, 101])]))
def laid_strconv_ErrSyntax {H : Type} : DataW H := .iface "*errors.errorString" (.ptr (.agg [.lit (.string [105, 110, 118, 97, 108, 105, 100, 32, 115, 121, 110, 116, 97, 120])]))
def laid_paling_code_words {H : Type} : DataW H := .agg [.lit (.string [99, 111, 110, 115, 116]), .lit (.string [109, 111, 118, 101]), .lit (.string [110, 101, 119]), .lit (.string [103, 101, 116]), .lit (.string [112, 117, 116]), .lit (.string [99, 108, 111, 115, 101]), .lit (.string [99, 97, 108, 108]), .lit (.string [109, 105, 110, 117, 115]), .lit (.string [110, 111, 116]), .lit (.string [97, 100, 100]), .lit (.string [115, 117, 98]), .lit (.string [109, 117, 108]), .lit (.string [101, 113, 117, 97, 108]), .lit (.string [117, 110, 108, 105, 107, 101]), .lit (.string [108, 101, 115, 115]), .lit (.string [106, 117, 109, 112]), .lit (.string [98, 97, 99, 107]), .lit (.string [117, 110, 108, 101, 115, 115]), .lit (.string [114, 101, 116, 117, 114, 110]), .lit (.string [116, 104, 114, 111, 119]), .lit (.string [116, 114, 121]), .lit (.string [100, 111, 110, 101])]
def laid_paling_tree_signs {H : Type} : DataW H := .agg [.lit (.string []), .lit (.string []), .lit (.string []), .lit (.string []), .lit (.string []), .lit (.string []), .lit (.string [45]), .lit (.string [33]), .lit (.string [43]), .lit (.string [45]), .lit (.string [42]), .lit (.string [61, 61]), .lit (.string [33, 61]), .lit (.string [60]), .lit (.string []), .lit (.string []), .lit (.string []), .lit (.string [])]
def laid_paling_parse_reserved {H : Type} : DataW H := .agg [.lit (.string [108, 101, 116]), .lit (.string [105, 102]), .lit (.string [101, 108, 115, 101]), .lit (.string [119, 104, 105, 108, 101]), .lit (.string [114, 101, 116, 117, 114, 110]), .lit (.string [116, 104, 114, 111, 119]), .lit (.string [116, 114, 121]), .lit (.string [99, 97, 116, 99, 104]), .lit (.string [102, 110]), .lit (.string [110, 105, 108]), .lit (.string [116, 114, 117, 101]), .lit (.string [102, 97, 108, 115, 101])]
def laid_paling_parse_levels {H : Type} : DataW H := .agg [.map [(.string [33, 61], .lit (.int .i64 12)), (.string [60], .lit (.int .i64 13)), (.string [61, 61], .lit (.int .i64 11))], .map [(.string [43], .lit (.int .i64 8)), (.string [45], .lit (.int .i64 9))], .map [(.string [42], .lit (.int .i64 10))]]
def laid_paling_parse_simple {H : Type} : DataW H := .agg [.agg [.lit (.string [114, 101, 116, 117, 114, 110]), .lit (.int .i64 5)], .agg [.lit (.string [116, 104, 114, 111, 119]), .lit (.int .i64 6)]]
def laid_paling_scope_words {H : Type} : DataW H := .agg [.lit (.string [108, 101, 110]), .lit (.string [102, 114, 101, 101, 122, 101]), .lit (.string [102, 114, 111, 122, 101, 110]), .lit (.string [98, 114, 97, 110, 100]), .lit (.string [107, 105, 110, 100]), .lit (.string [116, 101, 120, 116])]
def laid_paling_compile_ops {H : Type} : DataW H := .map [(.int .i64 6, .lit (.int .u8 7)), (.int .i64 7, .lit (.int .u8 8)), (.int .i64 8, .lit (.int .u8 9)), (.int .i64 9, .lit (.int .u8 10)), (.int .i64 10, .lit (.int .u8 11)), (.int .i64 11, .lit (.int .u8 12)), (.int .i64 12, .lit (.int .u8 13)), (.int .i64 13, .lit (.int .u8 14)), (.int .i64 14, .lit (.int .u8 3))]

/-- 'palinglaw11.ValidChecks': WHATEVER THE INPUT: true; the input reads as it did. -/
def validChecksSpec : ChangeSpec := { name := "validChecks", fn := fun _ => fun
  | [d] => { results := [.lit (.bool true)], args := [d] }
  | _ => none }
def validChecksRow : OpenClaim := { program := "ythomiajjiikmaaagreatdoor", sum := "6a3f2f288c4e684221ac17315973ea95b1d7cdbc15a31dd471d95fd77457af0c", func := "paling/palinglaw11.ValidChecks", spec := "validChecks", inPlace := ["internal/abi.NoEscape", "internal/bytealg.IndexByteString", "internal/bytealg.MakeNoZero"], unfollowed := true, recurses := true, named := ["strconv.ErrSyntax", "strconv.ErrRange", "internal/strconv.uint64pow10", "math/bits.deBruijn32tab", "math/bits.deBruijn64tab", "paling/tree.signs", "paling/parse.simple", "paling/parse.levels", "paling/parse.reserved", "paling/scope.words", "paling/code.words", "paling/compile.ops"], plainKeys := false, apart := false, laid := [("math/bits.deBruijn32tab", laid_math_bits_deBruijn32tab), ("math/bits.deBruijn64tab", laid_math_bits_deBruijn64tab), ("internal/strconv.uint64pow10", laid_internal_strconv_uint64pow10), ("strconv.ErrRange", laid_strconv_ErrRange), ("strconv.ErrSyntax", laid_strconv_ErrSyntax), ("paling/code.words", laid_paling_code_words), ("paling/tree.signs", laid_paling_tree_signs), ("paling/parse.reserved", laid_paling_parse_reserved), ("paling/parse.levels", laid_paling_parse_levels), ("paling/parse.simple", laid_paling_parse_simple), ("paling/scope.words", laid_paling_scope_words), ("paling/compile.ops", laid_paling_compile_ops)] }
def ValidChecksSaid : Prop := validChecksRow.holds Tryz.pinned (OpenSpec.ofChange validChecksSpec)

/-- ITS FALSE NEIGHBOUR: 'it returns false'. Refute it at one input. -/
def validChecksWrong : ChangeSpec := { name := "validChecks", fn := fun _ => fun
  | [d] => { results := [.lit (.bool false)], args := [d] }
  | _ => none }
def ValidChecksWrongFalsely : Prop := validChecksRow.holds Tryz.pinned (OpenSpec.ofChange validChecksWrong)

/-- 'palinglaw11.ValidMany': WHATEVER THE INPUT: true; the input reads as it did. -/
def validManySpec : ChangeSpec := { name := "validMany", fn := fun _ => fun
  | [d1, d2, d3] => { results := [.lit (.bool true)], args := [d1, d2, d3] }
  | _ => none }
def validManyRow : OpenClaim := { program := "ythomiajjiikmaaagreatdoor", sum := "6a3f2f288c4e684221ac17315973ea95b1d7cdbc15a31dd471d95fd77457af0c", func := "paling/palinglaw11.ValidMany", spec := "validMany", inPlace := ["internal/abi.NoEscape", "internal/bytealg.IndexByteString", "internal/bytealg.MakeNoZero"], unfollowed := true, recurses := true, named := ["strconv.ErrSyntax", "strconv.ErrRange", "internal/strconv.uint64pow10", "math/bits.deBruijn32tab", "math/bits.deBruijn64tab", "paling/tree.signs", "paling/parse.simple", "paling/parse.levels", "paling/parse.reserved", "paling/scope.words", "paling/code.words", "paling/compile.ops"], plainKeys := false, apart := false, laid := [("math/bits.deBruijn32tab", laid_math_bits_deBruijn32tab), ("math/bits.deBruijn64tab", laid_math_bits_deBruijn64tab), ("internal/strconv.uint64pow10", laid_internal_strconv_uint64pow10), ("strconv.ErrRange", laid_strconv_ErrRange), ("strconv.ErrSyntax", laid_strconv_ErrSyntax), ("paling/code.words", laid_paling_code_words), ("paling/tree.signs", laid_paling_tree_signs), ("paling/parse.reserved", laid_paling_parse_reserved), ("paling/parse.levels", laid_paling_parse_levels), ("paling/parse.simple", laid_paling_parse_simple), ("paling/scope.words", laid_paling_scope_words), ("paling/compile.ops", laid_paling_compile_ops)] }
def ValidManySaid : Prop := validManyRow.holds Tryz.pinned (OpenSpec.ofChange validManySpec)

/-- ITS FALSE NEIGHBOUR: 'it returns false'. Refute it at one input. -/
def validManyWrong : ChangeSpec := { name := "validMany", fn := fun _ => fun
  | [d1, d2, d3] => { results := [.lit (.bool false)], args := [d1, d2, d3] }
  | _ => none }
def ValidManyWrongFalsely : Prop := validManyRow.holds Tryz.pinned (OpenSpec.ofChange validManyWrong)

/-- 'palinglaw12.PrimTwo': WHATEVER THE INPUT: true; the input reads as it did. -/
def primTwoSpec : ChangeSpec := { name := "primTwo", fn := fun _ => fun
  | [d1, d2, d3, d4, d5, d6] => { results := [.lit (.bool true)], args := [d1, d2, d3, d4, d5, d6] }
  | _ => none }
def primTwoRow : OpenClaim := { program := "ythomiajjiikmaaagreatdoor", sum := "6a3f2f288c4e684221ac17315973ea95b1d7cdbc15a31dd471d95fd77457af0c", func := "paling/palinglaw12.PrimTwo", spec := "primTwo", inPlace := ["internal/abi.NoEscape", "internal/bytealg.IndexByteString", "internal/bytealg.MakeNoZero"], unfollowed := true, recurses := true, named := ["strconv.ErrSyntax", "strconv.ErrRange", "internal/strconv.uint64pow10", "math/bits.deBruijn32tab", "math/bits.deBruijn64tab", "paling/tree.signs", "paling/parse.simple", "paling/parse.levels", "paling/parse.reserved", "paling/scope.words", "paling/code.words", "paling/compile.ops"], plainKeys := false, apart := false, laid := [("math/bits.deBruijn32tab", laid_math_bits_deBruijn32tab), ("math/bits.deBruijn64tab", laid_math_bits_deBruijn64tab), ("internal/strconv.uint64pow10", laid_internal_strconv_uint64pow10), ("strconv.ErrRange", laid_strconv_ErrRange), ("strconv.ErrSyntax", laid_strconv_ErrSyntax), ("paling/code.words", laid_paling_code_words), ("paling/tree.signs", laid_paling_tree_signs), ("paling/parse.reserved", laid_paling_parse_reserved), ("paling/parse.levels", laid_paling_parse_levels), ("paling/parse.simple", laid_paling_parse_simple), ("paling/scope.words", laid_paling_scope_words), ("paling/compile.ops", laid_paling_compile_ops)] }
def PrimTwoSaid : Prop := primTwoRow.holds Tryz.pinned (OpenSpec.ofChange primTwoSpec)

/-- ITS FALSE NEIGHBOUR: 'it returns false'. Refute it at one input. -/
def primTwoWrong : ChangeSpec := { name := "primTwo", fn := fun _ => fun
  | [d1, d2, d3, d4, d5, d6] => { results := [.lit (.bool false)], args := [d1, d2, d3, d4, d5, d6] }
  | _ => none }
def PrimTwoWrongFalsely : Prop := primTwoRow.holds Tryz.pinned (OpenSpec.ofChange primTwoWrong)

/-- 'palinglaw12.PrimTexts': WHATEVER THE INPUT: true; the input reads as it did. -/
def primTextsSpec : ChangeSpec := { name := "primTexts", fn := fun _ => fun
  | [d1, d2, d3] => { results := [.lit (.bool true)], args := [d1, d2, d3] }
  | _ => none }
def primTextsRow : OpenClaim := { program := "ythomiajjiikmaaagreatdoor", sum := "6a3f2f288c4e684221ac17315973ea95b1d7cdbc15a31dd471d95fd77457af0c", func := "paling/palinglaw12.PrimTexts", spec := "primTexts", inPlace := ["internal/abi.NoEscape", "internal/bytealg.IndexByteString", "internal/bytealg.MakeNoZero"], unfollowed := true, recurses := true, named := ["strconv.ErrSyntax", "strconv.ErrRange", "internal/strconv.uint64pow10", "math/bits.deBruijn32tab", "math/bits.deBruijn64tab", "paling/tree.signs", "paling/parse.simple", "paling/parse.levels", "paling/parse.reserved", "paling/scope.words", "paling/code.words", "paling/compile.ops"], plainKeys := false, apart := false, laid := [("math/bits.deBruijn32tab", laid_math_bits_deBruijn32tab), ("math/bits.deBruijn64tab", laid_math_bits_deBruijn64tab), ("internal/strconv.uint64pow10", laid_internal_strconv_uint64pow10), ("strconv.ErrRange", laid_strconv_ErrRange), ("strconv.ErrSyntax", laid_strconv_ErrSyntax), ("paling/code.words", laid_paling_code_words), ("paling/tree.signs", laid_paling_tree_signs), ("paling/parse.reserved", laid_paling_parse_reserved), ("paling/parse.levels", laid_paling_parse_levels), ("paling/parse.simple", laid_paling_parse_simple), ("paling/scope.words", laid_paling_scope_words), ("paling/compile.ops", laid_paling_compile_ops)] }
def PrimTextsSaid : Prop := primTextsRow.holds Tryz.pinned (OpenSpec.ofChange primTextsSpec)

/-- ITS FALSE NEIGHBOUR: 'it returns false'. Refute it at one input. -/
def primTextsWrong : ChangeSpec := { name := "primTexts", fn := fun _ => fun
  | [d1, d2, d3] => { results := [.lit (.bool false)], args := [d1, d2, d3] }
  | _ => none }
def PrimTextsWrongFalsely : Prop := primTextsRow.holds Tryz.pinned (OpenSpec.ofChange primTextsWrong)

/-- 'palinglaw12.PrimRing': WHATEVER THE INPUT: true; the input reads as it did. -/
def primRingSpec : ChangeSpec := { name := "primRing", fn := fun _ => fun
  | [d1, d2, d3] => { results := [.lit (.bool true)], args := [d1, d2, d3] }
  | _ => none }
def primRingRow : OpenClaim := { program := "ythomiajjiikmaaagreatdoor", sum := "6a3f2f288c4e684221ac17315973ea95b1d7cdbc15a31dd471d95fd77457af0c", func := "paling/palinglaw12.PrimRing", spec := "primRing", inPlace := ["internal/abi.NoEscape", "internal/bytealg.IndexByteString", "internal/bytealg.MakeNoZero"], unfollowed := true, recurses := true, named := ["strconv.ErrSyntax", "strconv.ErrRange", "internal/strconv.uint64pow10", "math/bits.deBruijn32tab", "math/bits.deBruijn64tab", "paling/tree.signs", "paling/parse.simple", "paling/parse.levels", "paling/parse.reserved", "paling/scope.words", "paling/code.words", "paling/compile.ops"], plainKeys := false, apart := false, laid := [("math/bits.deBruijn32tab", laid_math_bits_deBruijn32tab), ("math/bits.deBruijn64tab", laid_math_bits_deBruijn64tab), ("internal/strconv.uint64pow10", laid_internal_strconv_uint64pow10), ("strconv.ErrRange", laid_strconv_ErrRange), ("strconv.ErrSyntax", laid_strconv_ErrSyntax), ("paling/code.words", laid_paling_code_words), ("paling/tree.signs", laid_paling_tree_signs), ("paling/parse.reserved", laid_paling_parse_reserved), ("paling/parse.levels", laid_paling_parse_levels), ("paling/parse.simple", laid_paling_parse_simple), ("paling/scope.words", laid_paling_scope_words), ("paling/compile.ops", laid_paling_compile_ops)] }
def PrimRingSaid : Prop := primRingRow.holds Tryz.pinned (OpenSpec.ofChange primRingSpec)

/-- ITS FALSE NEIGHBOUR: 'it returns false'. Refute it at one input. -/
def primRingWrong : ChangeSpec := { name := "primRing", fn := fun _ => fun
  | [d1, d2, d3] => { results := [.lit (.bool false)], args := [d1, d2, d3] }
  | _ => none }
def PrimRingWrongFalsely : Prop := primRingRow.holds Tryz.pinned (OpenSpec.ofChange primRingWrong)

/-- 'palinglaw12.PrimOne': WHATEVER THE INPUT: true; the input reads as it did. -/
def primOneSpec : ChangeSpec := { name := "primOne", fn := fun _ => fun
  | [d1, d2, d3] => { results := [.lit (.bool true)], args := [d1, d2, d3] }
  | _ => none }
def primOneRow : OpenClaim := { program := "ythomiajjiikmaaagreatdoor", sum := "6a3f2f288c4e684221ac17315973ea95b1d7cdbc15a31dd471d95fd77457af0c", func := "paling/palinglaw12.PrimOne", spec := "primOne", inPlace := ["internal/abi.NoEscape", "internal/bytealg.IndexByteString", "internal/bytealg.MakeNoZero"], unfollowed := true, recurses := true, named := ["strconv.ErrSyntax", "strconv.ErrRange", "internal/strconv.uint64pow10", "math/bits.deBruijn32tab", "math/bits.deBruijn64tab", "paling/tree.signs", "paling/parse.simple", "paling/parse.levels", "paling/parse.reserved", "paling/scope.words", "paling/code.words", "paling/compile.ops"], plainKeys := false, apart := false, laid := [("math/bits.deBruijn32tab", laid_math_bits_deBruijn32tab), ("math/bits.deBruijn64tab", laid_math_bits_deBruijn64tab), ("internal/strconv.uint64pow10", laid_internal_strconv_uint64pow10), ("strconv.ErrRange", laid_strconv_ErrRange), ("strconv.ErrSyntax", laid_strconv_ErrSyntax), ("paling/code.words", laid_paling_code_words), ("paling/tree.signs", laid_paling_tree_signs), ("paling/parse.reserved", laid_paling_parse_reserved), ("paling/parse.levels", laid_paling_parse_levels), ("paling/parse.simple", laid_paling_parse_simple), ("paling/scope.words", laid_paling_scope_words), ("paling/compile.ops", laid_paling_compile_ops)] }
def PrimOneSaid : Prop := primOneRow.holds Tryz.pinned (OpenSpec.ofChange primOneSpec)

/-- ITS FALSE NEIGHBOUR: 'it returns false'. Refute it at one input. -/
def primOneWrong : ChangeSpec := { name := "primOne", fn := fun _ => fun
  | [d1, d2, d3] => { results := [.lit (.bool false)], args := [d1, d2, d3] }
  | _ => none }
def PrimOneWrongFalsely : Prop := primOneRow.holds Tryz.pinned (OpenSpec.ofChange primOneWrong)

/-- 'palinglaw13.RecordFull': WHATEVER THE INPUT: true; the input reads as it did. -/
def recordFullSpec : ChangeSpec := { name := "recordFull", fn := fun _ => fun
  | [d1, d2] => { results := [.lit (.bool true)], args := [d1, d2] }
  | _ => none }
def recordFullRow : OpenClaim := { program := "ythomiajjiikmaaagreatdoor", sum := "6a3f2f288c4e684221ac17315973ea95b1d7cdbc15a31dd471d95fd77457af0c", func := "paling/palinglaw13.RecordFull", spec := "recordFull", inPlace := ["internal/abi.NoEscape", "internal/bytealg.IndexByteString", "internal/bytealg.MakeNoZero"], unfollowed := true, recurses := true, named := ["strconv.ErrSyntax", "strconv.ErrRange", "internal/strconv.uint64pow10", "math/bits.deBruijn32tab", "math/bits.deBruijn64tab", "paling/tree.signs", "paling/parse.simple", "paling/parse.levels", "paling/parse.reserved", "paling/scope.words", "paling/code.words", "paling/compile.ops"], plainKeys := false, apart := false, laid := [("math/bits.deBruijn32tab", laid_math_bits_deBruijn32tab), ("math/bits.deBruijn64tab", laid_math_bits_deBruijn64tab), ("internal/strconv.uint64pow10", laid_internal_strconv_uint64pow10), ("strconv.ErrRange", laid_strconv_ErrRange), ("strconv.ErrSyntax", laid_strconv_ErrSyntax), ("paling/code.words", laid_paling_code_words), ("paling/tree.signs", laid_paling_tree_signs), ("paling/parse.reserved", laid_paling_parse_reserved), ("paling/parse.levels", laid_paling_parse_levels), ("paling/parse.simple", laid_paling_parse_simple), ("paling/scope.words", laid_paling_scope_words), ("paling/compile.ops", laid_paling_compile_ops)] }
def RecordFullSaid : Prop := recordFullRow.holds Tryz.pinned (OpenSpec.ofChange recordFullSpec)

/-- ITS FALSE NEIGHBOUR: 'it returns false'. Refute it at one input. -/
def recordFullWrong : ChangeSpec := { name := "recordFull", fn := fun _ => fun
  | [d1, d2] => { results := [.lit (.bool false)], args := [d1, d2] }
  | _ => none }
def RecordFullWrongFalsely : Prop := recordFullRow.holds Tryz.pinned (OpenSpec.ofChange recordFullWrong)

/-- 'palinglaw13.RecordApart': WHATEVER THE INPUT: true; the input reads as it did. -/
def recordApartSpec : ChangeSpec := { name := "recordApart", fn := fun _ => fun
  | [d1, d2, d3, d4] => { results := [.lit (.bool true)], args := [d1, d2, d3, d4] }
  | _ => none }
def recordApartRow : OpenClaim := { program := "ythomiajjiikmaaagreatdoor", sum := "6a3f2f288c4e684221ac17315973ea95b1d7cdbc15a31dd471d95fd77457af0c", func := "paling/palinglaw13.RecordApart", spec := "recordApart", inPlace := ["internal/abi.NoEscape", "internal/bytealg.IndexByteString", "internal/bytealg.MakeNoZero"], unfollowed := true, recurses := true, named := ["strconv.ErrSyntax", "strconv.ErrRange", "internal/strconv.uint64pow10", "math/bits.deBruijn32tab", "math/bits.deBruijn64tab", "paling/tree.signs", "paling/parse.simple", "paling/parse.levels", "paling/parse.reserved", "paling/scope.words", "paling/code.words", "paling/compile.ops"], plainKeys := false, apart := false, laid := [("math/bits.deBruijn32tab", laid_math_bits_deBruijn32tab), ("math/bits.deBruijn64tab", laid_math_bits_deBruijn64tab), ("internal/strconv.uint64pow10", laid_internal_strconv_uint64pow10), ("strconv.ErrRange", laid_strconv_ErrRange), ("strconv.ErrSyntax", laid_strconv_ErrSyntax), ("paling/code.words", laid_paling_code_words), ("paling/tree.signs", laid_paling_tree_signs), ("paling/parse.reserved", laid_paling_parse_reserved), ("paling/parse.levels", laid_paling_parse_levels), ("paling/parse.simple", laid_paling_parse_simple), ("paling/scope.words", laid_paling_scope_words), ("paling/compile.ops", laid_paling_compile_ops)] }
def RecordApartSaid : Prop := recordApartRow.holds Tryz.pinned (OpenSpec.ofChange recordApartSpec)

/-- ITS FALSE NEIGHBOUR: 'it returns false'. Refute it at one input. -/
def recordApartWrong : ChangeSpec := { name := "recordApart", fn := fun _ => fun
  | [d1, d2, d3, d4] => { results := [.lit (.bool false)], args := [d1, d2, d3, d4] }
  | _ => none }
def RecordApartWrongFalsely : Prop := recordApartRow.holds Tryz.pinned (OpenSpec.ofChange recordApartWrong)

/-- 'palinglaw13.RecordPlays': WHATEVER THE INPUT: true; the input reads as it did. -/
def recordPlaysSpec : ChangeSpec := { name := "recordPlays", fn := fun _ => fun
  | [d] => { results := [.lit (.bool true)], args := [d] }
  | _ => none }
def recordPlaysRow : OpenClaim := { program := "ythomiajjiikmaaagreatdoor", sum := "6a3f2f288c4e684221ac17315973ea95b1d7cdbc15a31dd471d95fd77457af0c", func := "paling/palinglaw13.RecordPlays", spec := "recordPlays", inPlace := ["internal/abi.NoEscape", "internal/bytealg.IndexByteString", "internal/bytealg.MakeNoZero"], unfollowed := true, recurses := true, named := ["strconv.ErrSyntax", "strconv.ErrRange", "internal/strconv.uint64pow10", "math/bits.deBruijn32tab", "math/bits.deBruijn64tab", "paling/tree.signs", "paling/parse.simple", "paling/parse.levels", "paling/parse.reserved", "paling/scope.words", "paling/code.words", "paling/compile.ops"], plainKeys := false, apart := false, laid := [("math/bits.deBruijn32tab", laid_math_bits_deBruijn32tab), ("math/bits.deBruijn64tab", laid_math_bits_deBruijn64tab), ("internal/strconv.uint64pow10", laid_internal_strconv_uint64pow10), ("strconv.ErrRange", laid_strconv_ErrRange), ("strconv.ErrSyntax", laid_strconv_ErrSyntax), ("paling/code.words", laid_paling_code_words), ("paling/tree.signs", laid_paling_tree_signs), ("paling/parse.reserved", laid_paling_parse_reserved), ("paling/parse.levels", laid_paling_parse_levels), ("paling/parse.simple", laid_paling_parse_simple), ("paling/scope.words", laid_paling_scope_words), ("paling/compile.ops", laid_paling_compile_ops)] }
def RecordPlaysSaid : Prop := recordPlaysRow.holds Tryz.pinned (OpenSpec.ofChange recordPlaysSpec)

/-- ITS FALSE NEIGHBOUR: 'it returns false'. Refute it at one input. -/
def recordPlaysWrong : ChangeSpec := { name := "recordPlays", fn := fun _ => fun
  | [d] => { results := [.lit (.bool false)], args := [d] }
  | _ => none }
def RecordPlaysWrongFalsely : Prop := recordPlaysRow.holds Tryz.pinned (OpenSpec.ofChange recordPlaysWrong)

/-- 'palinglaw13.RecordOthers': WHATEVER THE INPUT: true; the input reads as it did. -/
def recordOthersSpec : ChangeSpec := { name := "recordOthers", fn := fun _ => fun
  | [d1, d2, d3] => { results := [.lit (.bool true)], args := [d1, d2, d3] }
  | _ => none }
def recordOthersRow : OpenClaim := { program := "ythomiajjiikmaaagreatdoor", sum := "6a3f2f288c4e684221ac17315973ea95b1d7cdbc15a31dd471d95fd77457af0c", func := "paling/palinglaw13.RecordOthers", spec := "recordOthers", inPlace := ["internal/abi.NoEscape", "internal/bytealg.IndexByteString", "internal/bytealg.MakeNoZero"], unfollowed := true, recurses := true, named := ["strconv.ErrSyntax", "strconv.ErrRange", "internal/strconv.uint64pow10", "math/bits.deBruijn32tab", "math/bits.deBruijn64tab", "paling/tree.signs", "paling/parse.simple", "paling/parse.levels", "paling/parse.reserved", "paling/scope.words", "paling/code.words", "paling/compile.ops"], plainKeys := false, apart := false, laid := [("math/bits.deBruijn32tab", laid_math_bits_deBruijn32tab), ("math/bits.deBruijn64tab", laid_math_bits_deBruijn64tab), ("internal/strconv.uint64pow10", laid_internal_strconv_uint64pow10), ("strconv.ErrRange", laid_strconv_ErrRange), ("strconv.ErrSyntax", laid_strconv_ErrSyntax), ("paling/code.words", laid_paling_code_words), ("paling/tree.signs", laid_paling_tree_signs), ("paling/parse.reserved", laid_paling_parse_reserved), ("paling/parse.levels", laid_paling_parse_levels), ("paling/parse.simple", laid_paling_parse_simple), ("paling/scope.words", laid_paling_scope_words), ("paling/compile.ops", laid_paling_compile_ops)] }
def RecordOthersSaid : Prop := recordOthersRow.holds Tryz.pinned (OpenSpec.ofChange recordOthersSpec)

/-- ITS FALSE NEIGHBOUR: 'it returns false'. Refute it at one input. -/
def recordOthersWrong : ChangeSpec := { name := "recordOthers", fn := fun _ => fun
  | [d1, d2, d3] => { results := [.lit (.bool false)], args := [d1, d2, d3] }
  | _ => none }
def RecordOthersWrongFalsely : Prop := recordOthersRow.holds Tryz.pinned (OpenSpec.ofChange recordOthersWrong)

/-- 'palinglaw14.SealBrands': WHATEVER THE INPUT: true; the input reads as it did. -/
def sealBrandsSpec : ChangeSpec := { name := "sealBrands", fn := fun _ => fun
  | [d1, d2, d3] => { results := [.lit (.bool true)], args := [d1, d2, d3] }
  | _ => none }
def sealBrandsRow : OpenClaim := { program := "ythomiajjiikmaaagreatdoor", sum := "6a3f2f288c4e684221ac17315973ea95b1d7cdbc15a31dd471d95fd77457af0c", func := "paling/palinglaw14.SealBrands", spec := "sealBrands", inPlace := ["internal/abi.NoEscape", "internal/bytealg.IndexByteString", "internal/bytealg.MakeNoZero"], unfollowed := true, recurses := true, named := ["strconv.ErrSyntax", "strconv.ErrRange", "internal/strconv.uint64pow10", "math/bits.deBruijn32tab", "math/bits.deBruijn64tab", "paling/tree.signs", "paling/parse.simple", "paling/parse.levels", "paling/parse.reserved", "paling/scope.words", "paling/code.words", "paling/compile.ops"], plainKeys := false, apart := false, laid := [("math/bits.deBruijn32tab", laid_math_bits_deBruijn32tab), ("math/bits.deBruijn64tab", laid_math_bits_deBruijn64tab), ("internal/strconv.uint64pow10", laid_internal_strconv_uint64pow10), ("strconv.ErrRange", laid_strconv_ErrRange), ("strconv.ErrSyntax", laid_strconv_ErrSyntax), ("paling/code.words", laid_paling_code_words), ("paling/tree.signs", laid_paling_tree_signs), ("paling/parse.reserved", laid_paling_parse_reserved), ("paling/parse.levels", laid_paling_parse_levels), ("paling/parse.simple", laid_paling_parse_simple), ("paling/scope.words", laid_paling_scope_words), ("paling/compile.ops", laid_paling_compile_ops)] }
def SealBrandsSaid : Prop := sealBrandsRow.holds Tryz.pinned (OpenSpec.ofChange sealBrandsSpec)

/-- ITS FALSE NEIGHBOUR: 'it returns false'. Refute it at one input. -/
def sealBrandsWrong : ChangeSpec := { name := "sealBrands", fn := fun _ => fun
  | [d1, d2, d3] => { results := [.lit (.bool false)], args := [d1, d2, d3] }
  | _ => none }
def SealBrandsWrongFalsely : Prop := sealBrandsRow.holds Tryz.pinned (OpenSpec.ofChange sealBrandsWrong)

/-- 'palinglaw14.SealOthers': WHATEVER THE INPUT: true; the input reads as it did. -/
def sealOthersSpec : ChangeSpec := { name := "sealOthers", fn := fun _ => fun
  | [d1, d2] => { results := [.lit (.bool true)], args := [d1, d2] }
  | _ => none }
def sealOthersRow : OpenClaim := { program := "ythomiajjiikmaaagreatdoor", sum := "6a3f2f288c4e684221ac17315973ea95b1d7cdbc15a31dd471d95fd77457af0c", func := "paling/palinglaw14.SealOthers", spec := "sealOthers", inPlace := ["internal/abi.NoEscape", "internal/bytealg.IndexByteString", "internal/bytealg.MakeNoZero"], unfollowed := true, recurses := true, named := ["strconv.ErrSyntax", "strconv.ErrRange", "internal/strconv.uint64pow10", "math/bits.deBruijn32tab", "math/bits.deBruijn64tab", "paling/tree.signs", "paling/parse.simple", "paling/parse.levels", "paling/parse.reserved", "paling/scope.words", "paling/code.words", "paling/compile.ops"], plainKeys := false, apart := false, laid := [("math/bits.deBruijn32tab", laid_math_bits_deBruijn32tab), ("math/bits.deBruijn64tab", laid_math_bits_deBruijn64tab), ("internal/strconv.uint64pow10", laid_internal_strconv_uint64pow10), ("strconv.ErrRange", laid_strconv_ErrRange), ("strconv.ErrSyntax", laid_strconv_ErrSyntax), ("paling/code.words", laid_paling_code_words), ("paling/tree.signs", laid_paling_tree_signs), ("paling/parse.reserved", laid_paling_parse_reserved), ("paling/parse.levels", laid_paling_parse_levels), ("paling/parse.simple", laid_paling_parse_simple), ("paling/scope.words", laid_paling_scope_words), ("paling/compile.ops", laid_paling_compile_ops)] }
def SealOthersSaid : Prop := sealOthersRow.holds Tryz.pinned (OpenSpec.ofChange sealOthersSpec)

/-- ITS FALSE NEIGHBOUR: 'it returns false'. Refute it at one input. -/
def sealOthersWrong : ChangeSpec := { name := "sealOthers", fn := fun _ => fun
  | [d1, d2] => { results := [.lit (.bool false)], args := [d1, d2] }
  | _ => none }
def SealOthersWrongFalsely : Prop := sealOthersRow.holds Tryz.pinned (OpenSpec.ofChange sealOthersWrong)

/- THE SECOND FORM. 'bulk': how many values and letters a reading holds, each counted each time it is reached (what is shared counts as often as it is met; a slice's spare places count too). A statement '..UptoSaid' is the law's where the arguments, and the package variables that the reading takes, are together of bulk at most 1048576: NARROWER than '..Said'. Prove '..Said' where nothing that the law and all that it calls make is longer than what came in: it says more and counts as full. Else prove '..UptoSaid'. A law counts once. -/
mutual
def uptoBulk {H : Type} : DataW H → Nat
  | .lit (.string bytes) => bytes.length + 1
  | .lit _ => 1
  | .nil => 1
  | .ptr d => uptoBulk d + 1
  | .slice elems spare => uptoBulkAll elems + uptoBulkAll spare + 1
  | .agg parts => uptoBulkAll parts + 1
  | .iface _ d => uptoBulk d + 1
  | .map entries => uptoBulkEntries entries + 1
  | .held _ => 1
def uptoBulkAll {H : Type} : List (DataW H) → Nat
  | [] => 0
  | d :: r => uptoBulk d + uptoBulkAll r
def uptoBulkEntries {H : Type} : List (Lit × DataW H) → Nat
  | [] => 0
  | x :: r => uptoBulkEntry x + uptoBulkEntries r
def uptoBulkEntry {H : Type} : Lit × DataW H → Nat
  | (.string bytes, d) => bytes.length + uptoBulk d + 1
  | (_, d) => uptoBulk d + 1
 end
def uptoSmall : (H : Type) → List (DataW H) → Bool := fun _ ds => decide (uptoBulkAll ds ≤ 1048576)
def OpenSpec.upto (s : _root_.Go.ChangeSpec) : _root_.Go.OpenSpec := { _root_.Go.OpenSpec.ofChange s with cond := some uptoSmall }

/-- 'palinglaw11.ValidChecks', WHERE WHAT IT READS IS OF BULK AT MOST 1048576: true; the input reads as it did. -/
def validChecksUptoRow : OpenClaim := { program := "ythomiajjiikmaaagreatdoor", sum := "6a3f2f288c4e684221ac17315973ea95b1d7cdbc15a31dd471d95fd77457af0c", func := "paling/palinglaw11.ValidChecks", spec := "validChecks", inPlace := ["internal/abi.NoEscape", "internal/bytealg.IndexByteString", "internal/bytealg.MakeNoZero"], unfollowed := true, recurses := true, named := ["strconv.ErrSyntax", "strconv.ErrRange", "internal/strconv.uint64pow10", "math/bits.deBruijn32tab", "math/bits.deBruijn64tab", "paling/tree.signs", "paling/parse.simple", "paling/parse.levels", "paling/parse.reserved", "paling/scope.words", "paling/code.words", "paling/compile.ops"], plainKeys := false, apart := false, laid := [("math/bits.deBruijn32tab", laid_math_bits_deBruijn32tab), ("math/bits.deBruijn64tab", laid_math_bits_deBruijn64tab), ("internal/strconv.uint64pow10", laid_internal_strconv_uint64pow10), ("strconv.ErrRange", laid_strconv_ErrRange), ("strconv.ErrSyntax", laid_strconv_ErrSyntax), ("paling/code.words", laid_paling_code_words), ("paling/tree.signs", laid_paling_tree_signs), ("paling/parse.reserved", laid_paling_parse_reserved), ("paling/parse.levels", laid_paling_parse_levels), ("paling/parse.simple", laid_paling_parse_simple), ("paling/scope.words", laid_paling_scope_words), ("paling/compile.ops", laid_paling_compile_ops)], narrowed := true }
def ValidChecksUptoSaid : Prop := validChecksUptoRow.holds Tryz.pinned (OpenSpec.upto validChecksSpec)

/-- 'palinglaw11.ValidMany', WHERE WHAT IT READS IS OF BULK AT MOST 1048576: true; the input reads as it did. -/
def validManyUptoRow : OpenClaim := { program := "ythomiajjiikmaaagreatdoor", sum := "6a3f2f288c4e684221ac17315973ea95b1d7cdbc15a31dd471d95fd77457af0c", func := "paling/palinglaw11.ValidMany", spec := "validMany", inPlace := ["internal/abi.NoEscape", "internal/bytealg.IndexByteString", "internal/bytealg.MakeNoZero"], unfollowed := true, recurses := true, named := ["strconv.ErrSyntax", "strconv.ErrRange", "internal/strconv.uint64pow10", "math/bits.deBruijn32tab", "math/bits.deBruijn64tab", "paling/tree.signs", "paling/parse.simple", "paling/parse.levels", "paling/parse.reserved", "paling/scope.words", "paling/code.words", "paling/compile.ops"], plainKeys := false, apart := false, laid := [("math/bits.deBruijn32tab", laid_math_bits_deBruijn32tab), ("math/bits.deBruijn64tab", laid_math_bits_deBruijn64tab), ("internal/strconv.uint64pow10", laid_internal_strconv_uint64pow10), ("strconv.ErrRange", laid_strconv_ErrRange), ("strconv.ErrSyntax", laid_strconv_ErrSyntax), ("paling/code.words", laid_paling_code_words), ("paling/tree.signs", laid_paling_tree_signs), ("paling/parse.reserved", laid_paling_parse_reserved), ("paling/parse.levels", laid_paling_parse_levels), ("paling/parse.simple", laid_paling_parse_simple), ("paling/scope.words", laid_paling_scope_words), ("paling/compile.ops", laid_paling_compile_ops)], narrowed := true }
def ValidManyUptoSaid : Prop := validManyUptoRow.holds Tryz.pinned (OpenSpec.upto validManySpec)

/-- 'palinglaw12.PrimTwo', WHERE WHAT IT READS IS OF BULK AT MOST 1048576: true; the input reads as it did. -/
def primTwoUptoRow : OpenClaim := { program := "ythomiajjiikmaaagreatdoor", sum := "6a3f2f288c4e684221ac17315973ea95b1d7cdbc15a31dd471d95fd77457af0c", func := "paling/palinglaw12.PrimTwo", spec := "primTwo", inPlace := ["internal/abi.NoEscape", "internal/bytealg.IndexByteString", "internal/bytealg.MakeNoZero"], unfollowed := true, recurses := true, named := ["strconv.ErrSyntax", "strconv.ErrRange", "internal/strconv.uint64pow10", "math/bits.deBruijn32tab", "math/bits.deBruijn64tab", "paling/tree.signs", "paling/parse.simple", "paling/parse.levels", "paling/parse.reserved", "paling/scope.words", "paling/code.words", "paling/compile.ops"], plainKeys := false, apart := false, laid := [("math/bits.deBruijn32tab", laid_math_bits_deBruijn32tab), ("math/bits.deBruijn64tab", laid_math_bits_deBruijn64tab), ("internal/strconv.uint64pow10", laid_internal_strconv_uint64pow10), ("strconv.ErrRange", laid_strconv_ErrRange), ("strconv.ErrSyntax", laid_strconv_ErrSyntax), ("paling/code.words", laid_paling_code_words), ("paling/tree.signs", laid_paling_tree_signs), ("paling/parse.reserved", laid_paling_parse_reserved), ("paling/parse.levels", laid_paling_parse_levels), ("paling/parse.simple", laid_paling_parse_simple), ("paling/scope.words", laid_paling_scope_words), ("paling/compile.ops", laid_paling_compile_ops)], narrowed := true }
def PrimTwoUptoSaid : Prop := primTwoUptoRow.holds Tryz.pinned (OpenSpec.upto primTwoSpec)

/-- 'palinglaw12.PrimTexts', WHERE WHAT IT READS IS OF BULK AT MOST 1048576: true; the input reads as it did. -/
def primTextsUptoRow : OpenClaim := { program := "ythomiajjiikmaaagreatdoor", sum := "6a3f2f288c4e684221ac17315973ea95b1d7cdbc15a31dd471d95fd77457af0c", func := "paling/palinglaw12.PrimTexts", spec := "primTexts", inPlace := ["internal/abi.NoEscape", "internal/bytealg.IndexByteString", "internal/bytealg.MakeNoZero"], unfollowed := true, recurses := true, named := ["strconv.ErrSyntax", "strconv.ErrRange", "internal/strconv.uint64pow10", "math/bits.deBruijn32tab", "math/bits.deBruijn64tab", "paling/tree.signs", "paling/parse.simple", "paling/parse.levels", "paling/parse.reserved", "paling/scope.words", "paling/code.words", "paling/compile.ops"], plainKeys := false, apart := false, laid := [("math/bits.deBruijn32tab", laid_math_bits_deBruijn32tab), ("math/bits.deBruijn64tab", laid_math_bits_deBruijn64tab), ("internal/strconv.uint64pow10", laid_internal_strconv_uint64pow10), ("strconv.ErrRange", laid_strconv_ErrRange), ("strconv.ErrSyntax", laid_strconv_ErrSyntax), ("paling/code.words", laid_paling_code_words), ("paling/tree.signs", laid_paling_tree_signs), ("paling/parse.reserved", laid_paling_parse_reserved), ("paling/parse.levels", laid_paling_parse_levels), ("paling/parse.simple", laid_paling_parse_simple), ("paling/scope.words", laid_paling_scope_words), ("paling/compile.ops", laid_paling_compile_ops)], narrowed := true }
def PrimTextsUptoSaid : Prop := primTextsUptoRow.holds Tryz.pinned (OpenSpec.upto primTextsSpec)

/-- 'palinglaw12.PrimRing', WHERE WHAT IT READS IS OF BULK AT MOST 1048576: true; the input reads as it did. -/
def primRingUptoRow : OpenClaim := { program := "ythomiajjiikmaaagreatdoor", sum := "6a3f2f288c4e684221ac17315973ea95b1d7cdbc15a31dd471d95fd77457af0c", func := "paling/palinglaw12.PrimRing", spec := "primRing", inPlace := ["internal/abi.NoEscape", "internal/bytealg.IndexByteString", "internal/bytealg.MakeNoZero"], unfollowed := true, recurses := true, named := ["strconv.ErrSyntax", "strconv.ErrRange", "internal/strconv.uint64pow10", "math/bits.deBruijn32tab", "math/bits.deBruijn64tab", "paling/tree.signs", "paling/parse.simple", "paling/parse.levels", "paling/parse.reserved", "paling/scope.words", "paling/code.words", "paling/compile.ops"], plainKeys := false, apart := false, laid := [("math/bits.deBruijn32tab", laid_math_bits_deBruijn32tab), ("math/bits.deBruijn64tab", laid_math_bits_deBruijn64tab), ("internal/strconv.uint64pow10", laid_internal_strconv_uint64pow10), ("strconv.ErrRange", laid_strconv_ErrRange), ("strconv.ErrSyntax", laid_strconv_ErrSyntax), ("paling/code.words", laid_paling_code_words), ("paling/tree.signs", laid_paling_tree_signs), ("paling/parse.reserved", laid_paling_parse_reserved), ("paling/parse.levels", laid_paling_parse_levels), ("paling/parse.simple", laid_paling_parse_simple), ("paling/scope.words", laid_paling_scope_words), ("paling/compile.ops", laid_paling_compile_ops)], narrowed := true }
def PrimRingUptoSaid : Prop := primRingUptoRow.holds Tryz.pinned (OpenSpec.upto primRingSpec)

/-- 'palinglaw12.PrimOne', WHERE WHAT IT READS IS OF BULK AT MOST 1048576: true; the input reads as it did. -/
def primOneUptoRow : OpenClaim := { program := "ythomiajjiikmaaagreatdoor", sum := "6a3f2f288c4e684221ac17315973ea95b1d7cdbc15a31dd471d95fd77457af0c", func := "paling/palinglaw12.PrimOne", spec := "primOne", inPlace := ["internal/abi.NoEscape", "internal/bytealg.IndexByteString", "internal/bytealg.MakeNoZero"], unfollowed := true, recurses := true, named := ["strconv.ErrSyntax", "strconv.ErrRange", "internal/strconv.uint64pow10", "math/bits.deBruijn32tab", "math/bits.deBruijn64tab", "paling/tree.signs", "paling/parse.simple", "paling/parse.levels", "paling/parse.reserved", "paling/scope.words", "paling/code.words", "paling/compile.ops"], plainKeys := false, apart := false, laid := [("math/bits.deBruijn32tab", laid_math_bits_deBruijn32tab), ("math/bits.deBruijn64tab", laid_math_bits_deBruijn64tab), ("internal/strconv.uint64pow10", laid_internal_strconv_uint64pow10), ("strconv.ErrRange", laid_strconv_ErrRange), ("strconv.ErrSyntax", laid_strconv_ErrSyntax), ("paling/code.words", laid_paling_code_words), ("paling/tree.signs", laid_paling_tree_signs), ("paling/parse.reserved", laid_paling_parse_reserved), ("paling/parse.levels", laid_paling_parse_levels), ("paling/parse.simple", laid_paling_parse_simple), ("paling/scope.words", laid_paling_scope_words), ("paling/compile.ops", laid_paling_compile_ops)], narrowed := true }
def PrimOneUptoSaid : Prop := primOneUptoRow.holds Tryz.pinned (OpenSpec.upto primOneSpec)

/-- 'palinglaw13.RecordFull', WHERE WHAT IT READS IS OF BULK AT MOST 1048576: true; the input reads as it did. -/
def recordFullUptoRow : OpenClaim := { program := "ythomiajjiikmaaagreatdoor", sum := "6a3f2f288c4e684221ac17315973ea95b1d7cdbc15a31dd471d95fd77457af0c", func := "paling/palinglaw13.RecordFull", spec := "recordFull", inPlace := ["internal/abi.NoEscape", "internal/bytealg.IndexByteString", "internal/bytealg.MakeNoZero"], unfollowed := true, recurses := true, named := ["strconv.ErrSyntax", "strconv.ErrRange", "internal/strconv.uint64pow10", "math/bits.deBruijn32tab", "math/bits.deBruijn64tab", "paling/tree.signs", "paling/parse.simple", "paling/parse.levels", "paling/parse.reserved", "paling/scope.words", "paling/code.words", "paling/compile.ops"], plainKeys := false, apart := false, laid := [("math/bits.deBruijn32tab", laid_math_bits_deBruijn32tab), ("math/bits.deBruijn64tab", laid_math_bits_deBruijn64tab), ("internal/strconv.uint64pow10", laid_internal_strconv_uint64pow10), ("strconv.ErrRange", laid_strconv_ErrRange), ("strconv.ErrSyntax", laid_strconv_ErrSyntax), ("paling/code.words", laid_paling_code_words), ("paling/tree.signs", laid_paling_tree_signs), ("paling/parse.reserved", laid_paling_parse_reserved), ("paling/parse.levels", laid_paling_parse_levels), ("paling/parse.simple", laid_paling_parse_simple), ("paling/scope.words", laid_paling_scope_words), ("paling/compile.ops", laid_paling_compile_ops)], narrowed := true }
def RecordFullUptoSaid : Prop := recordFullUptoRow.holds Tryz.pinned (OpenSpec.upto recordFullSpec)

/-- 'palinglaw13.RecordApart', WHERE WHAT IT READS IS OF BULK AT MOST 1048576: true; the input reads as it did. -/
def recordApartUptoRow : OpenClaim := { program := "ythomiajjiikmaaagreatdoor", sum := "6a3f2f288c4e684221ac17315973ea95b1d7cdbc15a31dd471d95fd77457af0c", func := "paling/palinglaw13.RecordApart", spec := "recordApart", inPlace := ["internal/abi.NoEscape", "internal/bytealg.IndexByteString", "internal/bytealg.MakeNoZero"], unfollowed := true, recurses := true, named := ["strconv.ErrSyntax", "strconv.ErrRange", "internal/strconv.uint64pow10", "math/bits.deBruijn32tab", "math/bits.deBruijn64tab", "paling/tree.signs", "paling/parse.simple", "paling/parse.levels", "paling/parse.reserved", "paling/scope.words", "paling/code.words", "paling/compile.ops"], plainKeys := false, apart := false, laid := [("math/bits.deBruijn32tab", laid_math_bits_deBruijn32tab), ("math/bits.deBruijn64tab", laid_math_bits_deBruijn64tab), ("internal/strconv.uint64pow10", laid_internal_strconv_uint64pow10), ("strconv.ErrRange", laid_strconv_ErrRange), ("strconv.ErrSyntax", laid_strconv_ErrSyntax), ("paling/code.words", laid_paling_code_words), ("paling/tree.signs", laid_paling_tree_signs), ("paling/parse.reserved", laid_paling_parse_reserved), ("paling/parse.levels", laid_paling_parse_levels), ("paling/parse.simple", laid_paling_parse_simple), ("paling/scope.words", laid_paling_scope_words), ("paling/compile.ops", laid_paling_compile_ops)], narrowed := true }
def RecordApartUptoSaid : Prop := recordApartUptoRow.holds Tryz.pinned (OpenSpec.upto recordApartSpec)

/-- 'palinglaw13.RecordPlays', WHERE WHAT IT READS IS OF BULK AT MOST 1048576: true; the input reads as it did. -/
def recordPlaysUptoRow : OpenClaim := { program := "ythomiajjiikmaaagreatdoor", sum := "6a3f2f288c4e684221ac17315973ea95b1d7cdbc15a31dd471d95fd77457af0c", func := "paling/palinglaw13.RecordPlays", spec := "recordPlays", inPlace := ["internal/abi.NoEscape", "internal/bytealg.IndexByteString", "internal/bytealg.MakeNoZero"], unfollowed := true, recurses := true, named := ["strconv.ErrSyntax", "strconv.ErrRange", "internal/strconv.uint64pow10", "math/bits.deBruijn32tab", "math/bits.deBruijn64tab", "paling/tree.signs", "paling/parse.simple", "paling/parse.levels", "paling/parse.reserved", "paling/scope.words", "paling/code.words", "paling/compile.ops"], plainKeys := false, apart := false, laid := [("math/bits.deBruijn32tab", laid_math_bits_deBruijn32tab), ("math/bits.deBruijn64tab", laid_math_bits_deBruijn64tab), ("internal/strconv.uint64pow10", laid_internal_strconv_uint64pow10), ("strconv.ErrRange", laid_strconv_ErrRange), ("strconv.ErrSyntax", laid_strconv_ErrSyntax), ("paling/code.words", laid_paling_code_words), ("paling/tree.signs", laid_paling_tree_signs), ("paling/parse.reserved", laid_paling_parse_reserved), ("paling/parse.levels", laid_paling_parse_levels), ("paling/parse.simple", laid_paling_parse_simple), ("paling/scope.words", laid_paling_scope_words), ("paling/compile.ops", laid_paling_compile_ops)], narrowed := true }
def RecordPlaysUptoSaid : Prop := recordPlaysUptoRow.holds Tryz.pinned (OpenSpec.upto recordPlaysSpec)

/-- 'palinglaw13.RecordOthers', WHERE WHAT IT READS IS OF BULK AT MOST 1048576: true; the input reads as it did. -/
def recordOthersUptoRow : OpenClaim := { program := "ythomiajjiikmaaagreatdoor", sum := "6a3f2f288c4e684221ac17315973ea95b1d7cdbc15a31dd471d95fd77457af0c", func := "paling/palinglaw13.RecordOthers", spec := "recordOthers", inPlace := ["internal/abi.NoEscape", "internal/bytealg.IndexByteString", "internal/bytealg.MakeNoZero"], unfollowed := true, recurses := true, named := ["strconv.ErrSyntax", "strconv.ErrRange", "internal/strconv.uint64pow10", "math/bits.deBruijn32tab", "math/bits.deBruijn64tab", "paling/tree.signs", "paling/parse.simple", "paling/parse.levels", "paling/parse.reserved", "paling/scope.words", "paling/code.words", "paling/compile.ops"], plainKeys := false, apart := false, laid := [("math/bits.deBruijn32tab", laid_math_bits_deBruijn32tab), ("math/bits.deBruijn64tab", laid_math_bits_deBruijn64tab), ("internal/strconv.uint64pow10", laid_internal_strconv_uint64pow10), ("strconv.ErrRange", laid_strconv_ErrRange), ("strconv.ErrSyntax", laid_strconv_ErrSyntax), ("paling/code.words", laid_paling_code_words), ("paling/tree.signs", laid_paling_tree_signs), ("paling/parse.reserved", laid_paling_parse_reserved), ("paling/parse.levels", laid_paling_parse_levels), ("paling/parse.simple", laid_paling_parse_simple), ("paling/scope.words", laid_paling_scope_words), ("paling/compile.ops", laid_paling_compile_ops)], narrowed := true }
def RecordOthersUptoSaid : Prop := recordOthersUptoRow.holds Tryz.pinned (OpenSpec.upto recordOthersSpec)

/-- 'palinglaw14.SealBrands', WHERE WHAT IT READS IS OF BULK AT MOST 1048576: true; the input reads as it did. -/
def sealBrandsUptoRow : OpenClaim := { program := "ythomiajjiikmaaagreatdoor", sum := "6a3f2f288c4e684221ac17315973ea95b1d7cdbc15a31dd471d95fd77457af0c", func := "paling/palinglaw14.SealBrands", spec := "sealBrands", inPlace := ["internal/abi.NoEscape", "internal/bytealg.IndexByteString", "internal/bytealg.MakeNoZero"], unfollowed := true, recurses := true, named := ["strconv.ErrSyntax", "strconv.ErrRange", "internal/strconv.uint64pow10", "math/bits.deBruijn32tab", "math/bits.deBruijn64tab", "paling/tree.signs", "paling/parse.simple", "paling/parse.levels", "paling/parse.reserved", "paling/scope.words", "paling/code.words", "paling/compile.ops"], plainKeys := false, apart := false, laid := [("math/bits.deBruijn32tab", laid_math_bits_deBruijn32tab), ("math/bits.deBruijn64tab", laid_math_bits_deBruijn64tab), ("internal/strconv.uint64pow10", laid_internal_strconv_uint64pow10), ("strconv.ErrRange", laid_strconv_ErrRange), ("strconv.ErrSyntax", laid_strconv_ErrSyntax), ("paling/code.words", laid_paling_code_words), ("paling/tree.signs", laid_paling_tree_signs), ("paling/parse.reserved", laid_paling_parse_reserved), ("paling/parse.levels", laid_paling_parse_levels), ("paling/parse.simple", laid_paling_parse_simple), ("paling/scope.words", laid_paling_scope_words), ("paling/compile.ops", laid_paling_compile_ops)], narrowed := true }
def SealBrandsUptoSaid : Prop := sealBrandsUptoRow.holds Tryz.pinned (OpenSpec.upto sealBrandsSpec)

/-- 'palinglaw14.SealOthers', WHERE WHAT IT READS IS OF BULK AT MOST 1048576: true; the input reads as it did. -/
def sealOthersUptoRow : OpenClaim := { program := "ythomiajjiikmaaagreatdoor", sum := "6a3f2f288c4e684221ac17315973ea95b1d7cdbc15a31dd471d95fd77457af0c", func := "paling/palinglaw14.SealOthers", spec := "sealOthers", inPlace := ["internal/abi.NoEscape", "internal/bytealg.IndexByteString", "internal/bytealg.MakeNoZero"], unfollowed := true, recurses := true, named := ["strconv.ErrSyntax", "strconv.ErrRange", "internal/strconv.uint64pow10", "math/bits.deBruijn32tab", "math/bits.deBruijn64tab", "paling/tree.signs", "paling/parse.simple", "paling/parse.levels", "paling/parse.reserved", "paling/scope.words", "paling/code.words", "paling/compile.ops"], plainKeys := false, apart := false, laid := [("math/bits.deBruijn32tab", laid_math_bits_deBruijn32tab), ("math/bits.deBruijn64tab", laid_math_bits_deBruijn64tab), ("internal/strconv.uint64pow10", laid_internal_strconv_uint64pow10), ("strconv.ErrRange", laid_strconv_ErrRange), ("strconv.ErrSyntax", laid_strconv_ErrSyntax), ("paling/code.words", laid_paling_code_words), ("paling/tree.signs", laid_paling_tree_signs), ("paling/parse.reserved", laid_paling_parse_reserved), ("paling/parse.levels", laid_paling_parse_levels), ("paling/parse.simple", laid_paling_parse_simple), ("paling/scope.words", laid_paling_scope_words), ("paling/compile.ops", laid_paling_compile_ops)], narrowed := true }
def SealOthersUptoSaid : Prop := sealOthersUptoRow.holds Tryz.pinned (OpenSpec.upto sealOthersSpec)

end Rows
end Go.Proofs.YthomiajjiikmaaaGreatDoor
