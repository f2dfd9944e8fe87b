/-
  DERIVED. GIVEN WITH THE SEED: THE PROGRAM's TIES (one call each: nine closed facts by the kernel) AND EACH ROW's TIE, after the 31st guide's Derived/Test/Toyas{Tie, Card}.lean. No idea stands in it: it is a product of the set-up. Laid BY PROGRAM, IN A SANDBOX (cutbox-door.mjs). By AI agents, Wed Nov 11 2026. No macro, syntax, notation, axiom, sorry.
-/
import Derived.Test.YtdgeilfopkbacaaGreatDoorRows
import Derived.LaidByTextLater
import Derived.SevenTiedAt
import Derived.LaidSub
import Derived.LaidOnce
namespace Go.Proofs.YtdgeilfopkbacaaGreatDoor
open Go
set_option maxRecDepth 100000
theorem seatTie1 : Tryz.prog.laidByTextLater [("math/bits.deBruijn32tab", Rows.laid_math_bits_deBruijn32tab), ("math/bits.deBruijn64tab", Rows.laid_math_bits_deBruijn64tab), ("internal/strconv.uint64pow10", Rows.laid_internal_strconv_uint64pow10), ("strconv.ErrRange", Rows.laid_strconv_ErrRange), ("strconv.ErrSyntax", Rows.laid_strconv_ErrSyntax), ("paling/code.words", Rows.laid_paling_code_words), ("paling/machine.names", Rows.laid_paling_machine_names), ("paling/machine.kinds", Rows.laid_paling_machine_kinds), ("paling/machine.objects", Rows.laid_paling_machine_objects), ("paling/tree.signs", Rows.laid_paling_tree_signs), ("paling/parse.reserved", Rows.laid_paling_parse_reserved), ("paling/parse.levels", Rows.laid_paling_parse_levels), ("paling/parse.simple", Rows.laid_paling_parse_simple), ("paling/scope.words", Rows.laid_paling_scope_words), ("paling/compile.ops", Rows.laid_paling_compile_ops)] [.data, .data, .data, .sentinel, .sentinel, .data, .mapped, .data, .data, .data, .data, .mapped, .data, .widerDeep, .mapped] true :=
  Program.laidByTextLater_by_one 258 8 65 (by kernel_rfl) (by kernel_rfl) (by kernel_rfl) (by kernel_rfl) (by kernel_rfl) (by kernel_rfl) (fun _ _ => by kernel_rfl)
theorem seatTie2 : Tryz.prog.laidByTextLater [("math/bits.deBruijn32tab", Rows.laid_math_bits_deBruijn32tab), ("math/bits.deBruijn64tab", Rows.laid_math_bits_deBruijn64tab), ("internal/strconv.uint64pow10", Rows.laid_internal_strconv_uint64pow10), ("unicode/utf8.acceptRanges", Rows.laid_unicode_utf8_acceptRanges), ("strconv.ErrRange", Rows.laid_strconv_ErrRange), ("strconv.ErrSyntax", Rows.laid_strconv_ErrSyntax), ("paling/code.words", Rows.laid_paling_code_words), ("paling/machine.names", Rows.laid_paling_machine_names), ("paling/machine.kinds", Rows.laid_paling_machine_kinds), ("paling/machine.objects", Rows.laid_paling_machine_objects), ("paling/tree.signs", Rows.laid_paling_tree_signs), ("paling/parse.reserved", Rows.laid_paling_parse_reserved), ("paling/parse.levels", Rows.laid_paling_parse_levels), ("paling/parse.simple", Rows.laid_paling_parse_simple), ("paling/scope.words", Rows.laid_paling_scope_words), ("paling/compile.ops", Rows.laid_paling_compile_ops)] [.data, .data, .data, .data, .sentinel, .sentinel, .data, .mapped, .data, .data, .data, .data, .mapped, .data, .widerDeep, .mapped] true :=
  Program.laidByTextLater_by_one 258 8 65 (by kernel_rfl) (by kernel_rfl) (by kernel_rfl) (by kernel_rfl) (by kernel_rfl) (by kernel_rfl) (fun _ _ => by kernel_rfl)
theorem pin_laid_strconv_isGraphic : Tryz.pinned.checked.prog.pinnedFits "strconv.isGraphic" = true := by kernel_rfl
theorem pin_laid_strconv_isNotPrint16 : Tryz.pinned.checked.prog.pinnedFits "strconv.isNotPrint16" = true := by kernel_rfl
theorem pin_laid_strconv_isNotPrint32 : Tryz.pinned.checked.prog.pinnedFits "strconv.isNotPrint32" = true := by kernel_rfl
theorem pin_laid_strconv_isPrint16 : Tryz.pinned.checked.prog.pinnedFits "strconv.isPrint16" = true := by kernel_rfl
theorem pin_laid_strconv_isPrint32 : Tryz.pinned.checked.prog.pinnedFits "strconv.isPrint32" = true := by kernel_rfl
theorem pin_laid_unicode_utf8_first : Tryz.pinned.checked.prog.pinnedFits "unicode/utf8.first" = true := by kernel_rfl
theorem noOwnUnsafe : Tryz.pinned.checked.prog.headLifts.contains "ownunsafe" = false := by kernel_rfl
theorem tie : Tryz.prog.laidByTextLater [("math/bits.deBruijn32tab", Rows.laid_math_bits_deBruijn32tab), ("math/bits.deBruijn64tab", Rows.laid_math_bits_deBruijn64tab), ("internal/strconv.uint64pow10", Rows.laid_internal_strconv_uint64pow10), ("strconv.ErrRange", Rows.laid_strconv_ErrRange), ("strconv.ErrSyntax", Rows.laid_strconv_ErrSyntax), ("paling/code.words", Rows.laid_paling_code_words), ("paling/tree.signs", Rows.laid_paling_tree_signs), ("paling/parse.reserved", Rows.laid_paling_parse_reserved), ("paling/parse.levels", Rows.laid_paling_parse_levels), ("paling/parse.simple", Rows.laid_paling_parse_simple), ("paling/scope.words", Rows.laid_paling_scope_words), ("paling/compile.ops", Rows.laid_paling_compile_ops)] [.data, .data, .data, .sentinel, .sentinel, .data, .data, .data, .mapped, .data, .widerDeep, .mapped] true :=
  Program.laidByTextLater.sub seatTie1 ["math/bits.deBruijn32tab", "math/bits.deBruijn64tab", "internal/strconv.uint64pow10", "strconv.ErrRange", "strconv.ErrSyntax", "paling/code.words", "paling/tree.signs", "paling/parse.reserved", "paling/parse.levels", "paling/parse.simple", "paling/scope.words", "paling/compile.ops"] (by kernel_rfl) (by kernel_rfl)
theorem wrapSides_row_tie : Rows.wrapSidesRow.laidByTextAt .later Tryz.pinned [.data, .data, .data, .sentinel, .sentinel, .data, .data, .data, .mapped, .data, .widerDeep, .mapped] true :=
  OpenClaim.laidByTextAt_later rfl rfl tie noOwnUnsafe
theorem wrapFull_row_tie : Rows.wrapFullRow.laidByTextAt .later Tryz.pinned [.data, .data, .data, .sentinel, .sentinel, .data, .data, .data, .mapped, .data, .widerDeep, .mapped] true :=
  OpenClaim.laidByTextAt_later rfl rfl tie noOwnUnsafe
theorem frameWorlds_row_tie : Rows.frameWorldsRow.laidByTextAt .later Tryz.pinned [.data, .data, .data, .sentinel, .sentinel, .data, .data, .data, .mapped, .data, .widerDeep, .mapped] true :=
  OpenClaim.laidByTextAt_later rfl rfl tie noOwnUnsafe
theorem frameOf_row_tie : Rows.frameOfRow.laidByTextAt .later Tryz.pinned [.data, .data, .data, .sentinel, .sentinel, .data, .data, .data, .mapped, .data, .widerDeep, .mapped] true :=
  OpenClaim.laidByTextAt_later rfl rfl tie noOwnUnsafe
theorem tie2 : Tryz.prog.laidByTextLater [("math/bits.deBruijn32tab", Rows.laid_math_bits_deBruijn32tab), ("math/bits.deBruijn64tab", Rows.laid_math_bits_deBruijn64tab), ("internal/strconv.uint64pow10", Rows.laid_internal_strconv_uint64pow10), ("strconv.ErrRange", Rows.laid_strconv_ErrRange), ("strconv.ErrSyntax", Rows.laid_strconv_ErrSyntax), ("paling/code.words", Rows.laid_paling_code_words), ("paling/machine.names", Rows.laid_paling_machine_names), ("paling/machine.kinds", Rows.laid_paling_machine_kinds), ("paling/machine.objects", Rows.laid_paling_machine_objects), ("paling/tree.signs", Rows.laid_paling_tree_signs), ("paling/parse.reserved", Rows.laid_paling_parse_reserved), ("paling/parse.levels", Rows.laid_paling_parse_levels), ("paling/parse.simple", Rows.laid_paling_parse_simple), ("paling/scope.words", Rows.laid_paling_scope_words), ("paling/compile.ops", Rows.laid_paling_compile_ops)] [.data, .data, .data, .sentinel, .sentinel, .data, .mapped, .data, .data, .data, .data, .mapped, .data, .widerDeep, .mapped] true :=
  Program.laidByTextLater.sub seatTie1 ["math/bits.deBruijn32tab", "math/bits.deBruijn64tab", "internal/strconv.uint64pow10", "strconv.ErrRange", "strconv.ErrSyntax", "paling/code.words", "paling/machine.names", "paling/machine.kinds", "paling/machine.objects", "paling/tree.signs", "paling/parse.reserved", "paling/parse.levels", "paling/parse.simple", "paling/scope.words", "paling/compile.ops"] (by kernel_rfl) (by kernel_rfl)
theorem machineErrors_row_tie : Rows.machineErrorsRow.laidByTextAt .later Tryz.pinned [.data, .data, .data, .sentinel, .sentinel, .data, .mapped, .data, .data, .data, .data, .mapped, .data, .widerDeep, .mapped] true :=
  OpenClaim.laidByTextAt_later rfl rfl tie2 noOwnUnsafe
theorem machineSums_row_tie : Rows.machineSumsRow.laidByTextAt .later Tryz.pinned [.data, .data, .data, .sentinel, .sentinel, .data, .mapped, .data, .data, .data, .data, .mapped, .data, .widerDeep, .mapped] true :=
  OpenClaim.laidByTextAt_later rfl rfl tie2 noOwnUnsafe
theorem machineHolds_row_tie : Rows.machineHoldsRow.laidByTextAt .later Tryz.pinned [.data, .data, .data, .sentinel, .sentinel, .data, .mapped, .data, .data, .data, .data, .mapped, .data, .widerDeep, .mapped] true :=
  OpenClaim.laidByTextAt_later rfl rfl tie2 noOwnUnsafe
theorem graphTurns_row_tie : Rows.graphTurnsRow.laidByTextAt .later Tryz.pinned [.data, .data, .data, .sentinel, .sentinel, .data, .mapped, .data, .data, .data, .data, .mapped, .data, .widerDeep, .mapped] true :=
  OpenClaim.laidByTextAt_later rfl rfl tie2 noOwnUnsafe
theorem graphDead_row_tie : Rows.graphDeadRow.laidByTextAt .later Tryz.pinned [.data, .data, .data, .sentinel, .sentinel, .data, .mapped, .data, .data, .data, .data, .mapped, .data, .widerDeep, .mapped] true :=
  OpenClaim.laidByTextAt_later rfl rfl tie2 noOwnUnsafe
theorem hostLimits_row_tie : Rows.hostLimitsRow.laidByTextAt .later Tryz.pinned [.data, .data, .data, .sentinel, .sentinel, .data, .mapped, .data, .data, .data, .data, .mapped, .data, .widerDeep, .mapped] true :=
  OpenClaim.laidByTextAt_later rfl rfl tie2 noOwnUnsafe
theorem hostGives_row_tie : Rows.hostGivesRow.laidByTextAt .later Tryz.pinned [.data, .data, .data, .sentinel, .sentinel, .data, .mapped, .data, .data, .data, .data, .mapped, .data, .widerDeep, .mapped] true :=
  OpenClaim.laidByTextAt_later rfl rfl tie2 noOwnUnsafe
theorem fits3 : Tryz.pinned.checked.prog.listedFits [("math/bits.deBruijn32tab", Rows.laid_math_bits_deBruijn32tab), ("math/bits.deBruijn64tab", Rows.laid_math_bits_deBruijn64tab), ("internal/strconv.uint64pow10", Rows.laid_internal_strconv_uint64pow10), ("unicode/utf8.acceptRanges", Rows.laid_unicode_utf8_acceptRanges), ("strconv.ErrRange", Rows.laid_strconv_ErrRange), ("strconv.ErrSyntax", Rows.laid_strconv_ErrSyntax), ("paling/code.words", Rows.laid_paling_code_words), ("paling/machine.names", Rows.laid_paling_machine_names), ("paling/machine.kinds", Rows.laid_paling_machine_kinds), ("paling/machine.objects", Rows.laid_paling_machine_objects), ("paling/tree.signs", Rows.laid_paling_tree_signs), ("paling/parse.reserved", Rows.laid_paling_parse_reserved), ("paling/parse.levels", Rows.laid_paling_parse_levels), ("paling/parse.simple", Rows.laid_paling_parse_simple), ("paling/scope.words", Rows.laid_paling_scope_words), ("paling/compile.ops", Rows.laid_paling_compile_ops), ("strconv.isGraphic", Rows.laid_strconv_isGraphic), ("strconv.isNotPrint16", Rows.laid_strconv_isNotPrint16), ("strconv.isNotPrint32", Rows.laid_strconv_isNotPrint32), ("strconv.isPrint16", Rows.laid_strconv_isPrint16), ("strconv.isPrint32", Rows.laid_strconv_isPrint32), ("unicode/utf8.first", Rows.laid_unicode_utf8_first)] = true := by
  unfold Program.listedFits
  rw [noOwnUnsafe]
  kernel_rfl
theorem tie3 : Tryz.prog.laidByTextLater [("math/bits.deBruijn32tab", Rows.laid_math_bits_deBruijn32tab), ("math/bits.deBruijn64tab", Rows.laid_math_bits_deBruijn64tab), ("internal/strconv.uint64pow10", Rows.laid_internal_strconv_uint64pow10), ("unicode/utf8.acceptRanges", Rows.laid_unicode_utf8_acceptRanges), ("strconv.ErrRange", Rows.laid_strconv_ErrRange), ("strconv.ErrSyntax", Rows.laid_strconv_ErrSyntax), ("paling/code.words", Rows.laid_paling_code_words), ("paling/machine.names", Rows.laid_paling_machine_names), ("paling/machine.kinds", Rows.laid_paling_machine_kinds), ("paling/machine.objects", Rows.laid_paling_machine_objects), ("paling/tree.signs", Rows.laid_paling_tree_signs), ("paling/parse.reserved", Rows.laid_paling_parse_reserved), ("paling/parse.levels", Rows.laid_paling_parse_levels), ("paling/parse.simple", Rows.laid_paling_parse_simple), ("paling/scope.words", Rows.laid_paling_scope_words), ("paling/compile.ops", Rows.laid_paling_compile_ops)] [.data, .data, .data, .data, .sentinel, .sentinel, .data, .mapped, .data, .data, .data, .data, .mapped, .data, .widerDeep, .mapped] true :=
  Program.laidByTextLater.sub seatTie2 ["math/bits.deBruijn32tab", "math/bits.deBruijn64tab", "internal/strconv.uint64pow10", "unicode/utf8.acceptRanges", "strconv.ErrRange", "strconv.ErrSyntax", "paling/code.words", "paling/machine.names", "paling/machine.kinds", "paling/machine.objects", "paling/tree.signs", "paling/parse.reserved", "paling/parse.levels", "paling/parse.simple", "paling/scope.words", "paling/compile.ops"] (by kernel_rfl) (by kernel_rfl)
theorem hostHandles_row_tie : Rows.hostHandlesRow.laidByTextAt .later Tryz.pinned [.data, .data, .data, .data, .sentinel, .sentinel, .data, .mapped, .data, .data, .data, .data, .mapped, .data, .widerDeep, .mapped, .pinned, .pinned, .pinned, .pinned, .pinned, .pinned] true :=
  OpenClaim.laidByTextAt_pinned rfl rfl tie3 rfl rfl rfl rfl (fun y hy _e => by
    simp only [Rows.hostHandlesRow, List.zip_cons_cons, List.zip_nil_right, List.mem_cons, List.mem_nil_iff, or_false] at hy
    rcases hy with rfl | rfl | rfl | rfl | rfl | rfl | rfl | rfl | rfl | rfl | rfl | rfl | rfl | rfl | rfl | rfl | rfl | rfl | rfl | rfl | rfl | rfl
    · cases _e
    · cases _e
    · cases _e
    · cases _e
    · cases _e
    · cases _e
    · cases _e
    · cases _e
    · cases _e
    · cases _e
    · cases _e
    · cases _e
    · cases _e
    · cases _e
    · cases _e
    · cases _e
    · exact ⟨pin_laid_strconv_isGraphic, by kernel_rfl⟩
    · exact ⟨pin_laid_strconv_isNotPrint16, by kernel_rfl⟩
    · exact ⟨pin_laid_strconv_isNotPrint32, by kernel_rfl⟩
    · exact ⟨pin_laid_strconv_isPrint16, by kernel_rfl⟩
    · exact ⟨pin_laid_strconv_isPrint32, by kernel_rfl⟩
    · exact ⟨pin_laid_unicode_utf8_first, by kernel_rfl⟩) fits3
theorem wrapSidesUpto_row_tie : Rows.wrapSidesUptoRow.laidByTextAt .later Tryz.pinned [.data, .data, .data, .sentinel, .sentinel, .data, .data, .data, .mapped, .data, .widerDeep, .mapped] true :=
  OpenClaim.laidByTextAt_later rfl rfl tie noOwnUnsafe
theorem wrapFullUpto_row_tie : Rows.wrapFullUptoRow.laidByTextAt .later Tryz.pinned [.data, .data, .data, .sentinel, .sentinel, .data, .data, .data, .mapped, .data, .widerDeep, .mapped] true :=
  OpenClaim.laidByTextAt_later rfl rfl tie noOwnUnsafe
theorem frameWorldsUpto_row_tie : Rows.frameWorldsUptoRow.laidByTextAt .later Tryz.pinned [.data, .data, .data, .sentinel, .sentinel, .data, .data, .data, .mapped, .data, .widerDeep, .mapped] true :=
  OpenClaim.laidByTextAt_later rfl rfl tie noOwnUnsafe
theorem frameOfUpto_row_tie : Rows.frameOfUptoRow.laidByTextAt .later Tryz.pinned [.data, .data, .data, .sentinel, .sentinel, .data, .data, .data, .mapped, .data, .widerDeep, .mapped] true :=
  OpenClaim.laidByTextAt_later rfl rfl tie noOwnUnsafe
theorem machineErrorsUpto_row_tie : Rows.machineErrorsUptoRow.laidByTextAt .later Tryz.pinned [.data, .data, .data, .sentinel, .sentinel, .data, .mapped, .data, .data, .data, .data, .mapped, .data, .widerDeep, .mapped] true :=
  OpenClaim.laidByTextAt_later rfl rfl tie2 noOwnUnsafe
theorem machineSumsUpto_row_tie : Rows.machineSumsUptoRow.laidByTextAt .later Tryz.pinned [.data, .data, .data, .sentinel, .sentinel, .data, .mapped, .data, .data, .data, .data, .mapped, .data, .widerDeep, .mapped] true :=
  OpenClaim.laidByTextAt_later rfl rfl tie2 noOwnUnsafe
theorem machineHoldsUpto_row_tie : Rows.machineHoldsUptoRow.laidByTextAt .later Tryz.pinned [.data, .data, .data, .sentinel, .sentinel, .data, .mapped, .data, .data, .data, .data, .mapped, .data, .widerDeep, .mapped] true :=
  OpenClaim.laidByTextAt_later rfl rfl tie2 noOwnUnsafe
theorem graphTurnsUpto_row_tie : Rows.graphTurnsUptoRow.laidByTextAt .later Tryz.pinned [.data, .data, .data, .sentinel, .sentinel, .data, .mapped, .data, .data, .data, .data, .mapped, .data, .widerDeep, .mapped] true :=
  OpenClaim.laidByTextAt_later rfl rfl tie2 noOwnUnsafe
theorem graphDeadUpto_row_tie : Rows.graphDeadUptoRow.laidByTextAt .later Tryz.pinned [.data, .data, .data, .sentinel, .sentinel, .data, .mapped, .data, .data, .data, .data, .mapped, .data, .widerDeep, .mapped] true :=
  OpenClaim.laidByTextAt_later rfl rfl tie2 noOwnUnsafe
theorem hostLimitsUpto_row_tie : Rows.hostLimitsUptoRow.laidByTextAt .later Tryz.pinned [.data, .data, .data, .sentinel, .sentinel, .data, .mapped, .data, .data, .data, .data, .mapped, .data, .widerDeep, .mapped] true :=
  OpenClaim.laidByTextAt_later rfl rfl tie2 noOwnUnsafe
theorem hostGivesUpto_row_tie : Rows.hostGivesUptoRow.laidByTextAt .later Tryz.pinned [.data, .data, .data, .sentinel, .sentinel, .data, .mapped, .data, .data, .data, .data, .mapped, .data, .widerDeep, .mapped] true :=
  OpenClaim.laidByTextAt_later rfl rfl tie2 noOwnUnsafe
theorem hostHandlesUpto_row_tie : Rows.hostHandlesUptoRow.laidByTextAt .later Tryz.pinned [.data, .data, .data, .data, .sentinel, .sentinel, .data, .mapped, .data, .data, .data, .data, .mapped, .data, .widerDeep, .mapped, .pinned, .pinned, .pinned, .pinned, .pinned, .pinned] true :=
  OpenClaim.laidByTextAt_pinned rfl rfl tie3 rfl rfl rfl rfl (fun y hy _e => by
    simp only [Rows.hostHandlesUptoRow, List.zip_cons_cons, List.zip_nil_right, List.mem_cons, List.mem_nil_iff, or_false] at hy
    rcases hy with rfl | rfl | rfl | rfl | rfl | rfl | rfl | rfl | rfl | rfl | rfl | rfl | rfl | rfl | rfl | rfl | rfl | rfl | rfl | rfl | rfl | rfl
    · cases _e
    · cases _e
    · cases _e
    · cases _e
    · cases _e
    · cases _e
    · cases _e
    · cases _e
    · cases _e
    · cases _e
    · cases _e
    · cases _e
    · cases _e
    · cases _e
    · cases _e
    · cases _e
    · exact ⟨pin_laid_strconv_isGraphic, by kernel_rfl⟩
    · exact ⟨pin_laid_strconv_isNotPrint16, by kernel_rfl⟩
    · exact ⟨pin_laid_strconv_isNotPrint32, by kernel_rfl⟩
    · exact ⟨pin_laid_strconv_isPrint16, by kernel_rfl⟩
    · exact ⟨pin_laid_strconv_isPrint32, by kernel_rfl⟩
    · exact ⟨pin_laid_unicode_utf8_first, by kernel_rfl⟩) fits3
end Go.Proofs.YtdgeilfopkbacaaGreatDoor
