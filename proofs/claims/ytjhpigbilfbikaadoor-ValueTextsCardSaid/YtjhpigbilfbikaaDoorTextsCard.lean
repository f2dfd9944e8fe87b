/- ValueTexts: any value's text. No condition but the row's own. -/
import Derived.Test.YtjhpigbilfbikaaDoorTextsOver
set_option linter.unusedVariables false
namespace Go.Proofs.YtjhpigbilfbikaaDoor
open Go
theorem valueTexts_holds : Rows.ValueTextsCardSaid :=
  Claim7.holds_tied_plain_at .later [] [.data, .data, .data, .data, .pinned, .pinned, .pinned, .pinned, .pinned, .pinned] true (true, "265192eb60b22a46902103488539f19af7f43eae1060366a53e3d2d9472fafaf") false
    valueTexts.over (fun _ h => by cases h) (by as_aux_lemma => kernel_rfl) (fun _ h => by cases h) valueTexts_row_tie rfl ⟨rfl, rfl⟩ (by as_aux_lemma => kernel_rfl) rfl
    (fun f fn hf hfn => by
      obtain rfl : f = 4 := (Option.some.inj ((show Tryd.prog.funcNamed "paling/palinglaw02.ValueTexts" = some 4 by as_aux_lemma => kernel_rfl).symm.trans hf)).symm
      obtain rfl : fn = Tryd.f4 := (Option.some.inj (Tryd.func4.symm.trans hfn)).symm
      exact ⟨by as_aux_lemma => kernel_rfl, fun j t ht => by
        rw [Tryd.params4] at ht
        have hall : ∀ t ∈ [23, 25], Tryd.prog.wantsStandIn t = false := by
          intro t ht
          simp only [List.mem_cons, List.not_mem_nil, or_false] at ht
          rcases ht with rfl | rfl <;> (as_aux_lemma => kernel_rfl)
        exact hall t (by simpa using List.mem_of_getElem? (by simpa using ht : [23, 25][j]? = some t))⟩)
    (by as_aux_lemma => kernel_rfl)
#print axioms valueTexts_holds
end Go.Proofs.YtjhpigbilfbikaaDoor
