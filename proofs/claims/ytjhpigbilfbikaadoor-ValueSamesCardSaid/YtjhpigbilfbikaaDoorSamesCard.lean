/- ValueSames: two values are equal just if their texts are, and their kinds. No condition but the row's own. -/
import Derived.Test.YtjhpigbilfbikaaDoorSamesOver
set_option linter.unusedVariables false
namespace Go.Proofs.YtjhpigbilfbikaaDoor
open Go
theorem valueSames_holds : Rows.ValueSamesCardSaid :=
  Claim7.holds_tied_plain_at .later [] [.data, .data, .data, .data, .pinned, .pinned, .pinned, .pinned, .pinned, .pinned] true (true, "265192eb60b22a46902103488539f19af7f43eae1060366a53e3d2d9472fafaf") false
    valueSames.over (fun _ h => by cases h) (by as_aux_lemma => kernel_rfl) (fun _ h => by cases h) valueSames_row_tie rfl ⟨rfl, rfl⟩ (by as_aux_lemma => kernel_rfl) rfl
    (fun f fn hf hfn => by
      obtain rfl : f = 3 := (Option.some.inj ((show Tryd.prog.funcNamed "paling/palinglaw02.ValueSames" = some 3 by as_aux_lemma => kernel_rfl).symm.trans hf)).symm
      obtain rfl : fn = Tryd.f3 := (Option.some.inj (Tryd.func3.symm.trans hfn)).symm
      exact ⟨by as_aux_lemma => kernel_rfl, fun j t ht => by
        rw [Tryd.params3] at ht
        have hall : ∀ t ∈ [23, 23, 4], Tryd.prog.wantsStandIn t = false := by
          intro t ht
          simp only [List.mem_cons, List.not_mem_nil, or_false] at ht
          rcases ht with rfl | rfl | rfl <;> (as_aux_lemma => kernel_rfl)
        exact hall t (by simpa using List.mem_of_getElem? (by simpa using ht : [23, 23, 4][j]? = some t))⟩)
    (by as_aux_lemma => kernel_rfl)
#print axioms valueSames_holds
end Go.Proofs.YtjhpigbilfbikaaDoor
