/- WrapSides: any membranes, any numbers: the other side, whether it is dead. No condition but the row's own. -/
import Derived.Test.YtdgeilfopkbacaaGreatDoorWsOver
set_option linter.unusedVariables false
namespace Go.Proofs.YtdgeilfopkbacaaGreatDoor
open Go
theorem wrapSides_holds : Rows.WrapSidesCardSaid :=
  Claim7.holds_tied_plain_at .later [] [.data, .data, .data, .sentinel, .sentinel, .data, .data, .data, .mapped, .data, .widerDeep, .mapped] true (true, "068face221bef3ef85270cfcc9956c9f1a07a14bfcda0f6a460f262008e501d2") true
    wrapSides.over (fun _ h => by cases h) (by as_aux_lemma => kernel_rfl) (fun _ h => by cases h) wrapSides_row_tie rfl ⟨rfl, rfl⟩ (by as_aux_lemma => kernel_rfl) rfl
    (fun f fn hf hfn => by
      obtain rfl : f = 3 := (Option.some.inj ((show Tryz.prog.funcNamed "paling/palinglaw15.WrapSides" = some 3 by as_aux_lemma => kernel_rfl).symm.trans hf)).symm
      obtain rfl : fn = Tryz.f3 := (Option.some.inj (Tryz.func3.symm.trans hfn)).symm
      exact ⟨by as_aux_lemma => kernel_rfl, fun j t ht => by
        rw [Tryz.params3] at ht
        have hall : ∀ t ∈ [22, 3, 3, 5, 4], Tryz.prog.wantsStandIn t = false := by
          intro t ht
          simp only [List.mem_cons, List.not_mem_nil, or_false] at ht
          rcases ht with rfl | rfl | rfl | rfl | rfl <;> (as_aux_lemma => kernel_rfl)
        exact hall t (by simpa using List.mem_of_getElem? (by simpa using ht : [22, 3, 3, 5, 4][j]? = some t))⟩)
    (by as_aux_lemma => kernel_rfl)
#print axioms wrapSides_holds
end Go.Proofs.YtdgeilfopkbacaaGreatDoor
