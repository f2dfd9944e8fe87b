/- MachineErrors: which texts errors throw. No condition but the row's own. -/
import Derived.Test.YtdgeilfopkbacaaGreatDoorErrsOver
set_option linter.unusedVariables false
namespace Go.Proofs.YtdgeilfopkbacaaGreatDoor
open Go
theorem machineErrors_holds : Rows.MachineErrorsCardSaid :=
  Claim7.holds_tied_plain_at .later [] [.data, .data, .data, .sentinel, .sentinel, .data, .mapped, .data, .data, .data, .data, .mapped, .data, .widerDeep, .mapped] true (true, "068face221bef3ef85270cfcc9956c9f1a07a14bfcda0f6a460f262008e501d2") true
    machineErrors.over (fun _ h => by cases h) (by as_aux_lemma => kernel_rfl) (fun _ h => by cases h) machineErrors_row_tie rfl ⟨rfl, rfl⟩ (by as_aux_lemma => kernel_rfl) rfl
    (fun f fn hf hfn => by
      obtain rfl : f = 7 := (Option.some.inj ((show Tryz.prog.funcNamed "paling/palinglaw17.MachineErrors" = some 7 by as_aux_lemma => kernel_rfl).symm.trans hf)).symm
      obtain rfl : fn = Tryz.f7 := (Option.some.inj (Tryz.func7.symm.trans hfn)).symm
      exact ⟨by as_aux_lemma => kernel_rfl, fun j t ht => by
        rw [Tryz.params7] at ht
        have hall : ∀ t ∈ [5], Tryz.prog.wantsStandIn t = false := by
          intro t ht
          simp only [List.mem_cons, List.not_mem_nil, or_false] at ht
          rcases ht with rfl <;> (as_aux_lemma => kernel_rfl)
        exact hall t (by simpa using List.mem_of_getElem? (by simpa using ht : [5][j]? = some t))⟩)
    (by as_aux_lemma => kernel_rfl)
#print axioms machineErrors_holds
end Go.Proofs.YtdgeilfopkbacaaGreatDoor
