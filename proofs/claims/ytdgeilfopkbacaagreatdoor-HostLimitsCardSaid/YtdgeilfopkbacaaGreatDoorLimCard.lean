/- HostLimits: as many compartments, membranes, modules as may be, or more; fuel out of range. No condition but the row's own. -/
import Derived.Test.YtdgeilfopkbacaaGreatDoorLimOver
set_option linter.unusedVariables false
namespace Go.Proofs.YtdgeilfopkbacaaGreatDoor
open Go
theorem hostLimits_holds : Rows.HostLimitsCardSaid :=
  Claim7.holds_tied_plain_at .later [] [.data, .data, .data, .sentinel, .sentinel, .data, .mapped, .data, .data, .data, .data, .mapped, .data, .widerDeep, .mapped] true (true, "068face221bef3ef85270cfcc9956c9f1a07a14bfcda0f6a460f262008e501d2") true
    hostLimits.over (fun _ h => by cases h) (by as_aux_lemma => kernel_rfl) (fun _ h => by cases h) hostLimits_row_tie rfl ⟨rfl, rfl⟩ (by as_aux_lemma => kernel_rfl) rfl
    (fun f fn hf hfn => by
      obtain rfl : f = 12 := (Option.some.inj ((show Tryz.prog.funcNamed "paling/palinglaw20.HostLimits" = some 12 by as_aux_lemma => kernel_rfl).symm.trans hf)).symm
      obtain rfl : fn = Tryz.f12 := (Option.some.inj (Tryz.func12.symm.trans hfn)).symm
      exact ⟨by as_aux_lemma => kernel_rfl, fun j t ht => by
        rw [Tryz.params12] at ht
        have hall : ∀ t ∈ [3, 3], Tryz.prog.wantsStandIn t = false := by
          intro t ht
          simp only [List.mem_cons, List.not_mem_nil, or_false] at ht
          rcases ht with rfl | rfl <;> (as_aux_lemma => kernel_rfl)
        exact hall t (by simpa using List.mem_of_getElem? (by simpa using ht : [3, 3][j]? = some t))⟩)
    (by as_aux_lemma => kernel_rfl)
#print axioms hostLimits_holds
end Go.Proofs.YtdgeilfopkbacaaGreatDoor
