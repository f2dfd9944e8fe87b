/- GraphDead: a list without its dead membranes says the same of who comes to whom, and opens the same. No condition but the row's own. -/
import Derived.Test.YtkcljohkcpdfaaaGreatDoorDeadOver
set_option linter.unusedVariables false
namespace Go.Proofs.YtkcljohkcpdfaaaGreatDoor
open Go
theorem graphDead_holds : Rows.GraphDeadCardSaid :=
  Claim7.holds_tied_plain_at .later [] [.data, .data, .data, .sentinel, .sentinel, .data, .mapped, .data, .data, .data, .data, .mapped, .data, .widerDeep, .mapped] true (true, "a386fe3b9cac483c7f64839f3eaea23499dd8a1ffcd0e2b81b6c13ce0ff7c7ce") true
    graphDead.over (fun _ h => by cases h) (by as_aux_lemma => kernel_rfl) (fun _ h => by cases h) graphDead_row_tie rfl ⟨rfl, rfl⟩ (by as_aux_lemma => kernel_rfl) rfl
    (fun f fn hf hfn => by
      obtain rfl : f = 4 := (Option.some.inj ((show Tryz.prog.funcNamed "paling/palinglaw19.GraphDead" = some 4 by as_aux_lemma => kernel_rfl).symm.trans hf)).symm
      obtain rfl : fn = Tryz.f4 := (Option.some.inj (Tryz.func4.symm.trans hfn)).symm
      exact ⟨by as_aux_lemma => kernel_rfl, fun j t ht => by
        rw [Tryz.params4] at ht
        have hall : ∀ t ∈ [22, 5, 5], Tryz.prog.wantsStandIn t = false := by
          intro t ht
          simp only [List.mem_cons, List.not_mem_nil, or_false] at ht
          rcases ht with rfl | rfl | rfl <;> (as_aux_lemma => kernel_rfl)
        exact hall t (by simpa using List.mem_of_getElem? (by simpa using ht : [22, 5, 5][j]? = some t))⟩)
    (by as_aux_lemma => kernel_rfl)
#print axioms graphDead_holds
end Go.Proofs.YtkcljohkcpdfaaaGreatDoor
