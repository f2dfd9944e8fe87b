/- RecordPlays: any fields, set, looked at, in any order; frozen at some time. No condition but the row's own. -/
import Derived.Test.YtojbphnkabfkpaaGreatDoorPlaysOver
set_option linter.unusedVariables false
namespace Go.Proofs.YtojbphnkabfkpaaGreatDoor
open Go
theorem recordPlays_holds : Rows.RecordPlaysCardSaid :=
  Claim7.holds_tied_plain_at .later [] [.data, .data, .data, .sentinel, .sentinel, .data, .data, .data, .mapped, .data, .widerDeep, .mapped] true (true, "c9ac608b21664e63eccecbc1da0ed8dd6f887f91dad588e8f9d38ba70c0f02fe") true
    recordPlays.over (fun _ h => by cases h) (by as_aux_lemma => kernel_rfl) (fun _ h => by cases h) recordPlays_row_tie rfl ⟨rfl, rfl⟩ (by as_aux_lemma => kernel_rfl) rfl
    (fun f fn hf hfn => by
      obtain rfl : f = 3 := (Option.some.inj ((show Tryz.prog.funcNamed "paling/palinglaw13.RecordPlays" = some 3 by as_aux_lemma => kernel_rfl).symm.trans hf)).symm
      obtain rfl : fn = Tryz.f3 := (Option.some.inj (Tryz.func3.symm.trans hfn)).symm
      exact ⟨by as_aux_lemma => kernel_rfl, fun j t ht => by
        rw [Tryz.params3] at ht
        have hall : ∀ t ∈ [22], Tryz.prog.wantsStandIn t = false := by
          intro t ht
          simp only [List.mem_cons, List.not_mem_nil, or_false] at ht
          rcases ht with rfl <;> (as_aux_lemma => kernel_rfl)
        exact hall t (by simpa using List.mem_of_getElem? (by simpa using ht : [22][j]? = some t))⟩)
    (by as_aux_lemma => kernel_rfl)
#print axioms recordPlays_holds
end Go.Proofs.YtojbphnkabfkpaaGreatDoor
