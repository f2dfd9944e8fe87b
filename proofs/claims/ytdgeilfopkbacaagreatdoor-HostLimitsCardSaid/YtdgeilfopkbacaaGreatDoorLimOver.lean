/- HostLimits: as many compartments, membranes, modules as may be, or more; fuel out of range. No condition but the row's own. -/
import Derived.Test.YtdgeilfopkbacaaGreatDoorRows
import Derived.Test.YtdgeilfopkbacaaGreatDoorCards
import Derived.Test.YtdgeilfopkbacaaGreatDoorTie
import Derived.Test.YtdgeilfopkbacaaGreatDoorWit
import Derived.Test.YtdgeilfopkbacaaGreatDoorLim
import Derived.SevenTiedAt
import Derived.ChangeMaps5
import Derived.SizedLaws
set_option linter.unusedVariables false
namespace Go.Proofs.YtdgeilfopkbacaaGreatDoor.hostLimits
open Go Go.ChangeShapes Go.WideShapes Go.RowKit Go.Joins
set_option maxRecDepth 100000 in
theorem lifted (os : Os) (started : os.Started) (H : Type) (enc : TypeId × Value → H) :
    ReturnsInHanded {} Tryz.checked os 12 .any (fun w args => (Rows.hostLimitsSpec.pre enc Tryz.prog Tryz.f12 [] false w args ∧ laidMetH Tryz.prog laid0 w) ∧ sizedMet enc Tryz.prog Tryz.f12 (OpenSpec.ofChange Rows.hostLimitsSpec) false w args)
      (Rows.hostLimitsSpec.post enc Tryz.prog Tryz.f12 false true false false) := by
  refine Frm.handed (C := Tryz.checked) (X := fun w _ => laidMetH Tryz.prog laid0 w) (fun _ _ _ hh h => h.of_heap hh) own started (by kernel_rfl) Tryz.func12
    (ChangeSpec.witness_at (enc := enc) (C := Tryz.checked) (os := os) (X := fun w _ => laidMetH Tryz.prog laid0 w) false (laidWorld os) #[.int .i64 0, .int .i64 0] 8 rfl (by kernel_rfl) (by kernel_rfl) (by kernel_rfl) (by kernel_rfl) (by kernel_rfl) (laidWorld_met os _)) ?_
  intro W base args ds gs before hval0 hW hwt hL hsh
  have hval : ∀ (j : Nat) t v, Tryz.f12.params[j]? = some t → args[j]? = some v → Value.okWide Tryz.prog W .any base t v := hval0
  have hW' := hW
  obtain ⟨p, q, hA0, hV, rfl, hfz, hnd⟩ := hW
  have hA : DataW.TrodAll enc Tryz.prog W 0 (fun _ => true) true Tryz.f12.params.toList args.toList ds p := hA0
  rw [Tryz.params12] at hA hval
  obtain ⟨v0, vs0, d0, ds0, p0, q0, hargs, rfl, rfl, h0, r0⟩ := trodAll_cons hA
  obtain ⟨v1, vs1, d1, ds1, p1, q1, rfl, rfl, rfl, h1, r1⟩ := trodAll_cons r0
  obtain ⟨rfl, rfl, rfl⟩ := trodAll_nil r1
  obtain rfl : args = #[v0, v1] := by cases args; simp_all
  obtain ⟨f, rfl, _, _, wf⟩ := open_int Tryz.underlying3 (hval 0 3 v0 rfl rfl) h0
  obtain ⟨q, rfl, _, _, wq⟩ := open_int Tryz.underlying3 (hval 1 3 v1 rfl rfl) h1
  refine (lim.law f q W (laid_of hL hsh)).mono fun e W' ⟨he, bel⟩ => ?_
  exact ⟨_, he, Frm.law_post laidOut (tb := 4) rfl Tryz.underlying4 rfl (by kernel_rfl) hW' rfl bel⟩
set_option maxHeartbeats 20000000 in
theorem facts : joinedFacts Tryz.prog 12 Tryz.f12 Rows.hostLimitsSpec Rows.hostLimitsRow = true := by
  unfold joinedFacts
  simp only [Bool.and_eq_true]
  repeat' apply And.intro
  all_goals (as_aux_lemma => kernel_rfl)
theorem over : Rows.hostLimitsRow.holds Tryz.pinned (OpenSpec.ofChange Rows.hostLimitsSpec) :=
  OpenClaim.holds_of_wide 12 Tryz.f12 rfl rfl rfl rfl rfl rfl rfl ⟨rfl, rfl, rfl, rfl, rfl⟩ rfl rfl rfl rfl rfl (by kernel_rfl) Tryz.func12 facts
    (of_decide_eq_true (by kernel_rfl)) (by unfold Func.isWrapper; first | (rw [if_pos (by decide +kernel)]; kernel_rfl) | (rw [if_neg (by decide +kernel)]; exact ⟨rfl, rfl⟩))
    (fun os started H enc _ => lifted os started H enc)
end Go.Proofs.YtdgeilfopkbacaaGreatDoor.hostLimits
