/- WrapSides: any membranes, any numbers: the other side, whether it is dead. No condition but the row's own. -/
import Derived.Test.YtdgeilfopkbacaaGreatDoorRows
import Derived.Test.YtdgeilfopkbacaaGreatDoorCards
import Derived.Test.YtdgeilfopkbacaaGreatDoorTie
import Derived.Test.YtdgeilfopkbacaaGreatDoorWitW
import Derived.Test.YtdgeilfopkbacaaGreatDoorWs
import Derived.Test.YtdgeilfopkbacaaGreatDoorEvDs
import Derived.SevenTiedAt
import Derived.ChangeMaps5
import Derived.SizedLaws
set_option linter.unusedVariables false
namespace Go.Proofs.YtdgeilfopkbacaaGreatDoor.wrapSides
open Go Go.ChangeShapes Go.WideShapes Go.RowKit Go.Joins
set_option maxRecDepth 100000 in
theorem lifted (os : Os) (started : os.Started) (H : Type) (enc : TypeId × Value → H) :
    ReturnsInHanded {} Tryz.checked os 3 .any (fun w args => (Rows.wrapSidesSpec.pre enc Tryz.prog Tryz.f3 [] false w args ∧ laidMetH Tryz.prog laid0 w) ∧ sizedMet enc Tryz.prog Tryz.f3 (OpenSpec.ofChange Rows.wrapSidesSpec) false w args)
      (Rows.wrapSidesSpec.post enc Tryz.prog Tryz.f3 false true false false) := by
  refine Frm.handed (C := Tryz.checked) (X := fun w _ => laidMetH Tryz.prog laid0 w) (fun _ _ _ hh h => h.of_heap hh) own started (by kernel_rfl) Tryz.func3
    (ChangeSpec.witness_at (enc := enc) (C := Tryz.checked) (os := os) (X := fun w _ => laidMetH Tryz.prog laid0 w) false (laidWorld os) #[.slice none 0 0, .int .i64 0, .int .i64 0, .int .u8 0, .bool false] 8 rfl (by kernel_rfl) (by kernel_rfl) (by kernel_rfl) (by kernel_rfl) (by kernel_rfl) (laidWorld_met os _)) ?_
  intro W base args ds gs before hval0 hW hwt hL hsh
  have hval : ∀ (j : Nat) t v, Tryz.f3.params[j]? = some t → args[j]? = some v → Value.okWide Tryz.prog W .any base t v := hval0
  have hW' := hW
  obtain ⟨p, q, hA0, hV, rfl, hfz, hnd⟩ := hW
  have hA : DataW.TrodAll enc Tryz.prog W 0 (fun _ => true) true Tryz.f3.params.toList args.toList ds p := hA0
  rw [Tryz.params3] at hA hval
  obtain ⟨v0, vs0, d0, ds0, p0, q0, hargs, rfl, rfl, h0, r0⟩ := trodAll_cons hA
  obtain ⟨v1, vs1, d1, ds1, p1, q1, rfl, rfl, rfl, h1, r1⟩ := trodAll_cons r0
  obtain ⟨v2, vs2, d2, ds2, p2, q2, rfl, rfl, rfl, h2, r2⟩ := trodAll_cons r1
  obtain ⟨v3, vs3, d3, ds3, p3, q3, rfl, rfl, rfl, h3, r3⟩ := trodAll_cons r2
  obtain ⟨v4, vs4, d4, ds4, p4, q4, rfl, rfl, rfl, h4, r4⟩ := trodAll_cons r3
  obtain ⟨rfl, rfl, rfl⟩ := trodAll_nil r4
  obtain rfl : args = #[v0, v1, v2, v3, v4] := by cases args; simp_all
  have hs0 : v0 = .slice none 0 0 ∨ ∃ (a : Addr) (n cap : Nat) (xs : List (Int × Int)), v0 = .slice (some a) n cap ∧ xs.length = n ∧ Ev.PairsAt a xs W ∧ ∀ p ∈ xs, (0 ≤ p.1 ∧ p.1 ≤ 255) ∧ (0 ≤ p.2 ∧ p.2 ≤ 255) := by
    obtain ⟨a0, l0, c0, rfl⟩ := okWide_slice Tryz.underlying22 (hval 0 22 v0 rfl rfl)
    obtain ⟨fuel, hf⟩ := h0
    rcases Ev.open_pairs Tryz.underlying22 Tryz.underlying106 Tryz.underlying5 (by kernel_rfl) (by kernel_rfl) hf with h | ⟨a, n, cap, xs, h, hh⟩
    · simp [Value.cells] at h
      obtain ⟨rfl, rfl, rfl⟩ := h
      exact .inl rfl
    · simp [Value.cells] at h
      obtain ⟨rfl, rfl, rfl⟩ := h
      exact .inr ⟨a, _, _, xs, rfl, hh⟩
  obtain ⟨m, rfl, _, _, wm⟩ := open_int Tryz.underlying3 (hval 1 3 v1 rfl rfl) h1
  obtain ⟨o, rfl, _, _, wo⟩ := open_int Tryz.underlying3 (hval 2 3 v2 rfl rfl) h2
  obtain ⟨d, rfl, _, _, wd⟩ := open_int Tryz.underlying5 (hval 3 5 v3 rfl rfl) h3
  obtain ⟨near, rfl, _, _⟩ := open_bool Tryz.underlying4 (hval 4 4 v4 rfl rfl) h4
  refine (ws.law v0 W hs0 m o d near (laid_of hL hsh)).mono fun e W' ⟨he, bel⟩ => ?_
  exact ⟨_, he, Frm.law_post laidOut (tb := 4) rfl Tryz.underlying4 rfl (by kernel_rfl) hW' rfl bel⟩
set_option maxHeartbeats 20000000 in
theorem facts : joinedFacts Tryz.prog 3 Tryz.f3 Rows.wrapSidesSpec Rows.wrapSidesRow = true := by
  unfold joinedFacts
  simp only [Bool.and_eq_true]
  repeat' apply And.intro
  all_goals (as_aux_lemma => kernel_rfl)
theorem over : Rows.wrapSidesRow.holds Tryz.pinned (OpenSpec.ofChange Rows.wrapSidesSpec) :=
  OpenClaim.holds_of_wide 3 Tryz.f3 rfl rfl rfl rfl rfl rfl rfl ⟨rfl, rfl, rfl, rfl, rfl⟩ rfl rfl rfl rfl rfl (by kernel_rfl) Tryz.func3 facts
    (of_decide_eq_true (by kernel_rfl)) (by unfold Func.isWrapper; first | (rw [if_pos (by decide +kernel)]; kernel_rfl) | (rw [if_neg (by decide +kernel)]; exact ⟨rfl, rfl⟩))
    (fun os started H enc _ => lifted os started H enc)
end Go.Proofs.YtdgeilfopkbacaaGreatDoor.wrapSides
