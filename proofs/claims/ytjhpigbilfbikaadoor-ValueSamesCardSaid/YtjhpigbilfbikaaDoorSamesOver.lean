/- ValueSames: two values are equal just if their texts are, and their kinds. No condition but the row's own. -/
import Derived.Test.YtjhpigbilfbikaaDoorRows
import Derived.Test.YtjhpigbilfbikaaDoorCards
import Derived.Test.YtjhpigbilfbikaaDoorTie
import Derived.Test.YtjhpigbilfbikaaDoorWit
import Derived.Test.YtjhpigbilfbikaaDoorSames
import Derived.SevenTiedAt
import Derived.ChangeMaps5
import Derived.SizedLaws
set_option linter.unusedVariables false
namespace Go.Proofs.YtjhpigbilfbikaaDoor.valueSames
open Go Go.ChangeShapes Go.WideShapes Go.RowKit Go.Joins
set_option maxRecDepth 100000 in
theorem lifted (os : Os) (started : os.Started) (H : Type) (enc : TypeId × Value → H) :
    ReturnsInHanded {} Tryd.checked os 3 .any (fun w args => (Rows.valueSamesSpec.pre enc Tryd.prog Tryd.f3 [] false w args ∧ laidMetH Tryd.prog laid0 w) ∧ sizedMet enc Tryd.prog Tryd.f3 (OpenSpec.ofChange Rows.valueSamesSpec) false w args)
      (Rows.valueSamesSpec.post enc Tryd.prog Tryd.f3 false true false false) := by
  refine Frm.handed (C := Tryd.checked) (X := fun w _ => laidMetH Tryd.prog laid0 w) (fun _ _ _ hh h => h.of_heap hh) own started (by kernel_rfl) Tryd.func3
    (ChangeSpec.witness_shaped (enc := enc) (C := Tryd.checked) (os := os) (X := fun w _ => laidMetH Tryd.prog laid0 w) false (laidWorld os) #[.agg #[.int .u8 0, .int .i64 0, .string ByteArray.empty], .agg #[.int .u8 0, .int .i64 0, .string ByteArray.empty], .bool false] 8 (World.laidAll_os _ _ _) (World.shaped_of_ZipB (by kernel_rfl) (by kernel_rfl)) (by kernel_rfl) (by kernel_rfl) (by kernel_rfl) (laidWorld_met os _)) ?_
  intro W base args ds gs before hval0 hW hwt hL hsh
  have hval : ∀ (j : Nat) t v, Tryd.f3.params[j]? = some t → args[j]? = some v → Value.okWide Tryd.prog W .any base t v := hval0
  have hW' := hW
  obtain ⟨p, q, hA0, hV, rfl, hfz, hnd⟩ := hW
  have hA : DataW.TrodAll enc Tryd.prog W 0 (fun _ => true) true Tryd.f3.params.toList args.toList ds p := hA0
  rw [Tryd.params3] at hA hval
  obtain ⟨v0, vs0, d0, ds0, p0, q0, hargs, rfl, rfl, h0, r0⟩ := trodAll_cons hA
  obtain ⟨v1, vs1, d1, ds1, p1, q1, rfl, rfl, rfl, h1, r1⟩ := trodAll_cons r0
  obtain ⟨v2, vs2, d2, ds2, p2, q2, rfl, rfl, rfl, h2, r2⟩ := trodAll_cons r1
  obtain ⟨rfl, rfl, rfl⟩ := trodAll_nil r2
  obtain rfl : args = #[v0, v1, v2] := by cases args; simp_all
  have hK0 : ∃ (k n : Int) (s : ByteArray), v0 = .agg #[.int .u8 k, .int .i64 n, .string s] ∧ (Lit.int .u8 k).wf = true ∧ (Lit.int .i64 n).wf = true ∧ s.size ≤ maxLen := by
    obtain ⟨c0, c1, c2, y0, y1, y2, m, rfl, _, _, hy0, hy1, hy2⟩ := open_agg3 Tryd.underlying23 (by kernel_rfl) (by kernel_rfl) (hval 0 23 v0 rfl rfl) h0
    obtain ⟨k, e0, _, wk⟩ := DataW.trod_int Tryd.underlying5 hy0
    obtain ⟨n, e1, _, wn⟩ := DataW.trod_int Tryd.underlying2 hy1
    obtain ⟨s, e2, _, ws⟩ := DataW.trod_string Tryd.underlying9 hy2
    simp only [List.cons.injEq, and_true] at e0 e1 e2
    subst e0 e1 e2
    exact ⟨k, n, s, rfl, wk, wn, ws⟩
  obtain ⟨k, n, s, rfl, wk, wn, ws⟩ := hK0
  have hK1 : ∃ (k n : Int) (s : ByteArray), v1 = .agg #[.int .u8 k, .int .i64 n, .string s] ∧ (Lit.int .u8 k).wf = true ∧ (Lit.int .i64 n).wf = true ∧ s.size ≤ maxLen := by
    obtain ⟨c0, c1, c2, y0, y1, y2, m, rfl, _, _, hy0, hy1, hy2⟩ := open_agg3 Tryd.underlying23 (by kernel_rfl) (by kernel_rfl) (hval 1 23 v1 rfl rfl) h1
    obtain ⟨k, e0, _, wk⟩ := DataW.trod_int Tryd.underlying5 hy0
    obtain ⟨n, e1, _, wn⟩ := DataW.trod_int Tryd.underlying2 hy1
    obtain ⟨s, e2, _, ws⟩ := DataW.trod_string Tryd.underlying9 hy2
    simp only [List.cons.injEq, and_true] at e0 e1 e2
    subst e0 e1 e2
    exact ⟨k, n, s, rfl, wk, wn, ws⟩
  obtain ⟨l, m, t, rfl, wl, wm, wt⟩ := hK1
  obtain ⟨same, rfl, _, _⟩ := open_bool Tryd.underlying4 (hval 2 4 v2 rfl rfl) h2
  refine (sames.law k n s l m t same (Frm.u8wf wk).1 (Frm.u8wf wl).1 (Frm.i64wf wn) (Frm.i64wf wm) W (laid_of hL hsh)).mono fun e W' ⟨he, bel⟩ => ?_
  exact ⟨_, he, Frm.law_post laidOut (tb := 4) rfl Tryd.underlying4 rfl (by kernel_rfl) hW' rfl bel⟩
set_option maxHeartbeats 20000000 in
theorem facts : joinedFacts Tryd.prog 3 Tryd.f3 Rows.valueSamesSpec Rows.valueSamesRow = true := by
  unfold joinedFacts
  simp only [Bool.and_eq_true]
  repeat' apply And.intro
  all_goals (as_aux_lemma => kernel_rfl)
theorem over : Rows.valueSamesRow.holds Tryd.pinned (OpenSpec.ofChange Rows.valueSamesSpec) :=
  OpenClaim.holds_of_wide 3 Tryd.f3 rfl rfl rfl rfl rfl rfl rfl ⟨rfl, rfl, rfl, rfl, rfl⟩ rfl rfl rfl rfl rfl (by kernel_rfl) Tryd.func3 facts
    (of_decide_eq_true (by kernel_rfl)) (by unfold Func.isWrapper; first | (rw [if_pos (by decide +kernel)]; kernel_rfl) | (rw [if_neg (by decide +kernel)]; exact ⟨rfl, rfl⟩))
    (fun os started H enc _ => lifted os started H enc)
end Go.Proofs.YtjhpigbilfbikaaDoor.valueSames
