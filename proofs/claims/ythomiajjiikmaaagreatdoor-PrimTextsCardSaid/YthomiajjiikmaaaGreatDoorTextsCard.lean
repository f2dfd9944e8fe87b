/- PrimTexts: texts, one behind the other, do not hang on which two come first; of each two one is less, or they are the same. No condition but the row's own. -/
import Derived.Test.YthomiajjiikmaaaGreatDoorRows
import Derived.Test.YthomiajjiikmaaaGreatDoorCards
import Derived.Test.YthomiajjiikmaaaGreatDoorTie
import Derived.Test.YthomiajjiikmaaaGreatDoorWit
import Derived.Test.YthomiajjiikmaaaGreatDoorTexts
import Derived.SevenTiedAt
import Derived.ChangeMaps5
import Derived.SizedLaws
set_option linter.unusedVariables false
namespace Go.Proofs.YthomiajjiikmaaaGreatDoor.primTexts
open Go Go.ChangeShapes Go.WideShapes Go.RowKit Go.Joins
set_option maxRecDepth 100000 in
theorem lifted (os : Os) (started : os.Started) (H : Type) (enc : TypeId × Value → H) :
    ReturnsInHanded {} Tryz.checked os 6 .any (fun w args => (Rows.primTextsSpec.pre enc Tryz.prog Tryz.f6 [] false w args ∧ laidMetH Tryz.prog laid0 w) ∧ sizedMet enc Tryz.prog Tryz.f6 (OpenSpec.ofChange Rows.primTextsSpec) false w args)
      (Rows.primTextsSpec.post enc Tryz.prog Tryz.f6 false true false false) := by
  refine Frm.handed (C := Tryz.checked) (X := fun w _ => laidMetH Tryz.prog laid0 w) (fun _ _ _ hh h => h.of_heap hh) own started (by kernel_rfl) Tryz.func6
    (ChangeSpec.witness_at (enc := enc) (C := Tryz.checked) (os := os) (X := fun w _ => laidMetH Tryz.prog laid0 w) false (laidWorld os) #[.string ByteArray.empty, .string ByteArray.empty, .string ByteArray.empty] 8 rfl (by kernel_rfl) (by kernel_rfl) (by kernel_rfl) (by kernel_rfl) (by kernel_rfl) (laidWorld_met os _)) ?_
  intro W base args ds gs before hval0 hW hwt hL hsh
  have hval : ∀ (j : Nat) t v, Tryz.f6.params[j]? = some t → args[j]? = some v → Value.okWide Tryz.prog W .any base t v := hval0
  have hW' := hW
  obtain ⟨p, q, hA0, hV, rfl, hfz, hnd⟩ := hW
  have hA : DataW.TrodAll enc Tryz.prog W 0 (fun _ => true) true Tryz.f6.params.toList args.toList ds p := hA0
  rw [Tryz.params6] at hA hval
  rw [Tryz.params6] at hwt
  obtain ⟨v0, vs0, d0, ds0, p0, q0, hargs, rfl, rfl, h0, r0⟩ := trodAll_cons hA
  obtain ⟨v1, vs1, d1, ds1, p1, q1, rfl, rfl, rfl, h1, r1⟩ := trodAll_cons r0
  obtain ⟨v2, vs2, d2, ds2, p2, q2, rfl, rfl, rfl, h2, r2⟩ := trodAll_cons r1
  obtain ⟨rfl, rfl, rfl⟩ := trodAll_nil r2
  obtain rfl : args = #[v0, v1, v2] := by cases args; simp_all
  obtain ⟨a, rfl, hd0, _, wa⟩ := Go.ChangeMaps.open_string Tryz.underlying9 (hval 0 9 v0 rfl rfl) h0
  have za : a.data.size ≤ 140737488351232 := by
    have hz := sized_string (j := 0) (t := 9) (bytes := a.data.toList) hwt rfl (by rw [hd0]; rfl)
    rw [Array.length_toList] at hz
    exact hz
  obtain ⟨b, rfl, hd1, _, wb⟩ := Go.ChangeMaps.open_string Tryz.underlying9 (hval 1 9 v1 rfl rfl) h1
  have zb : b.data.size ≤ 140737488351232 := by
    have hz := sized_string (j := 1) (t := 9) (bytes := b.data.toList) hwt rfl (by rw [hd1]; rfl)
    rw [Array.length_toList] at hz
    exact hz
  obtain ⟨c, rfl, hd2, _, wc⟩ := Go.ChangeMaps.open_string Tryz.underlying9 (hval 2 9 v2 rfl rfl) h2
  have zc : c.data.size ≤ 140737488351232 := by
    have hz := sized_string (j := 2) (t := 9) (bytes := c.data.toList) hwt rfl (by rw [hd2]; rfl)
    rw [Array.length_toList] at hz
    exact hz
  refine (texts.law a b c za zb zc W (laid_of hL hsh)).mono fun e W' ⟨he, bel⟩ => ?_
  exact ⟨_, he, Frm.law_post laidOut (tb := 4) rfl Tryz.underlying4 rfl (by kernel_rfl) hW' rfl bel⟩
set_option maxHeartbeats 20000000 in
theorem facts : joinedFacts Tryz.prog 6 Tryz.f6 Rows.primTextsSpec Rows.primTextsRow = true := by
  unfold joinedFacts
  simp only [Bool.and_eq_true]
  repeat' apply And.intro
  all_goals (as_aux_lemma => kernel_rfl)
theorem over : Rows.primTextsRow.holds Tryz.pinned (OpenSpec.ofChange Rows.primTextsSpec) :=
  OpenClaim.holds_of_wide 6 Tryz.f6 rfl rfl rfl rfl rfl rfl rfl ⟨rfl, rfl, rfl, rfl, rfl⟩ rfl rfl rfl rfl rfl (by kernel_rfl) Tryz.func6 facts
    (of_decide_eq_true (by kernel_rfl)) (by unfold Func.isWrapper; first | (rw [if_pos (by decide +kernel)]; kernel_rfl) | (rw [if_neg (by decide +kernel)]; exact ⟨rfl, rfl⟩))
    (fun os started H enc _ => lifted os started H enc)
end Go.Proofs.YthomiajjiikmaaaGreatDoor.primTexts
namespace Go.Proofs.YthomiajjiikmaaaGreatDoor
open Go
theorem primTexts_holds : Rows.PrimTextsCardSaid :=
  Claim7.holds_tied_plain_at .later [] [.data, .data, .data, .sentinel, .sentinel, .data, .data, .data, .mapped, .data, .widerDeep, .mapped] true (true, "3dfdeed01d92c5503de373fb072cba514abf58386144349fe5759cac2ed3b2a0") true
    primTexts.over (fun _ h => by cases h) (by kernel_rfl) (fun _ h => by cases h) primTexts_row_tie rfl ⟨rfl, rfl⟩ (by kernel_rfl) rfl
    (fun f fn hf hfn => by
      obtain rfl : f = 6 := (Option.some.inj ((show Tryz.prog.funcNamed "paling/palinglaw12.PrimTexts" = some 6 by kernel_rfl).symm.trans hf)).symm
      obtain rfl : fn = Tryz.f6 := (Option.some.inj (Tryz.func6.symm.trans hfn)).symm
      exact ⟨by kernel_rfl, fun j t ht => by
        rw [Tryz.params6] at ht
        have hall : ∀ t ∈ [9, 9, 9], Tryz.prog.wantsStandIn t = false := by
          intro t ht
          simp only [List.mem_cons, List.not_mem_nil, or_false] at ht
          rcases ht with rfl | rfl | rfl <;> kernel_rfl
        exact hall t (by simpa using List.mem_of_getElem? (by simpa using ht : [9, 9, 9][j]? = some t))⟩)
    (by kernel_rfl)
#print axioms primTexts_holds
end Go.Proofs.YthomiajjiikmaaaGreatDoor
