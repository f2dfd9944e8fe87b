/- SealTwice: each box is a new object; each brand another one; what is in it stays. No condition but the row's own. -/
import Derived.Test.YthppammjopifbaaGreatDoorRows
import Derived.Test.YthppammjopifbaaGreatDoorCards
import Derived.Test.YthppammjopifbaaGreatDoorTie
import Derived.Test.YthppammjopifbaaGreatDoorWit
import Derived.Test.YthppammjopifbaaGreatDoorTwice
import Derived.SevenTiedAt
import Derived.ChangeMaps5
import Derived.SizedLaws
set_option linter.unusedVariables false
namespace Go.Proofs.YthppammjopifbaaGreatDoor.sealTwice
open Go Go.ChangeShapes Go.WideShapes Go.RowKit Go.Joins
set_option maxRecDepth 100000 in
theorem lifted (os : Os) (started : os.Started) (H : Type) (enc : TypeId × Value → H) :
    ReturnsInHanded {} Tryz.checked os 4 .any (fun w args => (Rows.sealTwiceSpec.pre enc Tryz.prog Tryz.f4 [] false w args ∧ laidMetH Tryz.prog laid0 w) ∧ sizedMet enc Tryz.prog Tryz.f4 (OpenSpec.ofChange Rows.sealTwiceSpec) false w args)
      (Rows.sealTwiceSpec.post enc Tryz.prog Tryz.f4 false true false false) := by
  refine Frm.handed (C := Tryz.checked) (X := fun w _ => laidMetH Tryz.prog laid0 w) (fun _ _ _ hh h => h.of_heap hh) own started (by kernel_rfl) Tryz.func4
    (ChangeSpec.witness_at (enc := enc) (C := Tryz.checked) (os := os) (X := fun w _ => laidMetH Tryz.prog laid0 w) false (laidWorld os) #[.agg #[.int .u8 0, .int .i64 0, .string ByteArray.empty], .agg #[.int .u8 0, .int .i64 0, .string ByteArray.empty]] 8 rfl (by kernel_rfl) (by kernel_rfl) (by kernel_rfl) (by kernel_rfl) (by kernel_rfl) (laidWorld_met os _)) ?_
  intro W base args ds gs before hval0 hW hwt hL hsh
  have hval : ∀ (j : Nat) t v, Tryz.f4.params[j]? = some t → args[j]? = some v → Value.okWide Tryz.prog W .any base t v := hval0
  have hW' := hW
  obtain ⟨p, q, hA0, hV, rfl, hfz, hnd⟩ := hW
  have hA : DataW.TrodAll enc Tryz.prog W 0 (fun _ => true) true Tryz.f4.params.toList args.toList ds p := hA0
  rw [Tryz.params4] at hA hval
  obtain ⟨v0, vs0, d0, ds0, p0, q0, hargs, rfl, rfl, h0, r0⟩ := trodAll_cons hA
  obtain ⟨v1, vs1, d1, ds1, p1, q1, rfl, rfl, rfl, h1, r1⟩ := trodAll_cons r0
  obtain ⟨rfl, rfl, rfl⟩ := trodAll_nil r1
  obtain rfl : args = #[v0, v1] := by cases args; simp_all
  have hK0 : ∃ (k n : Int) (s : ByteArray), v0 = .agg #[.int .u8 k, .int .i64 n, .string s] ∧ (Lit.int .u8 k).wf = true ∧ (Lit.int .i64 n).wf = true ∧ s.size ≤ maxLen := by
    obtain ⟨c0, c1, c2, y0, y1, y2, m, rfl, _, _, hy0, hy1, hy2⟩ := open_agg3 Tryz.underlying41 (by kernel_rfl) (by kernel_rfl) (hval 0 41 v0 rfl rfl) h0
    obtain ⟨k, e0, _, wk⟩ := DataW.trod_int Tryz.underlying5 hy0
    obtain ⟨n, e1, _, wn⟩ := DataW.trod_int Tryz.underlying2 hy1
    obtain ⟨s, e2, _, ws⟩ := DataW.trod_string Tryz.underlying9 hy2
    simp only [List.cons.injEq, and_true] at e0 e1 e2
    subst e0 e1 e2
    exact ⟨k, n, s, rfl, wk, wn, ws⟩
  obtain ⟨kv, nv, sv, rfl, wkv, wnv, wsv⟩ := hK0
  have hK1 : ∃ (k n : Int) (s : ByteArray), v1 = .agg #[.int .u8 k, .int .i64 n, .string s] ∧ (Lit.int .u8 k).wf = true ∧ (Lit.int .i64 n).wf = true ∧ s.size ≤ maxLen := by
    obtain ⟨c0, c1, c2, y0, y1, y2, m, rfl, _, _, hy0, hy1, hy2⟩ := open_agg3 Tryz.underlying41 (by kernel_rfl) (by kernel_rfl) (hval 1 41 v1 rfl rfl) h1
    obtain ⟨k, e0, _, wk⟩ := DataW.trod_int Tryz.underlying5 hy0
    obtain ⟨n, e1, _, wn⟩ := DataW.trod_int Tryz.underlying2 hy1
    obtain ⟨s, e2, _, ws⟩ := DataW.trod_string Tryz.underlying9 hy2
    simp only [List.cons.injEq, and_true] at e0 e1 e2
    subst e0 e1 e2
    exact ⟨k, n, s, rfl, wk, wn, ws⟩
  obtain ⟨kw, nw, sw, rfl, wkw, wnw, wsw⟩ := hK1
  refine (twice.law kv nv sv kw nw sw (Frm.u8wf wkv).1 (Frm.u8wf wkw).1 W (laid_of hL hsh)).mono fun e W' ⟨he, bel⟩ => ?_
  exact ⟨_, he, Frm.law_post laidOut (tb := 4) rfl Tryz.underlying4 rfl (by kernel_rfl) hW' rfl bel⟩
set_option maxHeartbeats 20000000 in
theorem facts : joinedFacts Tryz.prog 4 Tryz.f4 Rows.sealTwiceSpec Rows.sealTwiceRow = true := by
  unfold joinedFacts
  simp only [Bool.and_eq_true]
  repeat' apply And.intro
  all_goals (as_aux_lemma => kernel_rfl)
theorem over : Rows.sealTwiceRow.holds Tryz.pinned (OpenSpec.ofChange Rows.sealTwiceSpec) :=
  OpenClaim.holds_of_wide 4 Tryz.f4 rfl rfl rfl rfl rfl rfl rfl ⟨rfl, rfl, rfl, rfl, rfl⟩ rfl rfl rfl rfl rfl (by kernel_rfl) Tryz.func4 facts
    (of_decide_eq_true (by kernel_rfl)) (by unfold Func.isWrapper; first | (rw [if_pos (by decide +kernel)]; kernel_rfl) | (rw [if_neg (by decide +kernel)]; exact ⟨rfl, rfl⟩))
    (fun os started H enc _ => lifted os started H enc)
end Go.Proofs.YthppammjopifbaaGreatDoor.sealTwice
namespace Go.Proofs.YthppammjopifbaaGreatDoor
open Go
theorem sealTwice_holds : Rows.SealTwiceCardSaid :=
  Claim7.holds_tied_plain_at .later [] [.data, .data, .data, .sentinel, .sentinel, .data, .data, .data, .mapped, .data, .widerDeep, .mapped] true (true, "b6c3ad09b0564174aed77c515e52971cd283fb2271c99807e78b1ee4a3f760d7") true
    sealTwice.over (fun _ h => by cases h) (by kernel_rfl) (fun _ h => by cases h) sealTwice_row_tie rfl ⟨rfl, rfl⟩ (by kernel_rfl) rfl
    (fun f fn hf hfn => by
      obtain rfl : f = 4 := (Option.some.inj ((show Tryz.prog.funcNamed "paling/palinglaw14.SealTwice" = some 4 by kernel_rfl).symm.trans hf)).symm
      obtain rfl : fn = Tryz.f4 := (Option.some.inj (Tryz.func4.symm.trans hfn)).symm
      exact ⟨by kernel_rfl, fun j t ht => by
        rw [Tryz.params4] at ht
        have hall : ∀ t ∈ [41, 41], Tryz.prog.wantsStandIn t = false := by
          intro t ht
          simp only [List.mem_cons, List.not_mem_nil, or_false] at ht
          rcases ht with rfl | rfl <;> kernel_rfl
        exact hall t (by simpa using List.mem_of_getElem? (by simpa using ht : [41, 41][j]? = some t))⟩)
    (by kernel_rfl)
#print axioms sealTwice_holds
end Go.Proofs.YthppammjopifbaaGreatDoor
