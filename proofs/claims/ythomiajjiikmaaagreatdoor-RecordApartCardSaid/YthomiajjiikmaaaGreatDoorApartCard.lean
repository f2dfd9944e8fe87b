/- RecordApart: fields of unlike keys do not touch one another; what was put last is there. No condition but the row's own. -/
import Derived.Test.YthomiajjiikmaaaGreatDoorRows
import Derived.Test.YthomiajjiikmaaaGreatDoorCards
import Derived.Test.YthomiajjiikmaaaGreatDoorTie
import Derived.Test.YthomiajjiikmaaaGreatDoorWit
import Derived.Test.YthomiajjiikmaaaGreatDoorApart
import Derived.SevenTiedAt
import Derived.ChangeMaps5
import Derived.SizedLaws
set_option linter.unusedVariables false
namespace Go.Proofs.YthomiajjiikmaaaGreatDoor.recordApart
open Go Go.ChangeShapes Go.WideShapes Go.RowKit Go.Joins
set_option maxRecDepth 100000 in
theorem lifted (os : Os) (started : os.Started) (H : Type) (enc : TypeId × Value → H) :
    ReturnsInHanded {} Tryz.checked os 10 .any (fun w args => (Rows.recordApartSpec.pre enc Tryz.prog Tryz.f10 [] false w args ∧ laidMetH Tryz.prog laid0 w) ∧ sizedMet enc Tryz.prog Tryz.f10 (OpenSpec.ofChange Rows.recordApartSpec) false w args)
      (Rows.recordApartSpec.post enc Tryz.prog Tryz.f10 false true false false) := by
  refine Frm.handed (C := Tryz.checked) (X := fun w _ => laidMetH Tryz.prog laid0 w) (fun _ _ _ hh h => h.of_heap hh) own started (by kernel_rfl) Tryz.func10
    (ChangeSpec.witness_at (enc := enc) (C := Tryz.checked) (os := os) (X := fun w _ => laidMetH Tryz.prog laid0 w) false (laidWorld os) #[.agg #[.int .u8 0, .int .i64 0, .string ByteArray.empty], .agg #[.int .u8 0, .int .i64 0, .string ByteArray.empty], .agg #[.int .u8 0, .int .i64 0, .string ByteArray.empty], .agg #[.int .u8 0, .int .i64 0, .string ByteArray.empty]] 8 rfl (by kernel_rfl) (by kernel_rfl) (by kernel_rfl) (by kernel_rfl) (by kernel_rfl) (laidWorld_met os _)) ?_
  intro W base args ds gs before hval0 hW hwt hL hsh
  have hval : ∀ (j : Nat) t v, Tryz.f10.params[j]? = some t → args[j]? = some v → Value.okWide Tryz.prog W .any base t v := hval0
  have hW' := hW
  obtain ⟨p, q, hA0, hV, rfl, hfz, hnd⟩ := hW
  have hA : DataW.TrodAll enc Tryz.prog W 0 (fun _ => true) true Tryz.f10.params.toList args.toList ds p := hA0
  rw [Tryz.params10] at hA hval
  obtain ⟨v0, vs0, d0, ds0, p0, q0, hargs, rfl, rfl, h0, r0⟩ := trodAll_cons hA
  obtain ⟨v1, vs1, d1, ds1, p1, q1, rfl, rfl, rfl, h1, r1⟩ := trodAll_cons r0
  obtain ⟨v2, vs2, d2, ds2, p2, q2, rfl, rfl, rfl, h2, r2⟩ := trodAll_cons r1
  obtain ⟨v3, vs3, d3, ds3, p3, q3, rfl, rfl, rfl, h3, r3⟩ := trodAll_cons r2
  obtain ⟨rfl, rfl, rfl⟩ := trodAll_nil r3
  obtain rfl : args = #[v0, v1, v2, v3] := by cases args; simp_all
  have hK0 : ∃ (k n : Int) (s : ByteArray), v0 = .agg #[.int .u8 k, .int .i64 n, .string s] ∧ (Lit.int .u8 k).wf = true ∧ (Lit.int .i64 n).wf = true ∧ s.size ≤ maxLen := by
    obtain ⟨c0, c1, c2, y0, y1, y2, m, rfl, _, _, hy0, hy1, hy2⟩ := open_agg3 Tryz.underlying48 (by kernel_rfl) (by kernel_rfl) (hval 0 48 v0 rfl rfl) h0
    obtain ⟨k, e0, _, wk⟩ := DataW.trod_int Tryz.underlying5 hy0
    obtain ⟨n, e1, _, wn⟩ := DataW.trod_int Tryz.underlying2 hy1
    obtain ⟨s, e2, _, ws⟩ := DataW.trod_string Tryz.underlying9 hy2
    simp only [List.cons.injEq, and_true] at e0 e1 e2
    subst e0 e1 e2
    exact ⟨k, n, s, rfl, wk, wn, ws⟩
  obtain ⟨kk, nk, sk, rfl, wkk, wnk, wsk⟩ := hK0
  have hK1 : ∃ (k n : Int) (s : ByteArray), v1 = .agg #[.int .u8 k, .int .i64 n, .string s] ∧ (Lit.int .u8 k).wf = true ∧ (Lit.int .i64 n).wf = true ∧ s.size ≤ maxLen := by
    obtain ⟨c0, c1, c2, y0, y1, y2, m, rfl, _, _, hy0, hy1, hy2⟩ := open_agg3 Tryz.underlying48 (by kernel_rfl) (by kernel_rfl) (hval 1 48 v1 rfl rfl) h1
    obtain ⟨k, e0, _, wk⟩ := DataW.trod_int Tryz.underlying5 hy0
    obtain ⟨n, e1, _, wn⟩ := DataW.trod_int Tryz.underlying2 hy1
    obtain ⟨s, e2, _, ws⟩ := DataW.trod_string Tryz.underlying9 hy2
    simp only [List.cons.injEq, and_true] at e0 e1 e2
    subst e0 e1 e2
    exact ⟨k, n, s, rfl, wk, wn, ws⟩
  obtain ⟨kl, nl, sl, rfl, wkl, wnl, wsl⟩ := hK1
  have hK2 : ∃ (k n : Int) (s : ByteArray), v2 = .agg #[.int .u8 k, .int .i64 n, .string s] ∧ (Lit.int .u8 k).wf = true ∧ (Lit.int .i64 n).wf = true ∧ s.size ≤ maxLen := by
    obtain ⟨c0, c1, c2, y0, y1, y2, m, rfl, _, _, hy0, hy1, hy2⟩ := open_agg3 Tryz.underlying48 (by kernel_rfl) (by kernel_rfl) (hval 2 48 v2 rfl rfl) h2
    obtain ⟨k, e0, _, wk⟩ := DataW.trod_int Tryz.underlying5 hy0
    obtain ⟨n, e1, _, wn⟩ := DataW.trod_int Tryz.underlying2 hy1
    obtain ⟨s, e2, _, ws⟩ := DataW.trod_string Tryz.underlying9 hy2
    simp only [List.cons.injEq, and_true] at e0 e1 e2
    subst e0 e1 e2
    exact ⟨k, n, s, rfl, wk, wn, ws⟩
  obtain ⟨kv, nv, sv, rfl, wkv, wnv, wsv⟩ := hK2
  have hK3 : ∃ (k n : Int) (s : ByteArray), v3 = .agg #[.int .u8 k, .int .i64 n, .string s] ∧ (Lit.int .u8 k).wf = true ∧ (Lit.int .i64 n).wf = true ∧ s.size ≤ maxLen := by
    obtain ⟨c0, c1, c2, y0, y1, y2, m, rfl, _, _, hy0, hy1, hy2⟩ := open_agg3 Tryz.underlying48 (by kernel_rfl) (by kernel_rfl) (hval 3 48 v3 rfl rfl) h3
    obtain ⟨k, e0, _, wk⟩ := DataW.trod_int Tryz.underlying5 hy0
    obtain ⟨n, e1, _, wn⟩ := DataW.trod_int Tryz.underlying2 hy1
    obtain ⟨s, e2, _, ws⟩ := DataW.trod_string Tryz.underlying9 hy2
    simp only [List.cons.injEq, and_true] at e0 e1 e2
    subst e0 e1 e2
    exact ⟨k, n, s, rfl, wk, wn, ws⟩
  obtain ⟨kw, nw, sw, rfl, wkw, wnw, wsw⟩ := hK3
  refine (apart.law kk nk sk kl nl sl kv nv sv kw nw sw (Frm.u8wf wkk).1 (Frm.u8wf wkl).1 (Frm.u8wf wkv).1 (Frm.u8wf wkw).1 W (laid_of hL hsh)).mono fun e W' ⟨he, bel⟩ => ?_
  exact ⟨_, he, Frm.law_post laidOut (tb := 4) rfl Tryz.underlying4 rfl (by kernel_rfl) hW' rfl bel⟩
set_option maxHeartbeats 20000000 in
theorem facts : joinedFacts Tryz.prog 10 Tryz.f10 Rows.recordApartSpec Rows.recordApartRow = true := by
  unfold joinedFacts
  simp only [Bool.and_eq_true]
  repeat' apply And.intro
  all_goals (as_aux_lemma => kernel_rfl)
theorem over : Rows.recordApartRow.holds Tryz.pinned (OpenSpec.ofChange Rows.recordApartSpec) :=
  OpenClaim.holds_of_wide 10 Tryz.f10 rfl rfl rfl rfl rfl rfl rfl ⟨rfl, rfl, rfl, rfl, rfl⟩ rfl rfl rfl rfl rfl (by kernel_rfl) Tryz.func10 facts
    (of_decide_eq_true (by kernel_rfl)) (by unfold Func.isWrapper; first | (rw [if_pos (by decide +kernel)]; kernel_rfl) | (rw [if_neg (by decide +kernel)]; exact ⟨rfl, rfl⟩))
    (fun os started H enc _ => lifted os started H enc)
end Go.Proofs.YthomiajjiikmaaaGreatDoor.recordApart
namespace Go.Proofs.YthomiajjiikmaaaGreatDoor
open Go
theorem recordApart_holds : Rows.RecordApartCardSaid :=
  Claim7.holds_tied_plain_at .later [] [.data, .data, .data, .sentinel, .sentinel, .data, .data, .data, .mapped, .data, .widerDeep, .mapped] true (true, "3dfdeed01d92c5503de373fb072cba514abf58386144349fe5759cac2ed3b2a0") true
    recordApart.over (fun _ h => by cases h) (by kernel_rfl) (fun _ h => by cases h) recordApart_row_tie rfl ⟨rfl, rfl⟩ (by kernel_rfl) rfl
    (fun f fn hf hfn => by
      obtain rfl : f = 10 := (Option.some.inj ((show Tryz.prog.funcNamed "paling/palinglaw13.RecordApart" = some 10 by kernel_rfl).symm.trans hf)).symm
      obtain rfl : fn = Tryz.f10 := (Option.some.inj (Tryz.func10.symm.trans hfn)).symm
      exact ⟨by kernel_rfl, fun j t ht => by
        rw [Tryz.params10] at ht
        have hall : ∀ t ∈ [48, 48, 48, 48], Tryz.prog.wantsStandIn t = false := by
          intro t ht
          simp only [List.mem_cons, List.not_mem_nil, or_false] at ht
          rcases ht with rfl | rfl | rfl | rfl <;> kernel_rfl
        exact hall t (by simpa using List.mem_of_getElem? (by simpa using ht : [48, 48, 48, 48][j]? = some t))⟩)
    (by kernel_rfl)
#print axioms recordApart_holds
end Go.Proofs.YthomiajjiikmaaaGreatDoor
