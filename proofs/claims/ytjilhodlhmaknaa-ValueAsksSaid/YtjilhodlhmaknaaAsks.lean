/- ValueAsks: for every value that may be made of small numbers and every Ref, True() and Key() answer what chapter 2 says; no condition but the row's own. -/
import Derived.Test.YtjilhodlhmaknaaRows
import Derived.Test.YtjilhodlhmaknaaThr
import Derived.Test.YtjilhodlhmaknaaFrm
import Derived.Lib.SmallJoins
namespace Go.Proofs.Ytjilhodlhmaknaa.valueAsks
open Go.ChangeShapes Go.WideShapes Go.ChangeAt Go.RowKit Go.Joins
theorem own : ownKnob Try.prog.godebug = none := by kernel_rfl
theorem laidOut : laidOutB Try.prog = true := by kernel_rfl
theorem cells26 : Try.prog.cellsOf 26 = 3 := by kernel_rfl
theorem u8wf {a : Int} (h : (Lit.int .u8 a).wf = true) : 0 ≤ a ∧ a ≤ 255 := by
  have h' : (decide (IntKind.u8.min ≤ a) && decide (a ≤ IntKind.u8.max)) = true := h
  simpa [IntKind.min, IntKind.max, IntKind.signed, IntKind.bits] using h'
set_option maxRecDepth 100000 in
theorem lifted (os : Os) (started : os.Started) (H : Type) (enc : TypeId × Value → H) :
    ReturnsInHanded {} Try.checked os 4 .any (Rows.valueAsksSpec.pre6 enc Try.prog Try.f4 Rows.valueAsksRow.domain false) (Rows.valueAsksSpec.post enc Try.prog Try.f4 false true false false) := by
  refine returnsInHanded_of_change_sized (C := Try.checked) own started (by kernel_rfl) Try.func4
    (ChangeSpec.witness6 (enc := enc) (C := Try.checked) false ⟨#[], #[.agg #[.int .u8 0, .int .i64 0, .string ByteArray.empty], .int .u64 0], []⟩ 8 (by kernel_rfl) (by kernel_rfl) (by kernel_rfl) (by kernel_rfl)) ?_
  intro W base args ds gs before hval0 hW hcnd hsz0 _
  have hval : ∀ (j : Nat) t v, Try.f4.params[j]? = some t → args[j]? = some v → Value.okWide Try.prog W .any base t v := hval0
  have hW' := hW
  obtain ⟨p, q, hA0, hV, rfl, hfz, hnd⟩ := hW
  have hA : DataW.TrodAll enc Try.prog W 0 (fun _ => true) true Try.f4.params.toList args.toList ds p := hA0
  rw [Try.params4] at hA hval
  obtain ⟨v0, vs0, d0, ds0, p0, q0, hargs, rfl, rfl, h0, r0⟩ := trodAll_cons hA
  obtain ⟨v1, vs1, d1, ds1, p1, q1, rfl, rfl, rfl, h1, r1⟩ := trodAll_cons r0
  obtain ⟨rfl, rfl, rfl⟩ := trodAll_nil r1
  obtain rfl : args = #[v0, v1] := by cases args; simp_all
  have hK : ∃ (k n : Int) (s : ByteArray), v0 = .agg #[.int .u8 k, .int .i64 n, .string s] ∧ 0 ≤ k ∧ k ≤ 255 := by
    obtain ⟨c0, c1, c2, y0, y1, y2, m, rfl, _, _, hy0, hy1, hy2⟩ := open_agg3 Try.underlying26 (by kernel_rfl) cells26 (hval 0 26 v0 rfl rfl) h0
    obtain ⟨k, e0, _, wk⟩ := DataW.trod_int Try.underlying5 hy0
    obtain ⟨n, e1, _, _⟩ := DataW.trod_int Try.underlying2 hy1
    obtain ⟨s, e2, _, _⟩ := DataW.trod_string Try.underlying9 hy2
    simp only [List.cons.injEq, and_true] at e0 e1 e2
    subst e0 e1 e2
    exact ⟨k, n, s, rfl, u8wf wk⟩
  have hR : ∃ r : Int, v1 = .int .u64 r := by
    obtain ⟨a3, rfl, _, _, w3⟩ := open_int Try.underlying32 (hval 1 32 v1 rfl rfl) h1
    exact ⟨a3, rfl⟩
  obtain ⟨k, n, s, rfl, hk0, hk1⟩ := hK
  obtain ⟨r, rfl⟩ := hR
  refine (Thr.asks k n s r hk0 hk1 W).mono fun e W' ⟨he, bel⟩ => ?_
  exact ⟨_, he, Frm.law_post laidOut (tb := 4) rfl Try.underlying4 rfl (by kernel_rfl) hW' rfl bel⟩
theorem over : Rows.valueAsksRow.holds Try.pinned (OpenSpec.ofChange Rows.valueAsksSpec) :=
  OpenClaim.holds_of_wide 4 Try.f4 rfl rfl rfl rfl rfl rfl rfl ⟨rfl, rfl, rfl, rfl, rfl⟩ rfl rfl rfl rfl rfl (by kernel_rfl) Try.func4 (by kernel_rfl)
    (of_decide_eq_true (by kernel_rfl)) (by unfold Func.isWrapper; first | (rw [if_pos (by decide +kernel)]; kernel_rfl) | (rw [if_neg (by decide +kernel)]; exact ⟨rfl, rfl⟩))
    (fun os started H enc _ => lifted os started H enc)
end Go.Proofs.Ytjilhodlhmaknaa.valueAsks
namespace Go.Proofs.Ytjilhodlhmaknaa
theorem valueAsks_holds : Rows.ValueAsksSaid := valueAsks.over
#print axioms valueAsks_holds
end Go.Proofs.Ytjilhodlhmaknaa
