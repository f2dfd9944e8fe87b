/- ValueKeys: for every list of values: they are a map's keys, and none is another one; no condition but the row's own. -/
import Derived.Test.YtjhpigbilfbikaaRows
import Derived.Test.YtjhpigbilfbikaaFin
import Derived.Test.YtjhpigbilfbikaaFrm
import Derived.Lib.SmallJoins
set_option linter.unusedVariables false
namespace Go.Proofs.Ytjhpigbilfbikaa.valueKeys
open Go.ChangeShapes Go.WideShapes Go.ChangeAt Go.RowKit Go.Joins Mk
theorem own : ownKnob Try.prog.godebug = none := by kernel_rfl
theorem laidOut : laidOutB Try.prog = true := by kernel_rfl
theorem u8wf {a : Int} (h : (Lit.int .u8 a).wf = true) : 0 ≤ a ∧ a ≤ 255 := by
  have h' : (decide (IntKind.u8.min ≤ a) && decide (a ≤ IntKind.u8.max)) = true := h
  simpa [IntKind.min, IntKind.max, IntKind.signed, IntKind.bits] using h'
theorem i64wf {a : Int} (h : -9223372036854775808 ≤ a ∧ a ≤ 9223372036854775807) : (Lit.int .i64 a).wf = true := by
  show (decide (IntKind.i64.min ≤ a) && decide (a ≤ IntKind.i64.max)) = true
  simpa [IntKind.min, IntKind.max, IntKind.signed, IntKind.bits] using h
theorem key_mk (k n : Int) (s : ByteArray) (hn : (Lit.int .i64 n).wf = true) (hs : s.size ≤ maxLen) : ∃ l, keyOf Try.prog 29 (val (mk k n s)) = some l := by
  have h0 : (⟨#[]⟩ : ByteArray).size ≤ maxLen := by decide
  unfold mk val
  repeat' split
  · exact key_of 1 (n % 2) _ (by decide) (i64wf (by omega)) h0
  · exact key_of 2 n _ (by decide) hn h0
  · exact key_of 3 0 _ (by decide) (by decide) hs
  · exact key_of 4 ((n.tmod 6 + 6) % 6) _ (by decide) (i64wf (by omega)) h0
  · exact key_of 0 0 _ (by decide) (by decide) h0
theorem addp (b o k : Nat) : (⟨b, o, none⟩ : Addr).add k = ⟨b, o + k, none⟩ := by
  by_cases h : k = 0 <;> simp [Addr.add, h]
theorem keys_any (v : Value) (W : World) (hv : v = .slice none 0 0 ∨ ∃ (a : Addr) (n cap : Nat) (kk nn : Nat → Int) (ss : Nat → ByteArray), v = .slice (some a) n cap ∧ ∀ i, i < n →
      (W.cell? (a.add (i * 3)) = some (.int .u8 (kk i)) ∧ W.cell? ((a.add (i * 3)).add 1) = some (.int .i64 (nn i)) ∧ W.cell? ((a.add (i * 3)).add 2) = some (.string (ss i))) ∧ (Lit.int .u8 (kk i)).wf = true ∧ (Lit.int .i64 (nn i)).wf = true ∧ (ss i).size ≤ maxLen) :
    Calls Try.prog 3 #[v] W fun e w' => e = .returned (.bool true) ∧ Up W w' := by
  rcases hv with rfl | ⟨a, n, cap, kk, nn, ss, rfl, h⟩
  · exact Fin.keys_zero none 0 W
  by_cases h0 : n = 0
  · subst h0; exact Fin.keys_zero (some a) cap W
  by_cases h40 : 40 < n
  · exact Fin.keys_long (some a) n cap W h40
  obtain ⟨b, off, sp⟩ := a
  obtain ⟨⟨c0, _⟩, _⟩ := h 0 (by omega)
  have hsp : sp = none := by
    have : (Addr.add ⟨b, off, sp⟩ (0 * 3)) = ⟨b, off, sp⟩ := by simp [Addr.add]
    rw [this] at c0
    exact cell_spot c0
  subst hsp
  have hb : b < W.heap.size := by have := World.block_lt_of_cell? W _ c0; simpa [Addr.add] using this
  refine Wk.keys b off n cap kk nn ss W hb (by omega) (fun j hj => ?_) (fun j hj => ⟨u8wf (h j hj).2.1, key_mk _ _ _ (h j hj).2.2.1 (h j hj).2.2.2⟩)
  have hc := (h j hj).1
  simp only [addp] at hc
  exact hc
set_option maxRecDepth 100000 in
theorem lifted (os : Os) (started : os.Started) (H : Type) (enc : TypeId × Value → H) :
    ReturnsInHanded {} Try.checked os 3 .any (Rows.valueKeysSpec.pre6 enc Try.prog Try.f3 Rows.valueKeysRow.domain false) (Rows.valueKeysSpec.post enc Try.prog Try.f3 false true false false) := by
  refine returnsInHanded_of_change_sized (C := Try.checked) own started (by kernel_rfl) Try.func3
    (ChangeSpec.witness6 (enc := enc) (C := Try.checked) false ⟨#[], #[.slice none 0 0], []⟩ 8 (by kernel_rfl) (by kernel_rfl) (by kernel_rfl) (by kernel_rfl)) ?_
  intro W base args ds gs before hval0 hW hcnd hsz0 _
  have hval : ∀ (j : Nat) t v, Try.f3.params[j]? = some t → args[j]? = some v → Value.okWide Try.prog W .any base t v := hval0
  have hW' := hW
  obtain ⟨p, q, hA0, hV, rfl, hfz, hnd⟩ := hW
  have hA : DataW.TrodAll enc Try.prog W 0 (fun _ => true) true Try.f3.params.toList args.toList ds p := hA0
  rw [Try.params3] at hA hval
  obtain ⟨v0, vs0, d0, ds0, p0, q0, hargs, rfl, rfl, h0, r0⟩ := trodAll_cons hA
  obtain ⟨rfl, rfl, rfl⟩ := trodAll_nil r0
  obtain rfl : args = #[v0] := by cases args; simp_all
  obtain ⟨a0, l0, c0, rfl⟩ := okWide_slice Try.underlying22 (hval 0 22 v0 rfl rfl)
  obtain ⟨fuel, hf⟩ := h0
  have hv : (Value.slice a0 l0 c0) = .slice none 0 0 ∨ ∃ (a : Addr) (n cap : Nat) (kk nn : Nat → Int) (ss : Nat → ByteArray), (Value.slice a0 l0 c0) = .slice (some a) n cap ∧ ∀ i, i < n →
      (W.cell? (a.add (i * 3)) = some (.int .u8 (kk i)) ∧ W.cell? ((a.add (i * 3)).add 1) = some (.int .i64 (nn i)) ∧ W.cell? ((a.add (i * 3)).add 2) = some (.string (ss i))) ∧ (Lit.int .u8 (kk i)).wf = true ∧ (Lit.int .i64 (nn i)).wf = true ∧ (ss i).size ≤ maxLen := by
    rcases Fin.open_vs hf with h | ⟨a, n, cap, kk, nn, ss, h, hh⟩
    · simp [Value.cells] at h
      obtain ⟨rfl, rfl, rfl⟩ := h
      exact .inl rfl
    · simp [Value.cells] at h
      obtain ⟨rfl, rfl, rfl⟩ := h
      exact .inr ⟨a, _, _, kk, nn, ss, rfl, hh⟩
  refine (keys_any _ W hv).mono fun e W' ⟨he, bel⟩ => ?_
  exact ⟨_, he, Frm.law_post laidOut (tb := 4) rfl Try.underlying4 rfl (by kernel_rfl) hW' rfl bel⟩
theorem over : Rows.valueKeysRow.holds Try.pinned (OpenSpec.ofChange Rows.valueKeysSpec) :=
  OpenClaim.holds_of_wide 3 Try.f3 rfl rfl rfl rfl rfl rfl rfl ⟨rfl, rfl, rfl, rfl, rfl⟩ rfl rfl rfl rfl rfl (by kernel_rfl) Try.func3 (by kernel_rfl)
    (of_decide_eq_true (by kernel_rfl)) (by unfold Func.isWrapper; first | (rw [if_pos (by decide +kernel)]; kernel_rfl) | (rw [if_neg (by decide +kernel)]; exact ⟨rfl, rfl⟩))
    (fun os started H enc _ => lifted os started H enc)
end Go.Proofs.Ytjhpigbilfbikaa.valueKeys
namespace Go.Proofs.Ytjhpigbilfbikaa
theorem valueKeys_holds : Rows.ValueKeysSaid := valueKeys.over
#print axioms valueKeys_holds
end Go.Proofs.Ytjhpigbilfbikaa
