/- What is handed in: pairs of small numbers. -/
import Derived.Test.YtkcljohkcpdfaaaGreatDoorProg
import Derived.Test.YtkcljohkcpdfaaaGreatDoorHl
import Derived.Laws.BitsLemmas
import Derived.OwnWalk
import Derived.ChangeAlike
import Derived.ProofKit
import Derived.Lib.Bytes
import Derived.Lib.LaidU8
import Derived.WideKeyPair
import Derived.OpenShut
import Derived.WideKeyArr2
set_option linter.unusedVariables false
namespace Go.Proofs.YtkcljohkcpdfaaaGreatDoor.gr
open Go.RowKit Go.Maps mem
set_option maxRecDepth 100000
set_option maxHeartbeats 2000000
/-- A slice of elements of c cells each, of which Q tells what they are. -/
def Handed {α : Type} (c : Nat) (Q : World → Nat → Nat → α → Prop) (v : Value) (w : World) : Prop :=
  ∃ (a : Option Addr) (n cap : Nat) (sp : Nat → α), v = .slice a n cap ∧ (n = 0 ∨ ∃ b off, a = some ⟨b, off, none⟩ ∧ b < w.heap.size ∧ ∀ i, i < n → Q w b (off + i * c) (sp i))
section
variable {H : Type} {enc : TypeId × Value → H} {w : World} {base : Nat} {spare : Nat → Bool} {held : Bool}
theorem open_slice {α : Type} (s0 : α) {t e : TypeId} {c : Nat} (ht : Tryz.prog.underlying t = some (.slice e)) (hc : Tryz.prog.cellsOf e = c) (hc0 : 0 < c) (Q : World → Nat → Nat → α → Prop)
    (one : ∀ (fuel : Nat) (L : List Value) (x : DataW H × List MemPlace), DataW.trod enc Tryz.prog w base spare held fuel e L = some x → ∃ s : α, ∀ b o, (∀ j, j < c → w.cell? ⟨b, o + j, none⟩ = L[j]?) → Q w b o s)
    {fuel : Nat} {v : Value} {x : DataW H × List MemPlace} (h : DataW.trod enc Tryz.prog w base spare held fuel t [v] = some x) : Handed c Q v w := by
  rcases DataW.trod_slice ht h with ⟨h0, _⟩ | ⟨a, len, cap, elems, rest, n, _, he, rfl, hb, hl, hm, hlen, hel, _, _⟩
  · exact ⟨none, 0, 0, fun _ => s0, by simpa using h0, .inl rfl⟩
  have hv : v = .slice (some a) len cap := by simpa using he
  by_cases hz : len = 0
  · exact ⟨some a, len, cap, fun _ => s0, hv, .inl hz⟩
  have each : ∀ i, ∃ s : α, i < len → (∀ b o, (∀ j, j < c → w.cell? ⟨b, o + j, none⟩ = w.cell? ((a.add (i * c)).add j)) → Q w b o s) ∧ ∃ u, w.cell? ((a.add (i * c)).add 0) = some u := by
    intro i
    by_cases hi : i < len
    · obtain ⟨y, hy⟩ : ∃ y, elems[i]? = some y := ⟨elems[i]'(by omega), List.getElem?_eq_getElem (by omega)⟩
      have h1 := hel i hi
      rw [hy, hc, Option.bind_eq_some_iff] at h1
      obtain ⟨cs', hcs, htr⟩ := h1
      obtain ⟨_, hl2, hcell⟩ := World.cells?_some hcs
      obtain ⟨s, hs⟩ := one _ _ _ htr
      refine ⟨s, fun _ => ⟨fun b o hbo => hs b o (fun j hj => (hbo j hj).trans (hcell j (by omega))), ?_⟩⟩
      rw [hcell 0 (by omega)]
      exact ⟨_, List.getElem?_eq_getElem (by omega)⟩
    · exact ⟨s0, fun hh => absurd hh hi⟩
  obtain ⟨sp, hs⟩ := Classical.skolem.1 each
  obtain ⟨b, off, spt⟩ := a
  obtain ⟨u, c0⟩ := (hs 0 (by omega)).2
  have hsp : spt = none := by
    have : (Addr.add (Addr.add ⟨b, off, spt⟩ (0 * c)) 0) = ⟨b, off, spt⟩ := by simp [Addr.add]
    rw [this] at c0
    exact cell_spot c0
  subst hsp
  have add1 : ∀ i j, ((⟨b, off, none⟩ : Addr).add (i * c)).add j = ⟨b, off + i * c + j, none⟩ := fun i j => by rw [Addr.add_mid, Addr.add_mid]
  have hbl : b < w.heap.size := by
    rw [add1] at c0
    exact World.block_lt_of_cell? w _ c0
  exact ⟨some ⟨b, off, none⟩, len, cap, sp, hv, .inr ⟨b, off, rfl, hbl, fun i hi => (hs i hi).1 b (off + i * c) (fun j hj => by rw [add1])⟩⟩
theorem u8wf {a : Int} (h : (Lit.int .u8 a).wf = true) : 0 ≤ a ∧ a ≤ 255 := by
  have h' : (decide (IntKind.u8.min ≤ a) && decide (a ≤ IntKind.u8.max)) = true := h
  simpa [IntKind.min, IntKind.max, IntKind.signed, IntKind.bits] using h'
theorem two_cells {fuel : Nat} {L : List Value} {x : DataW H × List MemPlace} (h : DataW.trod enc Tryz.prog w base spare held fuel 23 L = some x) : ∃ k0 k1 : Int, L[0]? = some (.int .u8 k0) ∧ L[1]? = some (.int .u8 k1) ∧ (0 ≤ k0 ∧ k0 ≤ 255) ∧ (0 ≤ k1 ∧ k1 ≤ 255) := by
  have c1 : Tryz.prog.cellsOf 5 = 1 := by kernel_rfl
  obtain ⟨ys, m, _, _, _, hyl, hf⟩ := DataW.trod_array Tryz.underlying23 h
  have f0 := hf 0 (by omega)
  have f1 := hf 1 (by omega)
  rw [c1] at f0 f1
  rw [List.getElem?_eq_getElem (by omega)] at f0 f1
  obtain ⟨k0, e0, _, w0⟩ := DataW.trod_int Tryz.underlying5 f0
  obtain ⟨k1, e1, _, w1⟩ := DataW.trod_int Tryz.underlying5 f1
  have g0 : L[0]? = some (.int .u8 k0) := by have := congrArg (·[0]?) e0; simpa [List.getElem?_take, List.getElem?_drop] using this
  have g1 : L[1]? = some (.int .u8 k1) := by have := congrArg (·[0]?) e1; simpa [List.getElem?_take, List.getElem?_drop] using this
  exact ⟨k0, k1, g0, g1, u8wf w0, u8wf w1⟩
theorem open_prs {fuel : Nat} {v : Value} {x : DataW H × List MemPlace} (h : DataW.trod enc Tryz.prog w base spare held fuel 22 [v] = some x) : Handed 2 P2At v w := by
  refine open_slice ((0 : Int), (0 : Int)) Tryz.underlying22 (by kernel_rfl) (by decide) P2At ?_ h
  intro fuel L x hx
  obtain ⟨k0, k1, g0, g1, w0, w1⟩ := two_cells hx
  exact ⟨(k0, k1), fun b o hj => ⟨(hj 0 (by decide)).trans g0, (hj 1 (by decide)).trans g1, w0.1, w0.2, w1.1, w1.2⟩⟩
theorem arr2 : WideMaps.ArrKey Tryz.prog 23 5 2 := ⟨Tryz.underlying23, by kernel_rfl, by kernel_rfl, by kernel_rfl⟩
theorem open_two {r : Reach} {b0 fuel : Nat} {W : World} {v : Value} {x : DataW H × List MemPlace} (hv : Value.okWide Tryz.prog W r b0 23 v) (h : DataW.trod enc Tryz.prog w base spare held fuel 23 v.cells.toList = some x) : ∃ a b : Int, v = .agg #[.int .u8 a, .int .u8 b] ∧ (0 ≤ a ∧ a ≤ 255) ∧ (0 ≤ b ∧ b ≤ 255) := by
  obtain ⟨xs, rfl, hs⟩ := WideMaps.okWide_arr arr2 hv
  obtain ⟨k0, k1, g0, g1, w0, w1⟩ := two_cells h
  have e0 : xs[0]? = some (.int .u8 k0) := by simpa [Value.cells] using g0
  have e1 : xs[1]? = some (.int .u8 k1) := by simpa [Value.cells] using g1
  refine ⟨k0, k1, ?_, w0, w1⟩
  congr 1
  apply Array.ext
  · simp [hs]
  · intro i h1 h2
    have hi : i = 0 ∨ i = 1 := by omega
    rcases hi with rfl | rfl
    · have := (Array.getElem?_eq_some_iff.1 e0).2; simpa using this
    · have := (Array.getElem?_eq_some_iff.1 e1).2; simpa using this
end
end Go.Proofs.YtkcljohkcpdfaaaGreatDoor.gr
