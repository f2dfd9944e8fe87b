/- What is handed in: slices, opened element by element. -/
import Derived.Test.YtffcdoiikefpcaaGreatDoorProg
import Derived.Test.YtffcdoiikefpcaaGreatDoorVd
import Derived.Laws.BitsLemmas
import Derived.OwnWalk
import Derived.ChangeAlike
import Derived.ProofKit
import Derived.Lib.Bytes
import Derived.Lib.LaidU8
set_option linter.unusedVariables false
namespace Go.Proofs.YtffcdoiikefpcaaGreatDoor.vl
open Go.RowKit Go.Maps mem
set_option maxRecDepth 100000
set_option maxHeartbeats 2000000
/-- A slice of elements of c cells each, of which Q tells what they are. -/
def Handed {α : Type} (c : Nat) (Q : World → Nat → Nat → α → Prop) (v : Value) (w : World) : Prop :=
  ∃ (a : Option Addr) (n cap : Nat) (sp : Nat → α), v = .slice a n cap ∧ (n = 0 ∨ ∃ b off, a = some ⟨b, off, none⟩ ∧ b < w.heap.size ∧ ∀ i, i < n → Q w b (off + i * c) (sp i))
section
variable {H : Type} {enc : TypeId × Value → H} {w : World} {base : Nat} {spare : Nat → Bool} {held : Bool}
theorem open_slice {α : Type} (s0 : α) {t e : TypeId} {c : Nat} (ht : Tryz.prog.underlying t = some (.slice e)) (hc : Tryz.prog.cellsOf e = c) (hc0 : 0 < c) (Q : World → Nat → Nat → α → Prop)
    (one : ∀ (fuel : Nat) (L : List Value) (x : DataW H × List MemPlace), DataW.trod enc Tryz.prog w base spare held fuel e L = some x → ∃ s : α, ∀ b o, (∀ j, j < c → w.cell? ⟨b, o + j, none⟩ = L[j]?) → Q w b o s)
    {fuel : Nat} {v : Value} {x : DataW H × List MemPlace} (h : DataW.trod enc Tryz.prog w base spare held fuel t [v] = some x) : Handed c Q v w := by
  rcases DataW.trod_slice ht h with ⟨h0, _⟩ | ⟨a, len, cap, elems, rest, n, _, he, rfl, hb, hl, hm, hlen, hel, _, _⟩
  · exact ⟨none, 0, 0, fun _ => s0, by simpa using h0, .inl rfl⟩
  have hv : v = .slice (some a) len cap := by simpa using he
  by_cases hz : len = 0
  · exact ⟨some a, len, cap, fun _ => s0, hv, .inl hz⟩
  have each : ∀ i, ∃ s : α, i < len → (∀ b o, (∀ j, j < c → w.cell? ⟨b, o + j, none⟩ = w.cell? ((a.add (i * c)).add j)) → Q w b o s) ∧ ∃ u, w.cell? ((a.add (i * c)).add 0) = some u := by
    intro i
    by_cases hi : i < len
    · obtain ⟨y, hy⟩ : ∃ y, elems[i]? = some y := ⟨elems[i]'(by omega), List.getElem?_eq_getElem (by omega)⟩
      have h1 := hel i hi
      rw [hy, hc, Option.bind_eq_some_iff] at h1
      obtain ⟨cs', hcs, htr⟩ := h1
      obtain ⟨_, hl2, hcell⟩ := World.cells?_some hcs
      obtain ⟨s, hs⟩ := one _ _ _ htr
      refine ⟨s, fun _ => ⟨fun b o hbo => hs b o (fun j hj => (hbo j hj).trans (hcell j (by omega))), ?_⟩⟩
      rw [hcell 0 (by omega)]
      exact ⟨_, List.getElem?_eq_getElem (by omega)⟩
    · exact ⟨s0, fun hh => absurd hh hi⟩
  obtain ⟨sp, hs⟩ := Classical.skolem.1 each
  obtain ⟨b, off, spt⟩ := a
  obtain ⟨u, c0⟩ := (hs 0 (by omega)).2
  have hsp : spt = none := by
    have : (Addr.add (Addr.add ⟨b, off, spt⟩ (0 * c)) 0) = ⟨b, off, spt⟩ := by simp [Addr.add]
    rw [this] at c0
    exact cell_spot c0
  subst hsp
  have add1 : ∀ i j, ((⟨b, off, none⟩ : Addr).add (i * c)).add j = ⟨b, off + i * c + j, none⟩ := fun i j => by rw [Addr.add_mid, Addr.add_mid]
  have hbl : b < w.heap.size := by
    rw [add1] at c0
    exact World.block_lt_of_cell? w _ c0
  exact ⟨some ⟨b, off, none⟩, len, cap, sp, hv, .inr ⟨b, off, rfl, hbl, fun i hi => (hs i hi).1 b (off + i * c) (fun j hj => by rw [add1])⟩⟩
/-- A small number. -/
def I8At (w : World) (b o : Nat) (x : Int) : Prop := w.cell? ⟨b, o, none⟩ = some (.int .i8 x) ∧ -128 ≤ x ∧ x ≤ 127
theorem i8wf {a : Int} (h : (Lit.int .i8 a).wf = true) : -128 ≤ a ∧ a ≤ 127 := by
  have h' : (decide (IntKind.i8.min ≤ a) && decide (a ≤ IntKind.i8.max)) = true := h
  simpa [IntKind.min, IntKind.max, IntKind.signed, IntKind.bits] using h'
theorem u8wf {a : Int} (h : (Lit.int .u8 a).wf = true) : 0 ≤ a ∧ a ≤ 255 := by
  have h' : (decide (IntKind.u8.min ≤ a) && decide (a ≤ IntKind.u8.max)) = true := h
  simpa [IntKind.min, IntKind.max, IntKind.signed, IntKind.bits] using h'
theorem u16wf {a : Int} (h : (Lit.int .u16 a).wf = true) : 0 ≤ a ∧ a ≤ 65535 := by
  have h' : (decide (IntKind.u16.min ≤ a) && decide (a ≤ IntKind.u16.max)) = true := h
  simpa [IntKind.min, IntKind.max, IntKind.signed, IntKind.bits] using h'
end
end Go.Proofs.YtffcdoiikefpcaaGreatDoor.vl
