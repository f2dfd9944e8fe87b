/- What is handed in: slices, opened element by element. -/
import Derived.Test.YtmmfpkkkpeapeaaGreatDoorRec
import Derived.Lib.LaidU8
set_option linter.unusedVariables false
namespace Go.Proofs.YtmmfpkkkpeapeaaGreatDoor.op
open Go.RowKit Go.Maps mem rec
set_option maxRecDepth 100000
set_option maxHeartbeats 2000000
/-- A slice of elements of c cells each, of which Q tells what they are. -/
def Handed {α : Type} (c : Nat) (Q : World → Nat → Nat → α → Prop) (v : Value) (w : World) : Prop :=
  ∃ (a : Option Addr) (n cap : Nat) (sp : Nat → α), v = .slice a n cap ∧ (n = 0 ∨ ∃ b off, a = some ⟨b, off, none⟩ ∧ b < w.heap.size ∧ ∀ i, i < n → Q w b (off + i * c) (sp i))
section
variable {H : Type} {enc : TypeId × Value → H} {w : World} {base : Nat} {spare : Nat → Bool} {held : Bool}
theorem open_slice {α : Type} (s0 : α) {t e : TypeId} {c : Nat} (ht : Tryz.prog.underlying t = some (.slice e)) (hc : Tryz.prog.cellsOf e = c) (hc0 : 0 < c) (Q : World → Nat → Nat → α → Prop)
    (one : ∀ (fuel : Nat) (L : List Value) (x : DataW H × List MemPlace), DataW.trod enc Tryz.prog w base spare held fuel e L = some x → ∃ s : α, ∀ b o, (∀ j, j < c → w.cell? ⟨b, o + j, none⟩ = L[j]?) → Q w b o s)
    {fuel : Nat} {v : Value} {x : DataW H × List MemPlace} (h : DataW.trod enc Tryz.prog w base spare held fuel t [v] = some x) : Handed c Q v w := by
  rcases DataW.trod_slice ht h with ⟨h0, _⟩ | ⟨a, len, cap, elems, rest, n, _, he, rfl, hb, hl, hm, hlen, hel, _, _⟩
  · exact ⟨none, 0, 0, fun _ => s0, by simpa using h0, .inl rfl⟩
  have hv : v = .slice (some a) len cap := by simpa using he
  by_cases hz : len = 0
  · exact ⟨some a, len, cap, fun _ => s0, hv, .inl hz⟩
  have each : ∀ i, ∃ s : α, i < len → (∀ b o, (∀ j, j < c → w.cell? ⟨b, o + j, none⟩ = w.cell? ((a.add (i * c)).add j)) → Q w b o s) ∧ ∃ u, w.cell? ((a.add (i * c)).add 0) = some u := by
    intro i
    by_cases hi : i < len
    · obtain ⟨y, hy⟩ : ∃ y, elems[i]? = some y := ⟨elems[i]'(by omega), List.getElem?_eq_getElem (by omega)⟩
      have h1 := hel i hi
      rw [hy, hc, Option.bind_eq_some_iff] at h1
      obtain ⟨cs', hcs, htr⟩ := h1
      obtain ⟨_, hl2, hcell⟩ := World.cells?_some hcs
      obtain ⟨s, hs⟩ := one _ _ _ htr
      refine ⟨s, fun _ => ⟨fun b o hbo => hs b o (fun j hj => (hbo j hj).trans (hcell j (by omega))), ?_⟩⟩
      rw [hcell 0 (by omega)]
      exact ⟨_, List.getElem?_eq_getElem (by omega)⟩
    · exact ⟨s0, fun hh => absurd hh hi⟩
  obtain ⟨sp, hs⟩ := Classical.skolem.1 each
  obtain ⟨b, off, spt⟩ := a
  obtain ⟨u, c0⟩ := (hs 0 (by omega)).2
  have hsp : spt = none := by
    have : (Addr.add (Addr.add ⟨b, off, spt⟩ (0 * c)) 0) = ⟨b, off, spt⟩ := by simp [Addr.add]
    rw [this] at c0
    exact cell_spot c0
  subst hsp
  have add1 : ∀ i j, ((⟨b, off, none⟩ : Addr).add (i * c)).add j = ⟨b, off + i * c + j, none⟩ := fun i j => by rw [Addr.add_mid, Addr.add_mid]
  have hbl : b < w.heap.size := by
    rw [add1] at c0
    exact World.block_lt_of_cell? w _ c0
  exact ⟨some ⟨b, off, none⟩, len, cap, sp, hv, .inr ⟨b, off, rfl, hbl, fun i hi => (hs i hi).1 b (off + i * c) (fun j hj => by rw [add1])⟩⟩
/-- A number of one byte. -/
def U8At (w : World) (b o : Nat) (x : Int) : Prop := w.cell? ⟨b, o, none⟩ = some (.int .u8 x) ∧ 0 ≤ x ∧ x ≤ 255
theorem u8wf {a : Int} (h : (Lit.int .u8 a).wf = true) : 0 ≤ a ∧ a ≤ 255 := by
  have h' : (decide (IntKind.u8.min ≤ a) && decide (a ≤ IntKind.u8.max)) = true := h
  simpa [IntKind.min, IntKind.max, IntKind.signed, IntKind.bits] using h'
theorem open_bytes {fuel : Nat} {v : Value} {x : DataW H × List MemPlace} (h : DataW.trod enc Tryz.prog w base spare held fuel 101 [v] = some x) : Handed 1 U8At v w := by
  refine open_slice (0 : Int) Tryz.underlying101 (by kernel_rfl) (by decide) U8At ?_ h
  intro fuel L x hx
  obtain ⟨k, e, _, hw⟩ := DataW.trod_int Tryz.underlying5 hx
  exact ⟨k, fun b o hj => ⟨by have := hj 0 (by decide); rw [e] at this; simpa using this, u8wf hw⟩⟩
/-- A value as it is handed in: kind, number, text. -/
def VAt (w : World) (b o : Nat) (x : V3) : Prop := (w.cell? ⟨b, o, none⟩ = some (.int .u8 x.1) ∧ w.cell? ⟨b, o + 1, none⟩ = some (.int .i64 x.2.1) ∧ w.cell? ⟨b, o + 2, none⟩ = some (.string x.2.2)) ∧ (0 ≤ x.1 ∧ x.1 ≤ 255) ∧ (Lit.int .i64 x.2.1).wf = true ∧ x.2.2.size ≤ maxLen
theorem open_v {fuel : Nat} {L : List Value} {x : DataW H × List MemPlace} (h : DataW.trod enc Tryz.prog w base spare held fuel 25 L = some x) :
    ∃ k n s, L[0]? = some (.int .u8 k) ∧ L[1]? = some (.int .i64 n) ∧ L[2]? = some (.string s) ∧ (Lit.int .u8 k).wf = true ∧ (Lit.int .i64 n).wf = true ∧ s.size ≤ maxLen := by
  have c5 : Tryz.prog.cellsOf 5 = 1 := by kernel_rfl
  have c2 : Tryz.prog.cellsOf 2 = 1 := by kernel_rfl
  have c9 : Tryz.prog.cellsOf 9 = 1 := by kernel_rfl
  obtain ⟨ys, m, _, _, _, hyl, hf⟩ := DataW.trod_struct Tryz.underlying25 h
  have f0 : DataW.trod enc Tryz.prog w base spare held m 5 ((L.drop 0).take 1) = ys[0]? := by rw [← c5]; exact hf 0 _ rfl
  have f1 : DataW.trod enc Tryz.prog w base spare held m 2 ((L.drop 1).take 1) = ys[1]? := by rw [← c2]; exact hf 1 _ rfl
  have f2 : DataW.trod enc Tryz.prog w base spare held m 9 ((L.drop 2).take 1) = ys[2]? := by rw [← c9]; exact hf 2 _ rfl
  have hyl' : ys.length = 3 := by simpa using hyl
  rw [List.getElem?_eq_getElem (by omega)] at f0 f1 f2
  obtain ⟨k0, e0, _, w0⟩ := DataW.trod_int Tryz.underlying5 f0
  obtain ⟨k1, e1, _, w1⟩ := DataW.trod_int Tryz.underlying2 f1
  obtain ⟨k2, e2, _, w2⟩ := DataW.trod_string Tryz.underlying9 f2
  have g0 : L[0]? = some (.int .u8 k0) := by have := congrArg (·[0]?) e0; simpa [List.getElem?_take, List.getElem?_drop] using this
  have g1 : L[1]? = some (.int .i64 k1) := by have := congrArg (·[0]?) e1; simpa [List.getElem?_take, List.getElem?_drop] using this
  have g2 : L[2]? = some (.string k2) := by have := congrArg (·[0]?) e2; simpa [List.getElem?_take, List.getElem?_drop] using this
  exact ⟨k0, k1, k2, g0, g1, g2, w0, w1, w2⟩
theorem open_vs {fuel : Nat} {v : Value} {x : DataW H × List MemPlace} (h : DataW.trod enc Tryz.prog w base spare held fuel 81 [v] = some x) : Handed 3 VAt v w := by
  refine open_slice zero3 Tryz.underlying81 (by kernel_rfl) (by decide) VAt ?_ h
  intro fuel L x hx
  obtain ⟨k, n, s, h0, h1, h2, w0, w1, w2⟩ := open_v hx
  exact ⟨(k, n, s), fun b o hj => ⟨⟨(hj 0 (by decide)).trans h0, (hj 1 (by decide)).trans h1, (hj 2 (by decide)).trans h2⟩, u8wf w0, w1, w2⟩⟩
end
end Go.Proofs.YtmmfpkkkpeapeaaGreatDoor.op
