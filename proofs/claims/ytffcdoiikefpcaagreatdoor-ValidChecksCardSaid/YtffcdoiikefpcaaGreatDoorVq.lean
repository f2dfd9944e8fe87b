/- Functions by small numbers, as they are handed in: opened. -/
import Derived.Test.YtffcdoiikefpcaaGreatDoorVo
set_option linter.unusedVariables false
namespace Go.Proofs.YtffcdoiikefpcaaGreatDoor.vl
open Go.RowKit Go.Maps mem
set_option maxRecDepth 100000
set_option maxHeartbeats 2000000
section
variable {H : Type} {enc : TypeId × Value → H} {w : World} {base : Nat} {spare : Nat → Bool} {held : Bool}
theorem open_i8s {fuel : Nat} {v : Value} {x : DataW H × List MemPlace} (h : DataW.trod enc Tryz.prog w base spare held fuel 25 [v] = some x) : Handed 1 I8At v w := by
  refine open_slice (0 : Int) Tryz.underlying25 (by kernel_rfl) (by decide) I8At ?_ h
  intro fuel L x hx
  obtain ⟨k, e, _, hw⟩ := DataW.trod_int Tryz.underlying24 hx
  exact ⟨k, fun b o hj => ⟨by have := hj 0 (by decide); rw [e] at this; simpa using this, i8wf hw⟩⟩
/-- An instruction by small numbers. -/
def CAt (w : World) (b o : Nat) (x : Int × Int × Int × Int) : Prop := (w.cell? ⟨b, o, none⟩ = some (.int .u8 x.1) ∧ w.cell? ⟨b, o + 1, none⟩ = some (.int .i8 x.2.1) ∧ w.cell? ⟨b, o + 2, none⟩ = some (.int .i8 x.2.2.1) ∧ w.cell? ⟨b, o + 3, none⟩ = some (.int .i8 x.2.2.2)) ∧ (0 ≤ x.1 ∧ x.1 ≤ 255) ∧ (-128 ≤ x.2.1 ∧ x.2.1 ≤ 127) ∧ (-128 ≤ x.2.2.1 ∧ x.2.2.1 ≤ 127) ∧ (-128 ≤ x.2.2.2 ∧ x.2.2.2 ≤ 127)
theorem open_cs {fuel : Nat} {v : Value} {x : DataW H × List MemPlace} (h : DataW.trod enc Tryz.prog w base spare held fuel 26 [v] = some x) : Handed 4 CAt v w := by
  refine open_slice ((0 : Int), (0 : Int), (0 : Int), (0 : Int)) Tryz.underlying26 (by kernel_rfl) (by decide) CAt ?_ h
  intro fuel L x hx
  have c5 : Tryz.prog.cellsOf 5 = 1 := by kernel_rfl
  have c8 : Tryz.prog.cellsOf 24 = 1 := by kernel_rfl
  obtain ⟨ys, m, _, _, _, hyl, hf⟩ := DataW.trod_struct Tryz.underlying48 hx
  have f0 : DataW.trod enc Tryz.prog w base spare held m 5 ((L.drop 0).take 1) = ys[0]? := by rw [← c5]; exact hf 0 _ rfl
  have f1 : DataW.trod enc Tryz.prog w base spare held m 24 ((L.drop 1).take 1) = ys[1]? := by rw [← c8]; exact hf 1 _ rfl
  have f2 : DataW.trod enc Tryz.prog w base spare held m 24 ((L.drop 2).take 1) = ys[2]? := by rw [← c8]; exact hf 2 _ rfl
  have f3 : DataW.trod enc Tryz.prog w base spare held m 24 ((L.drop 3).take 1) = ys[3]? := by rw [← c8]; exact hf 3 _ rfl
  have hyl' : ys.length = 4 := by simpa using hyl
  rw [List.getElem?_eq_getElem (by omega)] at f0 f1 f2 f3
  obtain ⟨k0, e0, _, w0⟩ := DataW.trod_int Tryz.underlying5 f0
  obtain ⟨k1, e1, _, w1⟩ := DataW.trod_int Tryz.underlying24 f1
  obtain ⟨k2, e2, _, w2⟩ := DataW.trod_int Tryz.underlying24 f2
  obtain ⟨k3, e3, _, w3⟩ := DataW.trod_int Tryz.underlying24 f3
  have g0 : L[0]? = some (.int .u8 k0) := by have := congrArg (·[0]?) e0; simpa [List.getElem?_take, List.getElem?_drop] using this
  have g1 : L[1]? = some (.int .i8 k1) := by have := congrArg (·[0]?) e1; simpa [List.getElem?_take, List.getElem?_drop] using this
  have g2 : L[2]? = some (.int .i8 k2) := by have := congrArg (·[0]?) e2; simpa [List.getElem?_take, List.getElem?_drop] using this
  have g3 : L[3]? = some (.int .i8 k3) := by have := congrArg (·[0]?) e3; simpa [List.getElem?_take, List.getElem?_drop] using this
  exact ⟨(k0, k1, k2, k3), fun b o hj => ⟨⟨(hj 0 (by decide)).trans g0, (hj 1 (by decide)).trans g1, (hj 2 (by decide)).trans g2, (hj 3 (by decide)).trans g3⟩, u8wf w0, i8wf w1, i8wf w2, i8wf w3⟩⟩
/-- A function by small numbers, as it is handed in. -/
structure FI where
  p : Int
  r : Int
  hv : Value
  k : Int
  cv : Value
  e : Bool
def FAt (w : World) (b o : Nat) (s : FI) : Prop :=
  (w.cell? ⟨b, o, none⟩ = some (.int .i8 s.p) ∧ w.cell? ⟨b, o + 1, none⟩ = some (.int .i8 s.r) ∧ w.cell? ⟨b, o + 2, none⟩ = some s.hv ∧ w.cell? ⟨b, o + 3, none⟩ = some (.int .u8 s.k) ∧ w.cell? ⟨b, o + 4, none⟩ = some s.cv ∧ w.cell? ⟨b, o + 5, none⟩ = some (.bool s.e)) ∧
  (-128 ≤ s.p ∧ s.p ≤ 127) ∧ (-128 ≤ s.r ∧ s.r ≤ 127) ∧ (0 ≤ s.k ∧ s.k ≤ 255) ∧ Handed 1 I8At s.hv w ∧ Handed 4 CAt s.cv w
theorem slice_one {t e : TypeId} (ht : Tryz.prog.underlying t = some (.slice e)) {fuel : Nat} {cs : List Value} {x : DataW H × List MemPlace} (h : DataW.trod enc Tryz.prog w base spare held fuel t cs = some x) : ∃ v, cs = [v] := by
  rcases DataW.trod_slice ht h with ⟨h0, _⟩ | ⟨a, len, cap, elems, rest, n, _, he, _⟩
  · exact ⟨_, h0⟩
  · exact ⟨_, he⟩
theorem open_fs {fuel : Nat} {v : Value} {x : DataW H × List MemPlace} (h : DataW.trod enc Tryz.prog w base spare held fuel 22 [v] = some x) : Handed 6 FAt v w := by
  refine open_slice (⟨0, 0, .slice none 0 0, 0, .slice none 0 0, false⟩ : FI) Tryz.underlying22 (by kernel_rfl) (by decide) FAt ?_ h
  intro fuel L x hx
  have c5 : Tryz.prog.cellsOf 5 = 1 := by kernel_rfl
  have c8 : Tryz.prog.cellsOf 24 = 1 := by kernel_rfl
  have cs8 : Tryz.prog.cellsOf 25 = 1 := by kernel_rfl
  have csC : Tryz.prog.cellsOf 26 = 1 := by kernel_rfl
  have c4 : Tryz.prog.cellsOf 4 = 1 := by kernel_rfl
  obtain ⟨ys, m, _, _, _, hyl, hf⟩ := DataW.trod_struct Tryz.underlying28 hx
  have f0 : DataW.trod enc Tryz.prog w base spare held m 24 ((L.drop 0).take 1) = ys[0]? := by rw [← c8]; exact hf 0 _ rfl
  have f1 : DataW.trod enc Tryz.prog w base spare held m 24 ((L.drop 1).take 1) = ys[1]? := by rw [← c8]; exact hf 1 _ rfl
  have f2 : DataW.trod enc Tryz.prog w base spare held m 25 ((L.drop 2).take 1) = ys[2]? := by rw [← cs8]; exact hf 2 _ rfl
  have f3 : DataW.trod enc Tryz.prog w base spare held m 5 ((L.drop 3).take 1) = ys[3]? := by rw [← c5]; exact hf 3 _ rfl
  have f4 : DataW.trod enc Tryz.prog w base spare held m 26 ((L.drop 4).take 1) = ys[4]? := by rw [← csC]; exact hf 4 _ rfl
  have f5 : DataW.trod enc Tryz.prog w base spare held m 4 ((L.drop 5).take 1) = ys[5]? := by rw [← c4]; exact hf 5 _ rfl
  have hyl' : ys.length = 6 := by simpa using hyl
  rw [List.getElem?_eq_getElem (by omega)] at f0 f1 f2 f3 f4 f5
  obtain ⟨k0, e0, _, w0⟩ := DataW.trod_int Tryz.underlying24 f0
  obtain ⟨k1, e1, _, w1⟩ := DataW.trod_int Tryz.underlying24 f1
  obtain ⟨v2, e2⟩ := slice_one Tryz.underlying25 f2
  obtain ⟨k3, e3, _, w3⟩ := DataW.trod_int Tryz.underlying5 f3
  obtain ⟨v4, e4⟩ := slice_one Tryz.underlying26 f4
  obtain ⟨k5, e5, _⟩ := DataW.trod_bool Tryz.underlying4 f5
  rw [e2] at f2
  rw [e4] at f4
  have g0 : L[0]? = some (.int .i8 k0) := by have := congrArg (·[0]?) e0; simpa [List.getElem?_take, List.getElem?_drop] using this
  have g1 : L[1]? = some (.int .i8 k1) := by have := congrArg (·[0]?) e1; simpa [List.getElem?_take, List.getElem?_drop] using this
  have g2 : L[2]? = some v2 := by have := congrArg (·[0]?) e2; simpa [List.getElem?_take, List.getElem?_drop] using this
  have g3 : L[3]? = some (.int .u8 k3) := by have := congrArg (·[0]?) e3; simpa [List.getElem?_take, List.getElem?_drop] using this
  have g4 : L[4]? = some v4 := by have := congrArg (·[0]?) e4; simpa [List.getElem?_take, List.getElem?_drop] using this
  have g5 : L[5]? = some (.bool k5) := by have := congrArg (·[0]?) e5; simpa [List.getElem?_take, List.getElem?_drop] using this
  exact ⟨⟨k0, k1, v2, k3, v4, k5⟩, fun b o hj => ⟨⟨(hj 0 (by decide)).trans g0, (hj 1 (by decide)).trans g1, (hj 2 (by decide)).trans g2, (hj 3 (by decide)).trans g3, (hj 4 (by decide)).trans g4, (hj 5 (by decide)).trans g5⟩, i8wf w0, i8wf w1, u8wf w3, open_i8s f2, open_cs f4⟩⟩
end
end Go.Proofs.YtffcdoiikefpcaaGreatDoor.vl
