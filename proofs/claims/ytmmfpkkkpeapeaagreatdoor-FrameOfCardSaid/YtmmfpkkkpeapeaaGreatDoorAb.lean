/- Put where there is room, by Room and Quo. -/
import Derived.Test.YtmmfpkkkpeapeaaGreatDoorAa
import Derived.Test.YtmmfpkkkpeapeaaGreatDoorAt
set_option linter.unusedVariables false
namespace Go.Proofs.YtmmfpkkkpeapeaaGreatDoor.ar
open Go.RowKit Go.Maps mem rec
set_option maxHeartbeats 400000
/-- The owner n may have k objects more. -/
def Quo (A : Ar) (n k : Nat) : Prop := ∃ q m : Int, A.quotas[n]? = some q ∧ A.many[n]? = some m ∧ 0 ≤ m ∧ m + k ≤ q ∧ q ≤ 1000000
theorem Quo.add {A : Ar} {n k : Nat} (h : Quo A n (k + 1)) (o : Ob) (hn : o.owner = n) : Quo (A.add o) n k := by
  obtain ⟨q, m, h1, h2, h3, h4, h5⟩ := h
  refine ⟨q, m + 1, h1, ?_, by omega, by omega, h5⟩
  show (A.many.set o.owner.toNat (A.many.getD o.owner.toNat 0 + 1))[n]? = _
  have e : o.owner.toNat = n := by rw [hn]; rfl
  rw [e, List.getElem?_set_self (List.getElem?_eq_some_iff.1 h2).1, List.getD_eq_getElem?_getD, h2]
  rfl
theorem Quo.other {A : Ar} {n k j : Nat} (h : Quo A n k) (o : Ob) (hn : o.owner = j) (hj : j ≠ n) : Quo (A.add o) n k := by
  obtain ⟨q, m, h1, h2, h3, h4, h5⟩ := h
  refine ⟨q, m, h1, ?_, h3, h4, h5⟩
  show (A.many.set o.owner.toNat (A.many.getD o.owner.toNat 0 + 1))[n]? = _
  have e : o.owner.toNat = j := by rw [hn]; rfl
  rw [e, List.getElem?_set_ne hj]
  exact h2
theorem put_k (w : World) (p : Nat) (v : Nat → Value) (A : Ar) (o : Ob) (h : Parts w p v A) (n j k : Nat) (hn : o.owner = n) (hR : Room A (k + 1)) (hQ : Quo A n (j + 1)) :
    Calls Tryz.prog 27 #[.pointer (some ⟨p, 0, none⟩), .agg o.cells.toArray] w fun e w' => ∃ v', e = .returned (.tuple #[.int .u64 A.name, .int .i64 0]) ∧ Parts w' p v' (A.add o) ∧ Chg (foot p v) w w' ∧ ∀ b ∈ foot p v', b ∈ foot p v ∨ w.heap.size ≤ b := by
  obtain ⟨q, m, h1, h2, h3, h4, h5⟩ := hQ
  have hs := hR.sl
  have hf := hR.fl
  exact ar.put_room w p v A o h n q m hn h1 h2 (by omega) h5 h3 (by omega) (fun s hs => by have := hR.us s hs; omega) (fun i hi => by obtain ⟨s, hs, -⟩ := hR.fr i hi; exact (List.getElem?_eq_some_iff.1 hs).1) (by omega)
theorem seal_k (w : World) (p r : Nat) (v : Nat → Value) (A : Ar) (o : Ob) (c : V3) (h : Parts w p v A) (hr : r < 18446744073709551616) (hf : A.find r = some o) (hk : o.kind = 3) (n j k : Nat) (hn : o.owner = n) (hR : Room A (k + 1)) (hQ : Quo A n (j + 1)) :
    Calls Tryz.prog 49 #[.pointer (some ⟨p, 0, none⟩), .int .u64 r, val c] w fun e w' => ∃ v', e = .returned (.tuple #[val (5, (A.name : Int), ⟨#[]⟩), .int .i64 0]) ∧ Parts w' p v' (A.add (boxOb n o.brand c)) ∧ Chg (foot p v) w w' ∧ ∀ b ∈ foot p v', b ∈ foot p v ∨ w.heap.size ≤ b := by
  obtain ⟨q, m, h1, h2, h3, h4, h5⟩ := hQ
  have hs := hR.sl
  have hf' := hR.fl
  exact seal_room w p r v A o c h hr hf hk n q m hn h1 h2 (by omega) h5 h3 (by omega) (fun s hs => by have := hR.us s hs; omega) (fun i hi => by obtain ⟨s, hs, -⟩ := hR.fr i hi; exact (List.getElem?_eq_some_iff.1 hs).1) (by omega) (name_lt hR)
/-- The bare arena with two owners of 100. -/
theorem room_two : Room ⟨[], [], [100, 100], [0, 0]⟩ 999 := ⟨by decide, by simp, by simp, by simp, by decide⟩
theorem quo_two (n : Nat) (hn : n < 2) : Quo ⟨[], [], [100, 100], [0, 0]⟩ n 100 := by
  rcases (by omega : n = 0 ∨ n = 1) with rfl | rfl <;> exact ⟨100, 0, rfl, rfl, by decide, by decide, by decide⟩
end Go.Proofs.YtmmfpkkkpeapeaaGreatDoor.ar
