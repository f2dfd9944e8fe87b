/- The arena's Owner, the rows in the other order. -/
import Derived.Test.YtmmfpkkkpeapeaaGreatDoorAw
import Derived.Deep.RegionLaw
set_option linter.unusedVariables false
set_option linter.unusedSimpArgs false
namespace Go.Proofs.YtmmfpkkkpeapeaaGreatDoor.ar
open Go.RowKit Go.Maps mem rec
attribute [local go_sem ↓] Go.wp_at_zero Go.wp_at_succ
set_option maxRecDepth 100000
set_option maxHeartbeats 400000
theorem setCell_swap (w : World) (p i j : Nat) (h : i ≠ j) (u v : Value) : (w.setCell ⟨p, i, none⟩ u).setCell ⟨p, j, none⟩ v = (w.setCell ⟨p, j, none⟩ v).setCell ⟨p, i, none⟩ u := by
  unfold World.setCell
  congr 1
  apply Array.ext_getElem?
  intro k
  simp only [Array.getElem?_modify]
  by_cases hk : p = k
  · subst hk
    cases w.heap[p]? with
    | none => simp
    | some o => cases o with
      | cells cs t fr => simp [Array.setIfInBounds_comm _ _ h]
      | _ => simp
  · simp [hk]
theorem upd_swap (v : Nat → Value) (i j : Nat) (h : i ≠ j) (a b : Value) : upd (upd v i a) j b = upd (upd v j b) i a := by
  funext k
  unfold upd
  by_cases h1 : k = i <;> by_cases h2 : k = j <;> simp_all
/-- Both rows of the owners appended to, then laid in the struct's cells. -/
theorem Parts.put3 {W w5 w7 w8 : World} {p : Nat} {v : Nat → Value} {A : Ar} {x y : Int} (h : Parts W p v A) {g2 n2 c2 g3 n3 c3 : Nat} {b2 b3 : Value} (e2 : v 3 = b2) (e3 : v 2 = b3)
    (o2 : w5.ownsRow 0 3 1 (.slice (some ⟨g2, 0, none⟩) n2 c2) n2 (A.many.map (Value.int .i64) ++ [.int .i64 x])) (n2e : n2 = A.many.length + 1) (h5 : W.grownBy w5 b2.ownBlock) (at2 : b2.ownBlock = some g2 ∨ W.heap.size ≤ g2) (u7 : Up w5 w7)
    (o3 : w8.ownsRow 0 3 1 (.slice (some ⟨g3, 0, none⟩) n3 c3) n3 (A.quotas.map (Value.int .i64) ++ [.int .i64 y])) (n3e : n3 = A.quotas.length + 1) (h8 : w7.grownBy w8 b3.ownBlock) (at3 : b3.ownBlock = some g3 ∨ w7.heap.size ≤ g3) :
    Parts ((w8.setCell ⟨p, 3, none⟩ (.slice (some ⟨g2, 0, none⟩) n2 c2)).setCell ⟨p, 2, none⟩ (.slice (some ⟨g3, 0, none⟩) n3 c3)) p (upd (upd v 3 (.slice (some ⟨g2, 0, none⟩) n2 c2)) 2 (.slice (some ⟨g3, 0, none⟩) n3 c3)) { A with many := A.many ++ [x], quotas := A.quotas ++ [y] } ∧
    Chg (foot p v) W ((w8.setCell ⟨p, 3, none⟩ (.slice (some ⟨g2, 0, none⟩) n2 c2)).setCell ⟨p, 2, none⟩ (.slice (some ⟨g3, 0, none⟩) n3 c3)) ∧
    ∀ b ∈ foot p (upd (upd v 3 (.slice (some ⟨g2, 0, none⟩) n2 c2)) 2 (.slice (some ⟨g3, 0, none⟩) n3 c3)), b ∈ foot p v ∨ W.heap.size ≤ b := by
  subst e2 e3 n2e n3e
  obtain ⟨p1, k1, s1⟩ := h.put (A' := { A with many := A.many ++ [x] }) 3 (by omega) h5 (.slice (some ⟨g2, 0, none⟩) (A.many.length + 1) c2) g2 rfl at2
    (by show w5.ownsRow 0 _ 1 _ (A.many ++ [x]).length ((A.many ++ [x]).map (Value.int .i64)); rw [List.length_append, List.map_append]; exact o2) (fun j hj hne => by rcases (by omega : j = 0 ∨ j = 1 ∨ j = 2) with rfl | rfl | rfl <;> exact ⟨rfl, rfl⟩)
  have hp5 : p < w5.heap.size := Nat.lt_of_lt_of_le h.hd.lt h5.size
  have g57 : w5.grownBy w8 (v 2).ownBlock := by
    have g0 : w5.grownBy w7 (v 2).ownBlock := ⟨u7.os, u7.tape, u7.output, u7.size, fun k hk _ => u7.block k hk⟩
    exact g0.trans h8
  have g58 := grown_setCell (i := 3) g57 hp5 (fun e => h.pp 2 (by omega) e.symm) (.slice (some ⟨g2, 0, none⟩) (A.many.length + 1) c2)
  have hg3p : g3 ≠ p := by
    rcases at3 with h1 | h1
    · intro e; exact h.pp 2 (by omega) (by rw [h1, e])
    · have := u7.size; omega
  obtain ⟨p2, k2, s2⟩ := p1.put (A' := { A with many := A.many ++ [x], quotas := A.quotas ++ [y] }) 2 (by omega) (w1 := w8.setCell ⟨p, 3, none⟩ (.slice (some ⟨g2, 0, none⟩) (A.many.length + 1) c2)) (by rw [upd_other v _ (by decide)]; exact g58) (.slice (some ⟨g3, 0, none⟩) (A.quotas.length + 1) c3) g3 rfl
    (by rw [upd_other v _ (by decide)]; rcases at3 with h1 | h1; exact .inl h1; exact .inr (by have := u7.size; simp [World.setCell]; omega))
    (by
      show World.ownsRow _ 0 _ 1 _ (A.quotas ++ [y]).length ((A.quotas ++ [y]).map (Value.int .i64))
      rw [List.length_append, List.map_append]
      exact owns_chg o3 ((Chg.refl [p] w8).setCell (p := ⟨p, 3, none⟩) (.inl (by simp)) _) (fun b hb => by cases hb; simpa using hg3p))
    (fun j hj hne => by rcases (by omega : j = 0 ∨ j = 1 ∨ j = 3) with rfl | rfl | rfl <;> exact ⟨rfl, rfl⟩)
  refine ⟨p2, k1.trans k2 s1, fun b hb => ?_⟩
  rcases s2 b hb with h1 | h1
  · exact s1 b h1
  · exact .inr (by have := h5.size; simp [World.setCell] at h1; omega)
theorem close2 {H1 H2 : Nat} {w W1 w5 w7 w8 : World} {p : Nat} {v : Nat → Value} {A : Ar} {x y : Int} (h : Parts w p v A) (u1 : Up w W1) {g2 n2 c2 g3 n3 c3 : Nat} {b2 b3 : Value} (e2 : v 2 = b2) (e3 : v 3 = b3)
    (o2 : w5.ownsRow 0 3 1 (.slice (some ⟨g2, 0, none⟩) n2 c2) n2 (A.quotas.map (Value.int .i64) ++ [.int .i64 x])) (n2e : n2 = A.quotas.length + 1) (h5 : W1.grownBy w5 b2.ownBlock) (at2 : b2.ownBlock = some g2 ∨ g2 = H1) (hH1 : W1.heap.size = H1) (u7 : Up w5 w7)
    (o3 : w8.ownsRow 0 3 1 (.slice (some ⟨g3, 0, none⟩) n3 c3) n3 (A.many.map (Value.int .i64) ++ [.int .i64 y])) (n3e : n3 = A.many.length + 1) (h8 : w7.grownBy w8 b3.ownBlock) (at3 : b3.ownBlock = some g3 ∨ g3 = H2) (hH2 : w7.heap.size = H2) :
    ∃ v', Parts ((w8.setCell ⟨p, 2, none⟩ (.slice (some ⟨g2, 0, none⟩) n2 c2)).setCell ⟨p, 3, none⟩ (.slice (some ⟨g3, 0, none⟩) n3 c3)) p v' { A with quotas := A.quotas ++ [x], many := A.many ++ [y] } ∧
    Chg (foot p v) w ((w8.setCell ⟨p, 2, none⟩ (.slice (some ⟨g2, 0, none⟩) n2 c2)).setCell ⟨p, 3, none⟩ (.slice (some ⟨g3, 0, none⟩) n3 c3)) ∧
    ∀ b ∈ foot p v', b ∈ foot p v ∨ w.heap.size ≤ b := by
  subst hH1 hH2
  obtain ⟨p2, k2, s2⟩ := Parts.put2 (h.up u1) e2 e3 o2 n2e h5 (at2.imp id (fun e => Nat.le_of_eq e.symm)) u7 o3 n3e h8 (at3.imp id (fun e => Nat.le_of_eq e.symm))
  exact ⟨_, p2, (⟨u1.os, u1.tape, u1.output, u1.size, fun k hk _ => u1.block k hk⟩ : Chg (foot p v) w W1).trans k2 (fun b hb => .inl hb), fun b hb => (s2 b hb).imp id (fun hk => Nat.le_trans u1.size hk)⟩
theorem close3 {H1 H2 : Nat} {w W1 w5 w7 w8 : World} {p : Nat} {v : Nat → Value} {A : Ar} {x y : Int} (h : Parts w p v A) (u1 : Up w W1) {g2 n2 c2 g3 n3 c3 : Nat} {b2 b3 : Value} (e2 : v 3 = b2) (e3 : v 2 = b3)
    (o2 : w5.ownsRow 0 3 1 (.slice (some ⟨g2, 0, none⟩) n2 c2) n2 (A.many.map (Value.int .i64) ++ [.int .i64 x])) (n2e : n2 = A.many.length + 1) (h5 : W1.grownBy w5 b2.ownBlock) (at2 : b2.ownBlock = some g2 ∨ g2 = H1) (hH1 : W1.heap.size = H1) (u7 : Up w5 w7)
    (o3 : w8.ownsRow 0 3 1 (.slice (some ⟨g3, 0, none⟩) n3 c3) n3 (A.quotas.map (Value.int .i64) ++ [.int .i64 y])) (n3e : n3 = A.quotas.length + 1) (h8 : w7.grownBy w8 b3.ownBlock) (at3 : b3.ownBlock = some g3 ∨ g3 = H2) (hH2 : w7.heap.size = H2) :
    ∃ v', Parts ((w8.setCell ⟨p, 2, none⟩ (.slice (some ⟨g3, 0, none⟩) n3 c3)).setCell ⟨p, 3, none⟩ (.slice (some ⟨g2, 0, none⟩) n2 c2)) p v' { A with many := A.many ++ [x], quotas := A.quotas ++ [y] } ∧
    Chg (foot p v) w ((w8.setCell ⟨p, 2, none⟩ (.slice (some ⟨g3, 0, none⟩) n3 c3)).setCell ⟨p, 3, none⟩ (.slice (some ⟨g2, 0, none⟩) n2 c2)) ∧
    ∀ b ∈ foot p v', b ∈ foot p v ∨ w.heap.size ≤ b := by
  subst hH1 hH2
  obtain ⟨p2, k2, s2⟩ := Parts.put3 (h.up u1) e2 e3 o2 n2e h5 (at2.imp id (fun e => Nat.le_of_eq e.symm)) u7 o3 n3e h8 (at3.imp id (fun e => Nat.le_of_eq e.symm))
  rw [setCell_swap _ _ _ _ (by decide)] at p2 k2
  exact ⟨_, p2, (⟨u1.os, u1.tape, u1.output, u1.size, fun k hk _ => u1.block k hk⟩ : Chg (foot p v) w W1).trans k2 (fun b hb => .inl hb), fun b hb => (s2 b hb).imp id (fun hk => Nat.le_trans u1.size hk)⟩
end Go.Proofs.YtmmfpkkkpeapeaaGreatDoor.ar
