/- Drawn regions whose last operations store: the condition S is asked only behind the operations below a bound m; those from m on wait for every operation that is taken first. (3 texts in one.) -/
import Derived.Test.YtmmfpkkkpeapeaaGreatDoorPsA
import Derived.Deep.RegionLaw
import Derived.Deep.RegionHeld3

/- The arena's Owner. -/
set_option linter.unusedVariables false
set_option linter.unusedSimpArgs false
namespace Go.Proofs.YtmmfpkkkpeapeaaGreatDoor.ar
open Go.RowKit Go.Maps mem rec
attribute [local go_sem ↓] Go.wp_at_zero Go.wp_at_succ
set_option maxRecDepth 100000
set_option maxHeartbeats 400000
theorem grown_setCell {w w' : World} {row : Option Nat} (h : w.grownBy w' row) {p i : Nat} (hp : p < w.heap.size) (hne : some p ≠ row) (u : Value) : (w.setCell ⟨p, i, none⟩ u).grownBy (w'.setCell ⟨p, i, none⟩ u) row := by
  refine ⟨h.os, h.tape, h.output, by simpa [World.setCell] using h.size, fun k hk hn => ?_⟩
  have hk' : k < w.heap.size := by simpa [World.setCell] using hk
  have e := h.block k hk' hn
  by_cases hkp : k = p
  · subst hkp
    simp only [World.setCell, Array.getElem?_modify, e]
  · rw [Below.heap_setCell _ _ _ _ (by simpa using hkp), Below.heap_setCell _ _ _ _ (by simpa using hkp)]
    exact e
/-- Both rows of the owners appended to, then laid in the struct's cells. -/
theorem Parts.put2 {W w5 w7 w8 : World} {p : Nat} {v : Nat → Value} {A : Ar} {x y : Int} (h : Parts W p v A) {g2 n2 c2 g3 n3 c3 : Nat} {b2 b3 : Value} (e2 : v 2 = b2) (e3 : v 3 = b3)
    (o2 : w5.ownsRow 0 3 1 (.slice (some ⟨g2, 0, none⟩) n2 c2) n2 (A.quotas.map (Value.int .i64) ++ [.int .i64 x])) (n2e : n2 = A.quotas.length + 1) (h5 : W.grownBy w5 b2.ownBlock) (at2 : b2.ownBlock = some g2 ∨ W.heap.size ≤ g2) (u7 : Up w5 w7)
    (o3 : w8.ownsRow 0 3 1 (.slice (some ⟨g3, 0, none⟩) n3 c3) n3 (A.many.map (Value.int .i64) ++ [.int .i64 y])) (n3e : n3 = A.many.length + 1) (h8 : w7.grownBy w8 b3.ownBlock) (at3 : b3.ownBlock = some g3 ∨ w7.heap.size ≤ g3) :
    Parts ((w8.setCell ⟨p, 2, none⟩ (.slice (some ⟨g2, 0, none⟩) n2 c2)).setCell ⟨p, 3, none⟩ (.slice (some ⟨g3, 0, none⟩) n3 c3)) p (upd (upd v 2 (.slice (some ⟨g2, 0, none⟩) n2 c2)) 3 (.slice (some ⟨g3, 0, none⟩) n3 c3)) { A with quotas := A.quotas ++ [x], many := A.many ++ [y] } ∧
    Chg (foot p v) W ((w8.setCell ⟨p, 2, none⟩ (.slice (some ⟨g2, 0, none⟩) n2 c2)).setCell ⟨p, 3, none⟩ (.slice (some ⟨g3, 0, none⟩) n3 c3)) ∧
    ∀ b ∈ foot p (upd (upd v 2 (.slice (some ⟨g2, 0, none⟩) n2 c2)) 3 (.slice (some ⟨g3, 0, none⟩) n3 c3)), b ∈ foot p v ∨ W.heap.size ≤ b := by
  subst e2 e3 n2e n3e
  obtain ⟨p1, k1, s1⟩ := h.put (A' := { A with quotas := A.quotas ++ [x] }) 2 (by omega) h5 (.slice (some ⟨g2, 0, none⟩) (A.quotas.length + 1) c2) g2 rfl at2
    (by show w5.ownsRow 0 _ 1 _ (A.quotas ++ [x]).length ((A.quotas ++ [x]).map (Value.int .i64)); rw [List.length_append, List.map_append]; exact o2) (fun j hj hne => by rcases (by omega : j = 0 ∨ j = 1 ∨ j = 3) with rfl | rfl | rfl <;> exact ⟨rfl, rfl⟩)
  have hp5 : p < w5.heap.size := Nat.lt_of_lt_of_le h.hd.lt h5.size
  have g57 : w5.grownBy w8 (v 3).ownBlock := by
    have g0 : w5.grownBy w7 (v 3).ownBlock := ⟨u7.os, u7.tape, u7.output, u7.size, fun k hk _ => u7.block k hk⟩
    exact g0.trans h8
  have g58 := grown_setCell (i := 2) g57 hp5 (fun e => h.pp 3 (by omega) e.symm) (.slice (some ⟨g2, 0, none⟩) (A.quotas.length + 1) c2)
  have hg3p : g3 ≠ p := by
    rcases at3 with h1 | h1
    · intro e; exact h.pp 3 (by omega) (by rw [h1, e])
    · have := u7.size; omega
  obtain ⟨p2, k2, s2⟩ := p1.put (A' := { A with quotas := A.quotas ++ [x], many := A.many ++ [y] }) 3 (by omega) (w1 := w8.setCell ⟨p, 2, none⟩ (.slice (some ⟨g2, 0, none⟩) (A.quotas.length + 1) c2)) (by rw [upd_other v _ (by decide)]; exact g58) (.slice (some ⟨g3, 0, none⟩) (A.many.length + 1) c3) g3 rfl
    (by rw [upd_other v _ (by decide)]; rcases at3 with h1 | h1; exact .inl h1; exact .inr (by have := u7.size; simp [World.setCell]; omega))
    (by
      show World.ownsRow _ 0 _ 1 _ (A.many ++ [y]).length ((A.many ++ [y]).map (Value.int .i64))
      rw [List.length_append, List.map_append]
      exact owns_chg o3 ((Chg.refl [p] w8).setCell (p := ⟨p, 2, none⟩) (.inl (by simp)) _) (fun b hb => by cases hb; simpa using hg3p))
    (fun j hj hne => by rcases (by omega : j = 0 ∨ j = 1 ∨ j = 2) with rfl | rfl | rfl <;> exact ⟨rfl, rfl⟩)
  refine ⟨p2, k1.trans k2 s1, fun b hb => ?_⟩
  rcases s2 b hb with h1 | h1
  · exact s1 b h1
  · exact .inr (by have := h5.size; simp [World.setCell] at h1; omega)
end Go.Proofs.YtmmfpkkkpeapeaaGreatDoor.ar

/- The arena's Owner, the rows in the other order. -/
set_option linter.unusedVariables false
set_option linter.unusedSimpArgs false
namespace Go.Proofs.YtmmfpkkkpeapeaaGreatDoor.ar
open Go.RowKit Go.Maps mem rec
attribute [local go_sem ↓] Go.wp_at_zero Go.wp_at_succ
set_option maxRecDepth 100000
set_option maxHeartbeats 400000
theorem setCell_swap (w : World) (p i j : Nat) (h : i ≠ j) (u v : Value) : (w.setCell ⟨p, i, none⟩ u).setCell ⟨p, j, none⟩ v = (w.setCell ⟨p, j, none⟩ v).setCell ⟨p, i, none⟩ u := by
  unfold World.setCell
  congr 1
  apply Array.ext_getElem?
  intro k
  simp only [Array.getElem?_modify]
  by_cases hk : p = k
  · subst hk
    cases w.heap[p]? with
    | none => simp
    | some o => cases o with
      | cells cs t fr => simp [Array.setIfInBounds_comm _ _ h]
      | _ => simp
  · simp [hk]
theorem upd_swap (v : Nat → Value) (i j : Nat) (h : i ≠ j) (a b : Value) : upd (upd v i a) j b = upd (upd v j b) i a := by
  funext k
  unfold upd
  by_cases h1 : k = i <;> by_cases h2 : k = j <;> simp_all
/-- Both rows of the owners appended to, then laid in the struct's cells. -/
theorem Parts.put3 {W w5 w7 w8 : World} {p : Nat} {v : Nat → Value} {A : Ar} {x y : Int} (h : Parts W p v A) {g2 n2 c2 g3 n3 c3 : Nat} {b2 b3 : Value} (e2 : v 3 = b2) (e3 : v 2 = b3)
    (o2 : w5.ownsRow 0 3 1 (.slice (some ⟨g2, 0, none⟩) n2 c2) n2 (A.many.map (Value.int .i64) ++ [.int .i64 x])) (n2e : n2 = A.many.length + 1) (h5 : W.grownBy w5 b2.ownBlock) (at2 : b2.ownBlock = some g2 ∨ W.heap.size ≤ g2) (u7 : Up w5 w7)
    (o3 : w8.ownsRow 0 3 1 (.slice (some ⟨g3, 0, none⟩) n3 c3) n3 (A.quotas.map (Value.int .i64) ++ [.int .i64 y])) (n3e : n3 = A.quotas.length + 1) (h8 : w7.grownBy w8 b3.ownBlock) (at3 : b3.ownBlock = some g3 ∨ w7.heap.size ≤ g3) :
    Parts ((w8.setCell ⟨p, 3, none⟩ (.slice (some ⟨g2, 0, none⟩) n2 c2)).setCell ⟨p, 2, none⟩ (.slice (some ⟨g3, 0, none⟩) n3 c3)) p (upd (upd v 3 (.slice (some ⟨g2, 0, none⟩) n2 c2)) 2 (.slice (some ⟨g3, 0, none⟩) n3 c3)) { A with many := A.many ++ [x], quotas := A.quotas ++ [y] } ∧
    Chg (foot p v) W ((w8.setCell ⟨p, 3, none⟩ (.slice (some ⟨g2, 0, none⟩) n2 c2)).setCell ⟨p, 2, none⟩ (.slice (some ⟨g3, 0, none⟩) n3 c3)) ∧
    ∀ b ∈ foot p (upd (upd v 3 (.slice (some ⟨g2, 0, none⟩) n2 c2)) 2 (.slice (some ⟨g3, 0, none⟩) n3 c3)), b ∈ foot p v ∨ W.heap.size ≤ b := by
  subst e2 e3 n2e n3e
  obtain ⟨p1, k1, s1⟩ := h.put (A' := { A with many := A.many ++ [x] }) 3 (by omega) h5 (.slice (some ⟨g2, 0, none⟩) (A.many.length + 1) c2) g2 rfl at2
    (by show w5.ownsRow 0 _ 1 _ (A.many ++ [x]).length ((A.many ++ [x]).map (Value.int .i64)); rw [List.length_append, List.map_append]; exact o2) (fun j hj hne => by rcases (by omega : j = 0 ∨ j = 1 ∨ j = 2) with rfl | rfl | rfl <;> exact ⟨rfl, rfl⟩)
  have hp5 : p < w5.heap.size := Nat.lt_of_lt_of_le h.hd.lt h5.size
  have g57 : w5.grownBy w8 (v 2).ownBlock := by
    have g0 : w5.grownBy w7 (v 2).ownBlock := ⟨u7.os, u7.tape, u7.output, u7.size, fun k hk _ => u7.block k hk⟩
    exact g0.trans h8
  have g58 := grown_setCell (i := 3) g57 hp5 (fun e => h.pp 2 (by omega) e.symm) (.slice (some ⟨g2, 0, none⟩) (A.many.length + 1) c2)
  have hg3p : g3 ≠ p := by
    rcases at3 with h1 | h1
    · intro e; exact h.pp 2 (by omega) (by rw [h1, e])
    · have := u7.size; omega
  obtain ⟨p2, k2, s2⟩ := p1.put (A' := { A with many := A.many ++ [x], quotas := A.quotas ++ [y] }) 2 (by omega) (w1 := w8.setCell ⟨p, 3, none⟩ (.slice (some ⟨g2, 0, none⟩) (A.many.length + 1) c2)) (by rw [upd_other v _ (by decide)]; exact g58) (.slice (some ⟨g3, 0, none⟩) (A.quotas.length + 1) c3) g3 rfl
    (by rw [upd_other v _ (by decide)]; rcases at3 with h1 | h1; exact .inl h1; exact .inr (by have := u7.size; simp [World.setCell]; omega))
    (by
      show World.ownsRow _ 0 _ 1 _ (A.quotas ++ [y]).length ((A.quotas ++ [y]).map (Value.int .i64))
      rw [List.length_append, List.map_append]
      exact owns_chg o3 ((Chg.refl [p] w8).setCell (p := ⟨p, 3, none⟩) (.inl (by simp)) _) (fun b hb => by cases hb; simpa using hg3p))
    (fun j hj hne => by rcases (by omega : j = 0 ∨ j = 1 ∨ j = 3) with rfl | rfl | rfl <;> exact ⟨rfl, rfl⟩)
  refine ⟨p2, k1.trans k2 s1, fun b hb => ?_⟩
  rcases s2 b hb with h1 | h1
  · exact s1 b h1
  · exact .inr (by have := h5.size; simp [World.setCell] at h1; omega)
theorem close2 {H1 H2 : Nat} {w W1 w5 w7 w8 : World} {p : Nat} {v : Nat → Value} {A : Ar} {x y : Int} (h : Parts w p v A) (u1 : Up w W1) {g2 n2 c2 g3 n3 c3 : Nat} {b2 b3 : Value} (e2 : v 2 = b2) (e3 : v 3 = b3)
    (o2 : w5.ownsRow 0 3 1 (.slice (some ⟨g2, 0, none⟩) n2 c2) n2 (A.quotas.map (Value.int .i64) ++ [.int .i64 x])) (n2e : n2 = A.quotas.length + 1) (h5 : W1.grownBy w5 b2.ownBlock) (at2 : b2.ownBlock = some g2 ∨ g2 = H1) (hH1 : W1.heap.size = H1) (u7 : Up w5 w7)
    (o3 : w8.ownsRow 0 3 1 (.slice (some ⟨g3, 0, none⟩) n3 c3) n3 (A.many.map (Value.int .i64) ++ [.int .i64 y])) (n3e : n3 = A.many.length + 1) (h8 : w7.grownBy w8 b3.ownBlock) (at3 : b3.ownBlock = some g3 ∨ g3 = H2) (hH2 : w7.heap.size = H2) :
    ∃ v', Parts ((w8.setCell ⟨p, 2, none⟩ (.slice (some ⟨g2, 0, none⟩) n2 c2)).setCell ⟨p, 3, none⟩ (.slice (some ⟨g3, 0, none⟩) n3 c3)) p v' { A with quotas := A.quotas ++ [x], many := A.many ++ [y] } ∧
    Chg (foot p v) w ((w8.setCell ⟨p, 2, none⟩ (.slice (some ⟨g2, 0, none⟩) n2 c2)).setCell ⟨p, 3, none⟩ (.slice (some ⟨g3, 0, none⟩) n3 c3)) ∧
    ∀ b ∈ foot p v', b ∈ foot p v ∨ w.heap.size ≤ b := by
  subst hH1 hH2
  obtain ⟨p2, k2, s2⟩ := Parts.put2 (h.up u1) e2 e3 o2 n2e h5 (at2.imp id (fun e => Nat.le_of_eq e.symm)) u7 o3 n3e h8 (at3.imp id (fun e => Nat.le_of_eq e.symm))
  exact ⟨_, p2, (⟨u1.os, u1.tape, u1.output, u1.size, fun k hk _ => u1.block k hk⟩ : Chg (foot p v) w W1).trans k2 (fun b hb => .inl hb), fun b hb => (s2 b hb).imp id (fun hk => Nat.le_trans u1.size hk)⟩
theorem close3 {H1 H2 : Nat} {w W1 w5 w7 w8 : World} {p : Nat} {v : Nat → Value} {A : Ar} {x y : Int} (h : Parts w p v A) (u1 : Up w W1) {g2 n2 c2 g3 n3 c3 : Nat} {b2 b3 : Value} (e2 : v 3 = b2) (e3 : v 2 = b3)
    (o2 : w5.ownsRow 0 3 1 (.slice (some ⟨g2, 0, none⟩) n2 c2) n2 (A.many.map (Value.int .i64) ++ [.int .i64 x])) (n2e : n2 = A.many.length + 1) (h5 : W1.grownBy w5 b2.ownBlock) (at2 : b2.ownBlock = some g2 ∨ g2 = H1) (hH1 : W1.heap.size = H1) (u7 : Up w5 w7)
    (o3 : w8.ownsRow 0 3 1 (.slice (some ⟨g3, 0, none⟩) n3 c3) n3 (A.quotas.map (Value.int .i64) ++ [.int .i64 y])) (n3e : n3 = A.quotas.length + 1) (h8 : w7.grownBy w8 b3.ownBlock) (at3 : b3.ownBlock = some g3 ∨ g3 = H2) (hH2 : w7.heap.size = H2) :
    ∃ v', Parts ((w8.setCell ⟨p, 2, none⟩ (.slice (some ⟨g3, 0, none⟩) n3 c3)).setCell ⟨p, 3, none⟩ (.slice (some ⟨g2, 0, none⟩) n2 c2)) p v' { A with many := A.many ++ [x], quotas := A.quotas ++ [y] } ∧
    Chg (foot p v) w ((w8.setCell ⟨p, 2, none⟩ (.slice (some ⟨g3, 0, none⟩) n3 c3)).setCell ⟨p, 3, none⟩ (.slice (some ⟨g2, 0, none⟩) n2 c2)) ∧
    ∀ b ∈ foot p v', b ∈ foot p v ∨ w.heap.size ≤ b := by
  subst hH1 hH2
  obtain ⟨p2, k2, s2⟩ := Parts.put3 (h.up u1) e2 e3 o2 n2e h5 (at2.imp id (fun e => Nat.le_of_eq e.symm)) u7 o3 n3e h8 (at3.imp id (fun e => Nat.le_of_eq e.symm))
  rw [setCell_swap _ _ _ _ (by decide)] at p2 k2
  exact ⟨_, p2, (⟨u1.os, u1.tape, u1.output, u1.size, fun k hk _ => u1.block k hk⟩ : Chg (foot p v) w W1).trans k2 (fun b hb => .inl hb), fun b hb => (s2 b hb).imp id (fun hk => Nat.le_trans u1.size hk)⟩
end Go.Proofs.YtmmfpkkkpeapeaaGreatDoor.ar

/- Drawn regions whose last operations store: the condition S is asked only behind the operations below a bound m; those from m on wait for every operation that is taken first. -/
set_option linter.unusedVariables false
namespace Go.Proofs.YtmmfpkkkpeapeaaGreatDoor
open Go
section
variable {P : Program} {ops : Array Oper} {Q : Exit → Act → World → Prop} {md : Region.Mode} {S : World → Prop} {m : Nat}

/-- Every order from here on; behind an operation below m the condition holds. -/
def AnyT (P : Program) (md : Region.Mode) (ops : Array Oper) (Q : Exit → Act → World → Prop) (S : World → Prop) (m : Nat) : Nat → Array Bool → Act → World → Prop
  | 0, done, a, w => Region.ready md ops done = [] ∧ Q .normal a w
  | n + 1, done, a, w => (Region.ready md ops done = [] → Q .normal a w) ∧
      ∀ i ∈ Region.ready md ops done, wpOp P ops Q i (fun a' w' => (i < m → S w → S w') ∧ AnyT P md ops Q S m n (done.setIfInBounds i true) a' w') a w

theorem AnyT.any : ∀ (n : Nat) (done : Array Bool) (a : Act) (w : World), AnyT P md ops Q S m n done a w → wpAny P md ops Q n done a w
  | 0, _, _, _, h => h
  | n + 1, _, _, _, h => ⟨h.1, fun i hi => wpOp_mono (fun a' w' h' => AnyT.any n _ a' w' h'.2) (h.2 i hi)⟩

/-- Every operation from m on waits for i. -/
def lateWait (md : Region.Mode) (ops : Array Oper) (m i : Nat) : Bool :=
  (List.range ops.size).all fun j => decide (j < m) || (match ops[j]? with | some o => o.after.any (fun e => Region.binds md e && e.on == i) | none => true)

theorem lateWait_out {i j : Nat} {o : Oper} (h : lateWait md ops m i = true) (hj : ops[j]? = some o) (hno : ∀ e ∈ o.after, Region.binds md e = true → e.on ≠ i) : j < m := by
  simp only [lateWait, List.all_eq_true, List.mem_range, Bool.or_eq_true, decide_eq_true_eq] at h
  rcases h j (Array.getElem?_eq_some_iff.1 hj).1 with h | h
  · exact h
  · rw [hj] at h
    obtain ⟨e, he, hb⟩ := Array.any_eq_true'.1 h
    simp only [Bool.and_eq_true, beq_iff_eq] at hb
    exact absurd hb.2 (hno e he hb.1)

theorem AnyT.first {T : World → Prop} {i : Nat} {oi : Oper} {v : Value} (hi : ops[i]? = some oi) (hsel : ∀ (j : Nat) (o : Oper) cs b, ops[j]? = some o → o.op ≠ .select cs b)
    (hQ : ∀ c a w, Q (.panic c) (a.put oi.dst v) w → Q (.panic c) a w)
    (hl : ∀ j o, ops[j]? = some o → (∀ e ∈ o.after, Region.binds md e = true → e.on ≠ i) → ∀ w w', (j < m → S w → S w') → T w → T w') :
    ∀ (n : Nat) (done : Array Bool) (a : Act) (w : World),
      (∀ j oj, ops[j]? = some oj → j ≠ i → done.getD j true = false → (∀ e ∈ oj.after, Region.binds md e = true → e.on ≠ i) → oi.apart ops oj = true) →
      i ∈ Region.ready md ops done → YieldsIf P ops T oi v a → T w →
      AnyT P md ops Q S m n (done.setIfInBounds i true) (a.put oi.dst v) w → AnyT P md ops Q S m (n + 1) done a w := by
  intro n
  induction n with
  | zero =>
    intro done a w _ hr hy hS H
    refine ⟨fun h => (by rw [h] at hr; cases hr), fun j hj => ?_⟩
    rcases Nat.decEq j i with hji | hji
    · have := ready_mono hj hji
      rw [H.1] at this
      cases this
    · subst hji; exact hy.wpOp hi hS ⟨fun _ h => h, H⟩
  | succ n ih =>
    intro done a w hfree hr hy hS H
    refine ⟨fun h => (by rw [h] at hr; cases hr), fun j hj => ?_⟩
    rcases Nat.decEq j i with hji | hji
    · have h1 := H.2 j (ready_mono hj hji)
      obtain ⟨hjun, oj, hoj, hall⟩ := mem_ready.1 hj
      have hnot : ∀ e ∈ oj.after, Region.binds md e = true → e.on ≠ i := fun e he hb heq => by
        have g1 := hall e he hb
        have g0 := (mem_ready.1 hr).1
        rw [heq] at g1
        rcases Nat.lt_or_ge i done.size with h' | h'
        · simp [h'] at g0 g1; rw [g0] at g1; cases g1
        · simp [Array.getElem?_eq_none h'] at g1
      have h2 := wpOp_putIf hoj (hfree j oj hoj hji hjun hnot) (fun cs b => hsel i oi cs b hi) (fun cs b => hsel j oj cs b hoj) hQ hy h1
      refine wpOp_mono (fun a' w' h3 => ⟨h3.2.1, ih (done.setIfInBounds j true) a' w' ?_ (ready_mono hr (Ne.symm hji)) h3.1 (hl j oj hoj hnot _ _ h3.2.1 hS) ?_⟩) h2
      · intro k ok hk hki hun hno
        refine hfree k ok hk hki ?_ hno
        rcases Nat.decEq j k with hjk | hjk
        · rw [getD_set_ne true hjk] at hun; exact hun
        · subst hjk; exact hjun
      · rw [Array.setIfInBounds_comm _ _ hji]; exact h3.2.2
    · subst hji; exact hy.wpOp hi hS ⟨fun _ h => h, H⟩

/-- A load, or whatever the condition makes sure: the late operations wait for it. -/
theorem AnyT.take {i : Nat} {oi : Oper} {v : Value} {n : Nat} {done : Array Bool} {a : Act} {w : World} (hi : ops[i]? = some oi)
    (hs : Region.noSelect ops = true) (hf : Region.free md ops done i = true) (hr : (Region.ready md ops done).contains i = true) (hl : lateWait md ops m i = true)
    (hQ : ∀ c a w, Q (.panic c) (a.put oi.dst v) w → Q (.panic c) a w) (hy : YieldsIf P ops S oi v a) (hS : S w)
    (h : AnyT P md ops Q S m n (done.setIfInBounds i true) (a.put oi.dst v) w) : AnyT P md ops Q S m (n + 1) done a w :=
  AnyT.first hi (Region.noSelect_spec hs) hQ (fun j o hj hno w w' hw hS => hw (lateWait_out hl hj hno) hS) n done a w (Region.free_spec hi hf) (by simpa using hr) hy hS h
/-- What yields in whatever world. -/
theorem AnyT.pick {i : Nat} {oi : Oper} {v : Value} {n : Nat} {done : Array Bool} {a : Act} {w : World} (hi : ops[i]? = some oi)
    (hs : Region.noSelect ops = true) (hf : Region.free md ops done i = true) (hr : (Region.ready md ops done).contains i = true)
    (hQ : ∀ c a w, Q (.panic c) (a.put oi.dst v) w → Q (.panic c) a w) (hy : YieldsIf P ops (fun _ => True) oi v a)
    (h : AnyT P md ops Q S m n (done.setIfInBounds i true) (a.put oi.dst v) w) : AnyT P md ops Q S m (n + 1) done a w :=
  AnyT.first (T := fun _ => True) hi (Region.noSelect_spec hs) hQ (fun _ _ _ _ _ _ _ _ => trivial) n done a w (Region.free_spec hi hf) (by simpa using hr) hy trivial h

def AllT (P : Program) (md : Region.Mode) (ops : Array Oper) (Q : Exit → Act → World → Prop) (S : World → Prop) (m n : Nat) (done : Array Bool) (a : Act) (w : World) (rs : List Nat) : Prop :=
  ∀ i ∈ rs, wpOp P ops Q i (fun a' w' => (i < m → S w → S w') ∧ AnyT P md ops Q S m n (done.setIfInBounds i true) a' w') a w
theorem AllT.nil {n : Nat} {done : Array Bool} {a : Act} {w : World} : AllT P md ops Q S m n done a w [] := fun _ h => nomatch h
/-- An early operation: the condition is shown behind it and handed on. -/
theorem AllT.early {n : Nat} {done : Array Bool} {a : Act} {w : World} {i : Nat} {o : Oper} {rs : List Nat} (ho : ops[i]? = some o)
    (h : ∀ K' : Act → World → Prop, Shut (∀ a w, S w → (S w → AnyT P md ops Q S m n (done.setIfInBounds i true) a w) → K' a w) → if Region.wanted o (yielded ops a.tmps) = true then Oper.wp P o a w K' Q else K' (a.put o.dst undef) w)
    (hs : AllT P md ops Q S m n done a w rs) : AllT P md ops Q S m n done a w (i :: rs) := fun j hj => by
  rcases List.mem_cons.1 hj with rfl | hj
  · exact wpOp_step ho (fun K' hK => h K' (fun a w hS hW => hK a w ⟨fun _ _ => hS, hW hS⟩))
  · exact hs j hj
/-- A late one: nothing is asked. -/
theorem AllT.late {n : Nat} {done : Array Bool} {a : Act} {w : World} {i : Nat} {o : Oper} {rs : List Nat} (ho : ops[i]? = some o) (hm : m ≤ i)
    (h : ∀ K' : Act → World → Prop, Shut (∀ a w, True → (True → AnyT P md ops Q S m n (done.setIfInBounds i true) a w) → K' a w) → if Region.wanted o (yielded ops a.tmps) = true then Oper.wp P o a w K' Q else K' (a.put o.dst undef) w)
    (hs : AllT P md ops Q S m n done a w rs) : AllT P md ops Q S m n done a w (i :: rs) := fun j hj => by
  rcases List.mem_cons.1 hj with rfl | hj
  · exact wpOp_step ho (fun K' hK => h K' (fun a w _ hW => hK a w ⟨fun hlt => absurd hlt (Nat.not_lt.2 hm), hW trivial⟩))
  · exact hs j hj
theorem AllT.go {rs : List Nat} {n : Nat} {done : Array Bool} {a : Act} {w : World} (hr : Region.ready md ops done = rs) (hne : rs ≠ [])
    (h : AllT P md ops Q S m n done a w rs) : AnyT P md ops Q S m (n + 1) done a w :=
  ⟨fun h0 => absurd (hr ▸ h0) hne, hr ▸ h⟩
theorem AnyT.done {done : Array Bool} {a : Act} {w : World} (hr : Region.ready md ops done = []) (h : Q .normal a w) : ∀ n, AnyT P md ops Q S m n done a w
  | 0 => ⟨hr, h⟩
  | _ + 1 => ⟨fun _ => h, by rw [hr]; simp⟩
theorem AnyT.start {id : Nat} {a : Act} {w : World} (m : Nat) (hm : P.follows .mixedOrders = true) (hS : S w.drew)
    (h : S w.drew → AnyT P .any ops Q S m ops.size (Array.replicate ops.size false) a w.drew) : (Code.region id ops true).wp P Q a w :=
  wp_region_any hm (AnyT.any _ _ _ _ (h hS))
end
end Go.Proofs.YtmmfpkkkpeapeaaGreatDoor
