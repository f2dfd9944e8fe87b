/- The arena as blocks of memory: four rows behind a struct's cells; what an operation on it may turn. -/
import Derived.Test.YtmmfpkkkpeapeaaGreatDoorRc2
set_option linter.unusedVariables false
set_option linter.unusedSimpArgs false
namespace Go.Proofs.YtmmfpkkkpeapeaaGreatDoor.ar
open Go.RowKit Go.Maps mem rec
/-- An object. -/
structure Ob where
  kind : Int
  owner : Int
  frozen : Bool
  fields : Option Nat
  module : Int
  func : Int
  ha : Option Addr
  hn : Nat
  hc : Nat
  brand : Int
  content : V3
  membrane : Int
  target : Int
  deep : Int
def Ob.cells (o : Ob) : List Value := [.int .u8 o.kind, .int .i64 o.owner, .bool o.frozen, .map o.fields, .int .i64 o.module, .int .i64 o.func, .slice o.ha o.hn o.hc, .int .u64 o.brand, .int .u8 o.content.1, .int .i64 o.content.2.1, .string o.content.2.2, .int .i64 o.membrane, .int .u64 o.target, .int .i64 o.deep]
def ob0 : Ob := ⟨0, 0, false, none, 0, 0, none, 0, 0, 0, zero3, 0, 0, 0⟩
structure Sl where
  uses : Nat
  used : Bool
  o : Ob
def Sl.cells (s : Sl) : List Value := .int .u32 s.uses :: .bool s.used :: s.o.cells
def sl0 : Sl := ⟨0, false, ob0⟩
structure Ar where
  slots : List Sl
  free : List Nat
  quotas : List Int
  many : List Int
def Ar.len (A : Ar) : Nat → Nat
  | 0 => A.slots.length
  | 1 => A.free.length
  | 2 => A.quotas.length
  | _ => A.many.length
def Ar.row (A : Ar) : Nat → List Value
  | 0 => A.slots.flatMap Sl.cells
  | 1 => A.free.map (fun n : Nat => Value.int .u32 (n : Int))
  | 2 => A.quotas.map (Value.int .i64)
  | _ => A.many.map (Value.int .i64)
def eT : Nat → TypeId
  | 0 => 122
  | 1 => 115
  | _ => 3
def eS : Nat → Nat
  | 0 => 16
  | _ => 1
/-- The arena of these rows behind the struct in block p. -/
structure Parts (w : World) (p : Nat) (v : Nat → Value) (A : Ar) : Prop where
  hd : Blk w p #[v 0, v 1, v 2, v 3] 120
  ow : ∀ i, i < 4 → w.ownsRow 0 (eT i) (eS i) (v i) (A.len i) (A.row i)
  ap : ∀ i j b, i < 4 → j < 4 → (v i).ownBlock = some b → (v j).ownBlock = some b → i = j
  pp : ∀ i, i < 4 → (v i).ownBlock ≠ some p
def foot (p : Nat) (v : Nat → Value) : List Nat := p :: ((List.range 4).filterMap fun i => (v i).ownBlock)
theorem mem_foot {p : Nat} {v : Nat → Value} {b : Nat} : b ∈ foot p v ↔ b = p ∨ ∃ i, i < 4 ∧ (v i).ownBlock = some b := by
  simp [foot, List.mem_filterMap]
theorem foot_i {p : Nat} {v : Nat → Value} {i b : Nat} (hi : i < 4) (h : (v i).ownBlock = some b) : b ∈ foot p v := mem_foot.2 (.inr ⟨i, hi, h⟩)
theorem foot_p {p : Nat} {v : Nat → Value} : p ∈ foot p v := mem_foot.2 (.inl rfl)
theorem Parts.lt {w : World} {p : Nat} {v : Nat → Value} {A : Ar} (h : Parts w p v A) : ∀ b ∈ foot p v, b < w.heap.size := by
  intro b hb
  rcases mem_foot.1 hb with rfl | ⟨i, hi, hb⟩
  · exact h.hd.lt
  · exact ((h.ow i hi).lt b hb).2
theorem Parts.chg {G : List Nat} {w w' : World} {p : Nat} {v : Nat → Value} {A : Ar} (h : Parts w p v A) (c : Chg G w w') (hn : ∀ b ∈ foot p v, b ∉ G) : Parts w' p v A :=
  ⟨h.hd.chg c (hn p foot_p), fun i hi => owns_chg (h.ow i hi) c (fun g hg => hn g (foot_i hi hg)), h.ap, h.pp⟩
theorem Parts.up {w w' : World} {p : Nat} {v : Nat → Value} {A : Ar} (h : Parts w p v A) (u : Up w w') : Parts w' p v A := h.chg u.chg (by simp)
def upd (v : Nat → Value) (i : Nat) (u : Value) : Nat → Value := fun j => if j = i then u else v j
theorem upd_same (v : Nat → Value) (i : Nat) (u : Value) : upd v i u i = u := by simp [upd]
theorem upd_other (v : Nat → Value) {i j : Nat} (u : Value) (h : j ≠ i) : upd v i u j = v j := by simp [upd, h]
/-- A row is made anew, or appended to, and its value laid in the struct's cell. -/
theorem Parts.put {w w1 : World} {p : Nat} {v : Nat → Value} {A A' : Ar} (h : Parts w p v A) (i : Nat) (hi : i < 4) (hg : w.grownBy w1 (v i).ownBlock) (u : Value) (g : Nat) (hu : u.ownBlock = some g) (hgl : (v i).ownBlock = some g ∨ w.heap.size ≤ g)
    (hrow : w1.ownsRow 0 (eT i) (eS i) u (A'.len i) (A'.row i)) (hsame : ∀ j, j < 4 → j ≠ i → A'.len j = A.len j ∧ A'.row j = A.row j) :
    Parts (w1.setCell ⟨p, i, none⟩ u) p (upd v i u) A' ∧ Chg (foot p v) w (w1.setCell ⟨p, i, none⟩ u) ∧ ∀ b ∈ foot p (upd v i u), b ∈ foot p v ∨ w.heap.size ≤ b := by
  have hgp : g ≠ p := by
    rcases hgl with h1 | h1
    · intro e; exact h.pp i hi (by rw [h1, e])
    · have := h.hd.lt; omega
  have c1 : Chg (foot p v) w w1 := (Chg.refl _ w).grown hg (fun k hk => .inl (foot_i hi hk))
  have c2 : Chg (foot p v) w (w1.setCell ⟨p, i, none⟩ u) := c1.setCell (p := ⟨p, i, none⟩) (.inl foot_p) u
  have cp : Chg [p] w1 (w1.setCell ⟨p, i, none⟩ u) := (Chg.refl _ w1).setCell (p := ⟨p, i, none⟩) (.inl (by simp)) u
  have hd1 : Blk w1 p #[v 0, v 1, v 2, v 3] 120 := (hg.block p h.hd.lt (fun e => h.pp i hi e.symm)).trans h.hd
  refine ⟨⟨?_, ?_, ?_, ?_⟩, c2, ?_⟩
  · have := heap_setCell_same w1 p i _ _ u hd1
    unfold Blk
    rw [this]
    rcases (by omega : i = 0 ∨ i = 1 ∨ i = 2 ∨ i = 3) with rfl | rfl | rfl | rfl <;> simp [upd]
  · intro j hj
    by_cases e : j = i
    · subst e
      rw [upd_same]
      exact owns_chg hrow cp (fun b hb => by rw [hu] at hb; cases hb; simpa using hgp)
    · rw [upd_other v u e, (hsame j hj e).1, (hsame j hj e).2]
      have o1 : w1.ownsRow 0 (eT j) (eS j) (v j) (A.len j) (A.row j) := (h.ow j hj).kept hg (by
        cases hb : (v j).ownBlock with
        | none => exact .inl rfl
        | some b => exact .inr (fun e2 => e (h.ap j i b hj hi hb e2.symm)))
      exact owns_chg o1 cp (fun b hb => by simp; rintro rfl; exact h.pp j hj hb)
  · intro a j b ha hj h1 h2
    by_cases e1 : a = i <;> by_cases e2 : j = i
    · rw [e1, e2]
    · subst e1
      rw [upd_same, hu] at h1
      rw [upd_other v u e2] at h2
      cases h1
      rcases hgl with h3 | h3
      · exact (h.ap j a g hj ha h2 h3).symm
      · have := ((h.ow j hj).lt g h2).2; omega
    · subst e2
      rw [upd_same, hu] at h2
      rw [upd_other v u e1] at h1
      cases h2
      rcases hgl with h3 | h3
      · exact h.ap a j g ha hj h1 h3
      · have := ((h.ow a ha).lt g h1).2; omega
    · rw [upd_other v u e1] at h1
      rw [upd_other v u e2] at h2
      exact h.ap a j b ha hj h1 h2
  · intro j hj
    by_cases e : j = i
    · subst e; rw [upd_same, hu]; simpa using hgp
    · rw [upd_other v u e]; exact h.pp j hj
  · intro b hb
    rcases mem_foot.1 hb with rfl | ⟨j, hj, hb⟩
    · exact .inl foot_p
    · by_cases e : j = i
      · subst e
        rw [upd_same, hu] at hb
        cases hb
        rcases hgl with h3 | h3
        · exact .inl (foot_i hj h3)
        · exact .inr h3
      · rw [upd_other v u e] at hb
        exact .inl (foot_i hj hb)
/-- A row is written in its place. -/
theorem Parts.store {w w1 : World} {p : Nat} {v : Nat → Value} {A A' : Ar} (h : Parts w p v A) (i : Nat) (hi : i < 4) (hg : w.grownBy w1 (v i).ownBlock)
    (hrow : w1.ownsRow 0 (eT i) (eS i) (v i) (A'.len i) (A'.row i)) (hsame : ∀ j, j < 4 → j ≠ i → A'.len j = A.len j ∧ A'.row j = A.row j) :
    Parts w1 p v A' ∧ Chg (foot p v) w w1 := by
  have c1 : Chg (foot p v) w w1 := (Chg.refl _ w).grown hg (fun k hk => .inl (foot_i hi hk))
  refine ⟨⟨(hg.block p h.hd.lt (fun e => h.pp i hi e.symm)).trans h.hd, ?_, h.ap, h.pp⟩, c1⟩
  intro j hj
  by_cases e : j = i
  · subst e; exact hrow
  · rw [(hsame j hj e).1, (hsame j hj e).2]
    exact (h.ow j hj).kept hg (by
      cases hb : (v j).ownBlock with
      | none => exact .inl rfl
      | some b => exact .inr (fun e2 => e (h.ap j i b hj hi hb e2.symm)))
/-- What a row's value looks like. -/
theorem shape {w : World} {base : Nat} {e : TypeId} {size : Nat} {v : Value} {n : Nat} {xs : List Value} (h : w.ownsRow base e size v n xs) : ∃ a cap, v = .slice a n cap ∧ n ≤ cap ∧ cap ≤ maxLen ∧ (a = none ∧ n = 0 ∧ cap = 0 ∨ ∃ g, a = some ⟨g, 0, none⟩ ∧ g < w.heap.size) := by
  rcases h.2 with ⟨h1, h2⟩ | ⟨g, cap, cur, h1, h2, h3, h4, h5, _⟩
  · subst h2; exact ⟨none, 0, h1, Nat.le_refl _, by unfold maxLen; omega, .inl ⟨rfl, rfl, rfl⟩⟩
  · exact ⟨_, cap, h1, h4, h5, .inr ⟨g, rfl, (Array.getElem?_eq_some_iff.1 h3).1⟩⟩
/-! ### the slots' cells -/
theorem cells_len (s : Sl) : s.cells.length = 16 := rfl
theorem flat_len : ∀ l : List Sl, (l.flatMap Sl.cells).length = l.length * 16
  | [] => rfl
  | s :: l => by rw [List.flatMap_cons, List.length_append, flat_len l, cells_len, List.length_cons]; omega
theorem flat_get : ∀ (l : List Sl) (n j : Nat) (s : Sl), l[n]? = some s → j < 16 → (l.flatMap Sl.cells)[n * 16 + j]? = s.cells[j]?
  | [], n, j, s, h, _ => by simp at h
  | a :: l, 0, j, s, h, hj => by
    simp at h; subst h
    rw [List.flatMap_cons, List.getElem?_append_left (by rw [cells_len]; omega)]; simp
  | a :: l, n + 1, j, s, h, hj => by
    simp at h
    rw [List.flatMap_cons, List.getElem?_append_right (by rw [cells_len]; omega), cells_len, show (n + 1) * 16 + j - 16 = n * 16 + j by omega]
    exact flat_get l n j s h hj
theorem flat_set : ∀ (l : List Sl) (n : Nat) (s s' : Sl) (k : Nat) (vs : List Value), l[n]? = some s → k + vs.length ≤ 16 → s'.cells = s.cells.take k ++ vs ++ s.cells.drop (k + vs.length) →
    (l.flatMap Sl.cells).take (n * 16 + k) ++ vs ++ (l.flatMap Sl.cells).drop (n * 16 + k + vs.length) = (l.set n s').flatMap Sl.cells
  | [], n, s, s', k, vs, h, _, _ => by simp at h
  | a :: l, 0, s, s', k, vs, h, hk, e => by
    simp at h; subst h
    rw [List.set_cons_zero, List.flatMap_cons, List.flatMap_cons, e, List.take_append_of_le_length (by rw [cells_len]; omega), List.drop_append_of_le_length (by rw [cells_len]; omega)]
    simp
  | a :: l, n + 1, s, s', k, vs, h, hk, e => by
    simp at h
    have ih := flat_set l n s s' k vs h hk e
    rw [List.set_cons_succ, List.flatMap_cons, List.flatMap_cons, ← ih, List.take_append, List.drop_append, List.take_of_length_le (by rw [cells_len]; omega), List.drop_eq_nil_of_le (by rw [cells_len]; omega), cells_len,
      show (n + 1) * 16 + k - 16 = n * 16 + k by omega, show (n + 1) * 16 + k + vs.length - 16 = n * 16 + k + vs.length by omega]
    simp
/-- Some cells of an owned row, written. -/
theorem owns_setCells {base : Nat} {e : TypeId} {size g n cap : Nat} : ∀ (vs : List Value) (k : Nat) (w : World) (xs : List Value), w.ownsRow base e size (.slice (some ⟨g, 0, none⟩) n cap) n xs → k + vs.length ≤ xs.length →
    (w.setCells g k vs).ownsRow base e size (.slice (some ⟨g, 0, none⟩) n cap) n (xs.take k ++ vs ++ xs.drop (k + vs.length)) ∧ w.grownBy (w.setCells g k vs) (some g)
  | [], k, w, xs, h, hk => by
    simp only [World.setCells, List.append_nil, List.length_nil, Nat.add_zero, List.take_append_drop]
    exact ⟨h, ⟨rfl, rfl, rfl, Nat.le_refl _, fun _ _ _ => rfl⟩⟩
  | v :: r, k, w, xs, h, hk => by
    obtain ⟨h1, g1⟩ := h.stored k v
    obtain ⟨h2, g2⟩ := owns_setCells r (k + 1) _ _ h1 (by simp at hk ⊢; omega)
    rw [World.setCells]
    refine ⟨?_, g1.trans g2⟩
    have hkl : k < xs.length := by simp at hk; omega
    rw [List.set_eq_take_append_cons_drop, if_pos hkl] at h2
    have e1 : (xs.take k ++ v :: xs.drop (k + 1)).take (k + 1) = xs.take k ++ [v] := by
      rw [List.take_append, List.length_take, Nat.min_eq_left (by omega), List.take_of_length_le (by simp; omega)]
      simp [show k + 1 - k = 1 by omega]
    have e2 : (xs.take k ++ v :: xs.drop (k + 1)).drop (k + 1 + r.length) = xs.drop (k + (v :: r).length) := by
      rw [List.drop_append, List.length_take, Nat.min_eq_left (by omega), List.drop_eq_nil_of_le (by simp; omega)]
      rw [show k + 1 + r.length - k = r.length + 1 by omega]
      simp
      congr 1; omega
    rw [e1, e2] at h2
    simpa using h2
theorem owns_cut {w : World} {base : Nat} {e : TypeId} {size g n cap : Nat} {xs : List Value} (h : w.ownsRow base e size (.slice (some ⟨g, 0, none⟩) n cap) n xs) {m : Nat} (hm : m ≤ n) : w.ownsRow base e size (.slice (some ⟨g, 0, none⟩) m cap) m (xs.take (m * size)) := by
  rcases h with ⟨hl, ⟨h', _⟩ | ⟨g', cap', cur, h', hb, hg, hnc, hcm, hcs, htake⟩⟩
  · simp at h'
  · simp only [Value.slice.injEq, Option.some.injEq, Addr.mk.injEq, and_true, true_and] at h'
    obtain ⟨rfl, rfl⟩ := h'
    have hmn : m * size ≤ n * size := Nat.mul_le_mul_right _ hm
    refine ⟨by rw [List.length_take, hl]; omega, .inr ⟨g, cap, cur, rfl, hb, hg, by omega, hcm, hcs, ?_⟩⟩
    rw [← htake, List.take_take, Nat.min_eq_left hmn]
end Go.Proofs.YtmmfpkkkpeapeaaGreatDoor.ar
