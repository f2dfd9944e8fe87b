/- A block one of whose cells holds a slice that is appended to; functions in memory and their blocks: plain laws. -/
import Derived.Test.YtffcdoiikefpcaaGreatDoorVp
set_option linter.unusedVariables false
namespace Go.Proofs.YtffcdoiikefpcaaGreatDoor.vl
open Go.RowKit Go.Maps mem
set_option maxRecDepth 100000
set_option maxHeartbeats 400000
/-- Since W: block bx (cells cs but for cell k, which holds the slice v); v owns the row xs, made since W; nothing else of W has changed. -/
structure MR (W wr : World) (bx k : Nat) (cs : Array Value) (T e : TypeId) (sz : Nat) (v : Value) (n : Nat) (xs : List Value) : Prop where
  cg : Chg [bx] W wr
  bo : Blk wr bx (cs.setIfInBounds k v) T
  row : wr.ownsRow W.heap.size e sz v n xs
  lo : bx < W.heap.size
section
variable {W wr wr1 w5 : World} {bx k : Nat} {cs : Array Value} {T e : TypeId} {sz n : Nat} {v : Value} {xs : List Value}
theorem MR.start (h : Blk W bx cs T) (hk : cs[k]? = some (.slice none 0 0)) : MR W W bx k cs T e sz (.slice none 0 0) 0 [] := by
  refine ⟨Chg.refl _ _, ?_, ⟨by simp, .inl ⟨rfl, rfl⟩⟩, h.lt⟩
  have e1 : cs.setIfInBounds k (.slice none 0 0) = cs := by
    obtain ⟨hl, hx⟩ := Array.getElem?_eq_some_iff.1 hk
    rw [Array.setIfInBounds, dif_pos hl]
    apply Array.ext
    · simp
    · intro i h1 h2
      rw [Array.getElem_set]
      split
      · rename_i e1; subst e1; exact hx.symm
      · rfl
  rw [e1]
  exact h
theorem MR.grow (h : MR W wr bx k cs T e sz v n xs) (u : Up wr wr1) : MR W wr1 bx k cs T e sz v n xs :=
  ⟨h.cg.trans (u.chg.mono (by simp)) (fun x hx => .inl hx), h.bo.chg u.chg (by simp), owns_chg h.row u.chg (by simp), h.lo⟩
theorem MR.ne (h : MR W wr bx k cs T e sz v n xs) : ∀ b, v.ownBlock = some b → b ≠ bx ∧ W.heap.size ≤ b := fun b hb => by
  have h1 := (h.row.lt b hb).1
  have h2 := h.lo
  exact ⟨by omega, h1⟩
theorem MR.mid (h : MR W wr bx k cs T e sz v n xs) (hg : wr.grownBy w5 v.ownBlock) : Blk w5 bx (cs.setIfInBounds k v) T :=
  h.bo.chg ((Chg.refl (v.ownBlock.toList) wr).grown hg (fun b hb => .inl (by simp [hb]))) (fun hx => (h.ne bx (by simpa using hx)).1 rfl)
theorem MR.next {g c n1 : Nat} {news : List Value} (h : MR W wr bx k cs T e sz v n xs) (hrow : w5.ownsRow W.heap.size e sz (.slice (some ⟨g, 0, none⟩) n1 c) n1 (xs ++ news)) (hg : wr.grownBy w5 v.ownBlock) :
    MR W (w5.setCell ⟨bx, k, none⟩ (.slice (some ⟨g, 0, none⟩) n1 c)) bx k cs T e sz (.slice (some ⟨g, 0, none⟩) n1 c) n1 (xs ++ news) := by
  have lo := h.lo
  have hg0 : W.heap.size ≤ g := (hrow.lt g rfl).1
  have b5 := h.mid hg
  have C5 : Chg v.ownBlock.toList wr w5 := (Chg.refl _ wr).grown hg (fun b hb => .inl (by simp [hb]))
  have CS : Chg [bx] w5 (w5.setCell ⟨bx, k, none⟩ (.slice (some ⟨g, 0, none⟩) n1 c)) := (Chg.refl [bx] w5).setCell (p := ⟨bx, k, none⟩) (.inl (by simp)) _
  refine ⟨(h.cg.trans C5 (fun b hb => .inr (h.ne b (by simpa using hb)).2)).trans CS (fun b hb => .inl hb), ?_, ?_, lo⟩
  · have q := heap_setCell_same w5 bx k _ _ (.slice (some ⟨g, 0, none⟩) n1 c) b5
    unfold Blk
    rw [q]
    rw [Array.setIfInBounds_setIfInBounds]
  · exact owns_chg hrow CS (fun b hb hx => by cases hb; have e1 : g = bx := List.mem_singleton.1 hx; omega)
theorem MR.cell (h : MR W wr bx k cs T e sz v n xs) (hk : k < cs.size) : wr.cell? ⟨bx, k, none⟩ = some v := by
  rw [h.bo.cell k]
  simp [hk]
theorem MR.other (h : MR W wr bx k cs T e sz v n xs) (j : Nat) (hj : j ≠ k) : wr.cell? ⟨bx, j, none⟩ = cs[j]? := by
  rw [h.bo.cell j, Array.getElem?_setIfInBounds_ne (by omega)]
end
theorem owns_slice {w : World} {base : Nat} {e : TypeId} {sz n : Nat} {v : Value} {xs : List Value} (h : w.ownsRow base e sz v n xs) : ∃ a cap, v = .slice a n cap := by
  rcases h.2 with ⟨e1, e2⟩ | ⟨g, cap, cur, e1, -⟩
  · exact ⟨none, 0, by rw [e2]; exact e1⟩
  · exact ⟨_, cap, e1⟩
/-! ### slices and their blocks -/
section
variable {F : List Nat} {w w' : World}
theorem IntsAt.chg {v : Value} {l : List Int} (h : IntsAt w v l) (c : Chg F w w') (hn : ∀ b, v.ownBlock = some b → b ∉ F) : IntsAt w' v l := by
  obtain ⟨a, cap, rfl, h⟩ := h
  refine ⟨a, cap, rfl, h.imp id ?_⟩
  rintro ⟨b, off, rfl, e2, e3⟩
  exact ⟨b, off, rfl, Nat.lt_of_lt_of_le e2 c.size, fun i x hx => (c.cell (p := ⟨b, off + i, none⟩) e2 (hn b rfl)).trans (e3 i x hx)⟩
theorem CodeAt.chg {v : Value} {l : List Ins} (h : CodeAt w v l) (c : Chg F w w') (hn : ∀ b, v.ownBlock = some b → b ∉ F) : CodeAt w' v l := by
  obtain ⟨a, cap, rfl, h⟩ := h
  refine ⟨a, cap, rfl, h.imp id ?_⟩
  rintro ⟨b, off, rfl, e2, e3⟩
  refine ⟨b, off, rfl, Nat.lt_of_lt_of_le e2 c.size, fun i x hx => ?_⟩
  obtain ⟨h1, h2, h3, h4⟩ := e3 i x hx
  exact ⟨(c.cell (p := ⟨b, off + i * 4, none⟩) e2 (hn b rfl)).trans h1, (c.cell (p := ⟨b, off + i * 4 + 1, none⟩) e2 (hn b rfl)).trans h2, (c.cell (p := ⟨b, off + i * 4 + 2, none⟩) e2 (hn b rfl)).trans h3, (c.cell (p := ⟨b, off + i * 4 + 3, none⟩) e2 (hn b rfl)).trans h4⟩
def fb (r : Rf) (b : Nat) : Prop := r.2.1.ownBlock = some b ∨ r.2.2.2.ownBlock = some b
theorem RfIs.chg {r : Rf} (h : RfIs w r) (c : Chg F w w') (hn : ∀ b, fb r b → b ∉ F) : RfIs w' r :=
  ⟨IntsAt.chg h.1 c (fun b hb => hn b (.inl hb)), h.2.1, CodeAt.chg h.2.2 c (fun b hb => hn b (.inr hb))⟩
/-- Rows as slices. -/
theorem ints_of {base : Nat} {v : Value} {l : List Int} (h : w.ownsRow base 3 1 v l.length (l.map (Value.int .i64))) : IntsAt w v l := by
  by_cases h0 : l.length = 0
  · rcases h.2 with ⟨e, -⟩ | ⟨g, cap, cur, e, -⟩
    · exact ⟨none, 0, by rw [h0]; exact e, .inl h0⟩
    · exact ⟨some ⟨g, 0, none⟩, cap, e, .inl h0⟩
  obtain ⟨g, c, rfl, -, hlt⟩ := h.form (by omega)
  refine ⟨some ⟨g, 0, none⟩, c, rfl, .inr ⟨g, 0, rfl, hlt, fun i x hx => ?_⟩⟩
  have hi := (List.getElem?_eq_some_iff.1 hx).1
  rw [Nat.zero_add, World.ownsRow.cellAt h i (by omega), List.getElem?_map, hx]
  rfl
theorem flat4_get : ∀ (l : List Ins) (n j : Nat) (s : Ins), l[n]? = some s → j < 4 → (l.flatMap insCells)[n * 4 + j]? = (insCells s)[j]?
  | [], n, j, s, h, _ => by simp at h
  | a :: l, 0, j, s, h, hj => by
    simp at h; subst h
    rw [List.flatMap_cons, List.getElem?_append_left (by show _ < 4; omega)]; simp
  | a :: l, n + 1, j, s, h, hj => by
    simp at h
    rw [List.flatMap_cons, List.getElem?_append_right (by show 4 ≤ _; omega), show (insCells a).length = 4 from rfl, show (n + 1) * 4 + j - 4 = n * 4 + j by omega]
    exact flat4_get l n j s h hj
theorem code_of {base : Nat} {v : Value} {l : List Ins} (h : w.ownsRow base 45 4 v l.length (l.flatMap insCells)) : CodeAt w v l := by
  by_cases h0 : l.length = 0
  · rcases h.2 with ⟨e, -⟩ | ⟨g, cap, cur, e, -⟩
    · exact ⟨none, 0, by rw [h0]; exact e, .inl h0⟩
    · exact ⟨some ⟨g, 0, none⟩, cap, e, .inl h0⟩
  obtain ⟨g, c, rfl, -, hlt⟩ := h.form (by omega)
  refine ⟨some ⟨g, 0, none⟩, c, rfl, .inr ⟨g, 0, rfl, hlt, fun i x hx => ?_⟩⟩
  have hi := (List.getElem?_eq_some_iff.1 hx).1
  rw [Nat.zero_add]
  have cell : ∀ j, j < 4 → w.cell? ⟨g, i * 4 + j, none⟩ = (insCells x)[j]? := fun j hj => by
    rw [World.ownsRow.cellAt h (i * 4 + j) (by omega)]
    exact flat4_get l i j x hx hj
  exact ⟨cell 0 (by omega), cell 1 (by omega), cell 2 (by omega), cell 3 (by omega)⟩
end
/-- The functions that lie in the module's row, before a round: each is in memory, in blocks that are neither the module's nor its row's. -/
def RS (wr : World) (bm : Nat) (sv : Value) (fine : Fn → Prop) (R : List Rf) : Prop := ∀ r ∈ R, RfIs wr r ∧ fine r.1 ∧ ∀ b, fb r b → b < wr.heap.size ∧ bm < b ∧ sv.ownBlock ≠ some b
theorem RS.up {wr w1 : World} {bm : Nat} {sv : Value} {fine : Fn → Prop} {R : List Rf} (h : RS wr bm sv fine R) (u : Up wr w1) : RS w1 bm sv fine R := fun r hr => by
  obtain ⟨h1, h2, h3⟩ := h r hr
  exact ⟨h1.up u, h2, fun b hb => ⟨Nat.lt_of_lt_of_le (h3 b hb).1 u.size, (h3 b hb).2⟩⟩
/-- One more: appended, the module's cell set. -/
theorem RS.next {w6 w5 : World} {bm g c n1 : Nat} {sv u : Value} {fine : Fn → Prop} {R : List Rf} {r : Rf} (h : RS w6 bm sv fine R) (hr : RfIs w6 r) (hf : fine r.1) (hb : ∀ b, fb r b → b < w6.heap.size ∧ bm < b ∧ sv.ownBlock ≠ some b)
    (hg : w6.grownBy w5 sv.ownBlock) (at_ : sv.ownBlock = some g ∨ w6.heap.size ≤ g) : RS (w5.setCell ⟨bm, 0, none⟩ u) bm (.slice (some ⟨g, 0, none⟩) n1 c) fine (R ++ [r]) := by
  have C : Chg (sv.ownBlock.toList ++ [bm]) w6 (w5.setCell ⟨bm, 0, none⟩ u) :=
    (((Chg.refl (sv.ownBlock.toList) w6).grown hg (fun b hb => .inl (by simp [hb]))).mono (fun x hx => List.mem_append_left _ hx)).setCell (p := ⟨bm, 0, none⟩) (.inl (by simp)) u
  have all : ∀ s ∈ R ++ [r], RfIs w6 s ∧ fine s.1 ∧ ∀ b, fb s b → b < w6.heap.size ∧ bm < b ∧ sv.ownBlock ≠ some b := fun s hs => by
    rcases List.mem_append.1 hs with h1 | h1
    · exact h s h1
    · have e0 : s = r := List.mem_singleton.1 h1
      exact e0 ▸ ⟨hr, hf, hb⟩
  intro s hs
  obtain ⟨h1, h2, h3⟩ := all s hs
  refine ⟨h1.chg C (fun b hb hx => ?_), h2, fun b hb => ?_⟩
  · obtain ⟨e1, e2, e3⟩ := h3 b hb
    rcases List.mem_append.1 hx with h4 | h4
    · exact e3 (by simpa using h4)
    · have h6 : b = bm := List.mem_singleton.1 h4
      omega
  · obtain ⟨e1, e2, e3⟩ := h3 b hb
    refine ⟨Nat.lt_of_lt_of_le e1 C.size, e2, fun e4 => ?_⟩
    have e5 : g = b := by simpa [Value.ownBlock] using e4
    rcases at_ with h4 | h4
    · exact e3 (by rw [h4, e5])
    · omega
end Go.Proofs.YtffcdoiikefpcaaGreatDoor.vl
