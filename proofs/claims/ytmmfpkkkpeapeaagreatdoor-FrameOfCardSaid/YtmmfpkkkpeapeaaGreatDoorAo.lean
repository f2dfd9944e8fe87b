/- Put's steps on memory. -/
import Derived.Test.YtmmfpkkkpeapeaaGreatDoorAp
import Derived.Deep.RegionLaw
set_option linter.unusedVariables false
set_option linter.unusedSimpArgs false
namespace Go.Proofs.YtmmfpkkkpeapeaaGreatDoor.ar
open Go.RowKit Go.Maps mem rec
attribute [local go_sem ↓] Go.wp_at_zero Go.wp_at_succ
set_option maxRecDepth 100000
set_option maxHeartbeats 400000
/-- In the midst of Put: what has turned since w; the box of the object. -/
structure Mid (w wx : World) (p : Nat) (v v' : Nat → Value) (A' : Ar) (o : Ob) : Prop where
  pt : Parts wx p v' A'
  cg : Chg (foot p v) w wx
  sb : ∀ b ∈ foot p v', b ∈ foot p v ∨ w.heap.size + 1 ≤ b
  bx : ObAt wx w.heap.size 0 o
  lt : w.heap.size < wx.heap.size
  lo : ∀ b ∈ foot p v, b < w.heap.size
theorem Mid.bn {w wx : World} {p : Nat} {v v' : Nat → Value} {A' : Ar} {o : Ob} (h : Mid w wx p v v' A' o) : w.heap.size ∉ foot p v' := fun hb => by
  rcases h.sb _ hb with h1 | h1
  · have := h.lo _ h1; omega
  · omega
theorem Mid.step {w wx wy : World} {p : Nat} {v v' v'' : Nat → Value} {A' A'' : Ar} {o : Ob} (h : Mid w wx p v v' A' o) (pt : Parts wy p v'' A'') (c : Chg (foot p v') wx wy) (sb : ∀ b ∈ foot p v'', b ∈ foot p v' ∨ wx.heap.size ≤ b) : Mid w wy p v v'' A'' o :=
  ⟨pt, h.cg.trans c (fun b hb => by rcases h.sb b hb with h1 | h1; exact .inl h1; exact .inr (by omega)),
    fun b hb => by
      rcases sb b hb with h1 | h1
      · exact h.sb b h1
      · exact .inr (by have := h.lt; omega),
    h.bx.chg c h.bn, Nat.lt_of_lt_of_le h.lt c.size, h.lo⟩
theorem Mid.up {w wx wy : World} {p : Nat} {v v' : Nat → Value} {A' : Ar} {o : Ob} (h : Mid w wx p v v' A' o) (u : Up wx wy) : Mid w wy p v v' A' o :=
  h.step (h.pt.up u) (u.chg.mono (by simp)) (fun b hb => .inl hb)
theorem Parts.cell {w : World} {p : Nat} {v : Nat → Value} {A : Ar} (h : Parts w p v A) (i : Nat) (hi : i < 4) : w.cell? ⟨p, i, none⟩ = some (v i) ∧ w.frozen? ⟨p, i, none⟩ = false := by
  refine ⟨?_, frozen_of_row w p i _ _ h.hd⟩
  rw [h.hd.cell i]
  rcases (by omega : i = 0 ∨ i = 1 ∨ i = 2 ∨ i = 3) with rfl | rfl | rfl | rfl <;> rfl
theorem zero16 : ∀ u ∈ ([.int .u32 0, .bool false, .int .u8 0, .int .i64 0, .bool false, .map none, .int .i64 0, .int .i64 0, .slice none 0 0, .int .u64 0, .int .u8 0, .int .i64 0, .string ⟨#[]⟩, .int .i64 0, .int .u64 0, .int .i64 0] : List Value), u.oneCell' = true := fun u hu => List.all_eq_true.1 (show List.all [.int .u32 0, .bool false, .int .u8 0, .int .i64 0, .bool false, .map none, .int .i64 0, .int .i64 0, .slice none 0 0, .int .u64 0, .int .u8 0, .int .i64 0, .string ⟨#[]⟩, .int .i64 0, .int .u64 0, .int .i64 0] (·.oneCell') = true from rfl) u hu
theorem Mid.app {w wq w5 W6 : World} {p : Nat} {v : Nat → Value} {A A' : Ar} {o : Ob} {v0 : Nat → Value} (M : Mid w wq p v0 v A o) (i : Nat) (hi : i < 4) (u6 : Up wq W6) {g n cap : Nat} {b : Value}
    (hv : v i = b) (hown : w5.ownsRow 0 (eT i) (eS i) (.slice (some ⟨g, 0, none⟩) n cap) (A'.len i) (A'.row i)) (hgrow : W6.grownBy w5 b.ownBlock) (hat : b.ownBlock = some g ∨ g = W6.heap.size) (hsame : ∀ j, j < 4 → j ≠ i → A'.len j = A.len j ∧ A'.row j = A.row j) :
    Mid w (w5.setCell ⟨p, i, none⟩ (.slice (some ⟨g, 0, none⟩) n cap)) p v0 (upd v i (.slice (some ⟨g, 0, none⟩) n cap)) A' o := by
  have M6 := M.up u6
  subst hv
  obtain ⟨h1, h2, h3⟩ := M6.pt.put i hi hgrow (.slice (some ⟨g, 0, none⟩) n cap) g rfl (by rcases hat with h | h; exact .inl h; exact .inr (by omega)) hown hsame
  exact M6.step h1 h2 h3
theorem ob_cells {w : World} {g k : Nat} {o : Ob} (h : ObAt w g k o) : w.cell? ⟨g, k, none⟩ = some (.int .u8 o.kind) ∧ w.cell? ⟨g, k + 1, none⟩ = some (.int .i64 o.owner) ∧ w.cell? ⟨g, k + 2, none⟩ = some (.bool o.frozen) ∧ w.cell? ⟨g, k + 3, none⟩ = some (.map o.fields) ∧
    w.cell? ⟨g, k + 4, none⟩ = some (.int .i64 o.module) ∧ w.cell? ⟨g, k + 5, none⟩ = some (.int .i64 o.func) ∧ w.cell? ⟨g, k + 6, none⟩ = some (.slice o.ha o.hn o.hc) ∧ w.cell? ⟨g, k + 7, none⟩ = some (.int .u64 o.brand) ∧ w.cell? ⟨g, k + 8, none⟩ = some (.int .u8 o.content.1) ∧
    w.cell? ⟨g, k + 9, none⟩ = some (.int .i64 o.content.2.1) ∧ w.cell? ⟨g, k + 10, none⟩ = some (.string o.content.2.2) ∧ w.cell? ⟨g, k + 11, none⟩ = some (.int .i64 o.membrane) ∧ w.cell? ⟨g, k + 12, none⟩ = some (.int .u64 o.target) ∧ w.cell? ⟨g, k + 13, none⟩ = some (.int .i64 o.deep) :=
  ⟨h 0 _ rfl, h 1 _ rfl, h 2 _ rfl, h 3 _ rfl, h 4 _ rfl, h 5 _ rfl, h 6 _ rfl, h 7 _ rfl, h 8 _ rfl, h 9 _ rfl, h 10 _ rfl, h 11 _ rfl, h 12 _ rfl, h 13 _ rfl⟩
theorem grown_refl (w : World) (r : Option Nat) : w.grownBy w r := ⟨rfl, rfl, rfl, Nat.le_refl _, fun _ _ _ => rfl⟩
theorem Mid.store {w wx w1 : World} {p : Nat} {v v2 : Nat → Value} {A A' : Ar} {o : Ob} (M : Mid w wx p v v2 A o) (i : Nat) (hi : i < 4) (hg : wx.grownBy w1 (v2 i).ownBlock) (hrow : w1.ownsRow 0 (eT i) (eS i) (v2 i) (A'.len i) (A'.row i))
    (hsame : ∀ j, j < 4 → j ≠ i → A'.len j = A.len j ∧ A'.row j = A.row j) : Mid w w1 p v v2 A' o := by
  obtain ⟨h1, h2⟩ := M.pt.store i hi hg hrow hsame
  exact M.step h1 h2 (fun b hb => .inl hb)
/-- Some cells of a slot, written. -/
theorem Mid.slot {w wx : World} {p : Nat} {v v2 : Nat → Value} {A : Ar} {o : Ob} (M : Mid w wx p v v2 A o) {g cap n : Nat} (hv : v2 0 = .slice (some ⟨g, 0, none⟩) A.slots.length cap) (s s' : Sl) (hs : A.slots[n]? = some s) (k : Nat) (vs : List Value) (hk : k + vs.length ≤ 16)
    (e : s'.cells = s.cells.take k ++ vs ++ s.cells.drop (k + vs.length)) : Mid w (wx.setCells g (n * 16 + k) vs) p v v2 { A with slots := A.slots.set n s' } o := by
  have ho := M.pt.ow 0 (by omega)
  rw [hv] at ho
  have hn : n < A.slots.length := (List.getElem?_eq_some_iff.1 hs).1
  obtain ⟨h1, h2⟩ := owns_setCells vs (n * 16 + k) wx _ ho (by show n * 16 + k + vs.length ≤ (A.slots.flatMap Sl.cells).length; rw [flat_len]; omega)
  refine M.store 0 (by omega) (by rw [hv]; exact h2) ?_ (fun j hj hne => by rcases (by omega : j = 1 ∨ j = 2 ∨ j = 3) with rfl | rfl | rfl <;> exact ⟨rfl, rfl⟩)
  rw [hv]
  show (wx.setCells g (n * 16 + k) vs).ownsRow 0 _ 16 _ (A.slots.set n s').length ((A.slots.set n s').flatMap Sl.cells)
  rw [List.length_set, ← flat_set A.slots n s s' k vs hs hk e]
  exact h1
theorem Mid.fill {w wx : World} {p : Nat} {v v2 : Nat → Value} {A : Ar} {o : Ob} {S : List Sl} {s' : Sl} {g cap n : Nat} (M : Mid w wx p v v2 { A with slots := S.set n s' } o) (hn : n < S.length) (hv : v2 0 = .slice (some ⟨g, 0, none⟩) S.length cap) (x : Ob) :
    Mid w ((wx.setCell ⟨g, n * 16 + 1, none⟩ (.bool true)).setCells g (n * 16 + 2) x.cells) p v v2 { A with slots := S.set n ⟨s'.uses, true, x⟩ } o := by
  have h1 := M.slot (g := g) (cap := cap) (by rw [hv]; simp) s' ⟨s'.uses, true, x⟩ (by show (S.set n s')[n]? = _; rw [List.getElem?_set_self hn]) 1 (.bool true :: x.cells) (by simp [Ob.cells]) rfl
  have e : ({ ({ A with slots := S.set n s' } : Ar) with slots := ({ A with slots := S.set n s' } : Ar).slots.set n ⟨s'.uses, true, x⟩ } : Ar) = { A with slots := S.set n ⟨s'.uses, true, x⟩ } := by
    show Ar.mk ((S.set n s').set n _) A.free A.quotas A.many = _
    rw [List.set_set]
  rw [e] at h1
  simp only [World.setCells, Nat.add_assoc, Nat.reduceAdd] at h1
  exact h1
theorem Mid.fill2 {w wx : World} {p : Nat} {v v2 : Nat → Value} {A : Ar} {o : Ob} {S : List Sl} {s' : Sl} {g cap n : Nat} (M : Mid w wx p v v2 { A with slots := S.set n s' } o) (hn : n < S.length) (hv : v2 0 = .slice (some ⟨g, 0, none⟩) S.length cap) (x : Ob) :
    Mid w ((wx.setCells g (n * 16 + 2) x.cells).setCell ⟨g, n * 16 + 1, none⟩ (.bool true)) p v v2 { A with slots := S.set n ⟨s'.uses, true, x⟩ } o := by
  have h1 := M.slot (g := g) (cap := cap) (by rw [hv]; simp) s' ⟨s'.uses, s'.used, x⟩ (by show (S.set n s')[n]? = _; rw [List.getElem?_set_self hn]) 2 x.cells (by simp [Ob.cells]) rfl
  have e : ({ ({ A with slots := S.set n s' } : Ar) with slots := ({ A with slots := S.set n s' } : Ar).slots.set n ⟨s'.uses, s'.used, x⟩ } : Ar) = { A with slots := S.set n ⟨s'.uses, s'.used, x⟩ } := by
    show Ar.mk ((S.set n s').set n _) A.free A.quotas A.many = _
    rw [List.set_set]
  rw [e] at h1
  have h2 := h1.slot (g := g) (cap := cap) (by rw [hv]; simp) ⟨s'.uses, s'.used, x⟩ ⟨s'.uses, true, x⟩ (by show (S.set n _)[n]? = _; rw [List.getElem?_set_self hn]) 1 [.bool true] (by simp) rfl
  have e2 : ({ ({ A with slots := S.set n ⟨s'.uses, s'.used, x⟩ } : Ar) with slots := ({ A with slots := S.set n ⟨s'.uses, s'.used, x⟩ } : Ar).slots.set n ⟨s'.uses, true, x⟩ } : Ar) = { A with slots := S.set n ⟨s'.uses, true, x⟩ } := by
    show Ar.mk ((S.set n _).set n _) A.free A.quotas A.many = _
    rw [List.set_set]
  rw [e2] at h2
  simp only [World.setCells] at h2
  exact h2
theorem grow_ok (A : Ar) (h : ∀ n ∈ A.free, n < A.slots.length) : A.grow.free ≠ [] ∧ A.top < A.grow.slots.length := by
  have e : ∀ n ∈ A.grow.free, n < A.grow.slots.length := by
    unfold Ar.grow
    split
    · intro n hn; simp at hn; subst hn; simp
    · exact h
  have hne : A.grow.free ≠ [] := by
    unfold Ar.grow
    split
    · simp
    · assumption
  refine ⟨hne, e _ ?_⟩
  unfold Ar.top
  rw [List.getLastD_eq_getLast?]
  cases hl : A.grow.free.getLast? with
  | none => exact absurd (List.getLast?_eq_none_iff.1 hl) hne
  | some x => exact List.mem_of_getLast? hl
theorem grow_q (A : Ar) : A.grow.quotas = A.quotas ∧ A.grow.many = A.many := by unfold Ar.grow; split <;> exact ⟨rfl, rfl⟩
theorem grow_len (A : Ar) : A.grow.slots.length ≤ A.slots.length + 1 := by unfold Ar.grow; split <;> simp
theorem grow_fn (A : Ar) (h : A.free.length < 1000000) : A.grow.free.length < 1000000 := by
  unfold Ar.grow
  split
  · simp
  · exact h
theorem grow_uses (A : Ar) (h : ∀ s ∈ A.slots, s.uses < 1000000) : ∀ s ∈ A.grow.slots, s.uses < 1000000 := by
  unfold Ar.grow
  split
  · intro s hs; simp at hs; rcases hs with hs | rfl; exact h s hs; decide
  · exact h
end Go.Proofs.YtmmfpkkkpeapeaaGreatDoor.ar
