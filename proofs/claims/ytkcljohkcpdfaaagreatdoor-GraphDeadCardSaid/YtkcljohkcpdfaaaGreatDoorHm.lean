/- Lists of membranes, rows of truths, of numbers in memory: plain. -/
import Derived.Test.YtkcljohkcpdfaaaGreatDoorHp
import Derived.Laws.MakeOwn
import Derived.Laws.Rows
import Derived.Deep.AppendLies
set_option linter.unusedVariables false
namespace Go.Proofs.YtkcljohkcpdfaaaGreatDoor.gr
open Go.RowKit Go.Maps mem
set_option maxRecDepth 100000
set_option maxHeartbeats 400000
def Up (w w' : World) : Prop := Below w.heap.size w w'
theorem Up.refl (w : World) : Up w w := Below.refl _ _
theorem Up.trans {a b c : World} (h : Up a b) (k : Up b c) : Up a c := Below.trans h (Below.mono k (Below.size h))
theorem Up.alloc {a b : World} (h : Up a b) (o : Obj) : Up a (b.alloc o) := Below.alloc h (Below.size h) o
theorem Up.drew {a b : World} (h : Up a b) : Up a b.drew := Below.drew h
theorem Up.chg {a b : World} (h : Up a b) : Chg [] a b := Chg.of_up h
theorem up_cell {w w' : World} {p : Addr} {v : Value} (u : Up w w') (h : w.cell? p = some v) : w'.cell? p = some v := (u.chg.cell (World.block_lt_of_cell? w _ h) (by simp)).trans h
theorem up_of {W wr wa : World} {F : List Nat} (u : Up wa W) (c : Chg F W wr) (h : ∀ b ∈ F, wa.heap.size ≤ b) : Up wa wr := ((u.chg.mono (by simp)).trans c (fun b hb => .inl hb)).to_up h
theorem blk_new' (w : World) (cs : Array Value) (t : TypeId) : Blk (w.alloc (.cells cs t)) w.heap.size cs t ∧ Up w (w.alloc (.cells cs t)) := ⟨Blk.new w cs t, (Up.refl w).alloc _⟩
theorem info_of {o : Option TypeInfo} {z : Option Value} {s b : Nat} (h : o.map (fun i => (i.zero, i.size, i.bytes)) = some (z, s, b)) : ∃ i, o = some i ∧ i.zero = z ∧ i.size = s ∧ i.bytes = b := by
  cases o with
  | none => cases h
  | some i => cases h; exact ⟨i, rfl, rfl, rfl, rfl⟩
theorem owns_slice {w : World} {base : Nat} {e : TypeId} {sz n : Nat} {v : Value} {xs : List Value} (h : w.ownsRow base e sz v n xs) : ∃ a cap, v = .slice a n cap := by
  rcases h.2 with ⟨e1, e2⟩ | ⟨g, cap, cur, e1, -⟩
  · exact ⟨none, 0, by rw [e2]; exact e1⟩
  · exact ⟨_, cap, e1⟩
/-- A slice of whole numbers. -/
def IntsAt (w : World) (v : Value) (l : List Int) : Prop :=
  ∃ (a : Option Addr) (cap : Nat), v = .slice a l.length cap ∧ (l.length = 0 ∨ ∃ b off, a = some ⟨b, off, none⟩ ∧ b < w.heap.size ∧ ∀ i x, l[i]? = some x → w.cell? ⟨b, off + i, none⟩ = some (.int .i64 x))
theorem IntsAt.up {w w' : World} {v : Value} {l : List Int} (h : IntsAt w v l) (u : Up w w') : IntsAt w' v l := by
  obtain ⟨a, cap, e, h⟩ := h
  refine ⟨a, cap, e, h.imp id ?_⟩
  rintro ⟨b, off, e1, e2, e3⟩
  exact ⟨b, off, e1, Nat.lt_of_lt_of_le e2 u.size, fun i x hx => up_cell u (e3 i x hx)⟩
theorem ints_of {w : World} {base : Nat} {v : Value} {l : List Int} (h : w.ownsRow base 3 1 v l.length (l.map (Value.int .i64))) : IntsAt w v l := by
  by_cases h0 : l.length = 0
  · rcases h.2 with ⟨e, -⟩ | ⟨g, cap, cur, e, -⟩
    · exact ⟨none, 0, by rw [h0]; exact e, .inl h0⟩
    · exact ⟨some ⟨g, 0, none⟩, cap, e, .inl h0⟩
  obtain ⟨g, c, rfl, -, hlt⟩ := h.form (by omega)
  refine ⟨some ⟨g, 0, none⟩, c, rfl, .inr ⟨g, 0, rfl, hlt, fun i x hx => ?_⟩⟩
  have hi := (List.getElem?_eq_some_iff.1 hx).1
  rw [Nat.zero_add, World.ownsRow.cellAt h i (by omega), List.getElem?_map, hx]
  rfl
/-! ### membranes -/
def cellsM (m : Mb) : List Value := [.int .i64 m.1, .int .i64 m.2.1, .bool m.2.2]
def MbAt (w : World) (b o : Nat) (m : Mb) : Prop := w.cell? ⟨b, o, none⟩ = some (.int .i64 m.1) ∧ w.cell? ⟨b, o + 1, none⟩ = some (.int .i64 m.2.1) ∧ w.cell? ⟨b, o + 2, none⟩ = some (.bool m.2.2)
def MsAt (w : World) (v : Value) (l : List Mb) : Prop :=
  ∃ (a : Option Addr) (cap : Nat), v = .slice a l.length cap ∧ (l.length = 0 ∨ ∃ b off, a = some ⟨b, off, none⟩ ∧ b < w.heap.size ∧ ∀ i x, l[i]? = some x → MbAt w b (off + i * 3) x)
theorem MbAt.up {w w' : World} {b o : Nat} {m : Mb} (h : MbAt w b o m) (u : Up w w') : MbAt w' b o m := ⟨up_cell u h.1, up_cell u h.2.1, up_cell u h.2.2⟩
theorem MsAt.up {w w' : World} {v : Value} {l : List Mb} (h : MsAt w v l) (u : Up w w') : MsAt w' v l := by
  obtain ⟨a, cap, e, h⟩ := h
  refine ⟨a, cap, e, h.imp id ?_⟩
  rintro ⟨b, off, e1, e2, e3⟩
  exact ⟨b, off, e1, Nat.lt_of_lt_of_le e2 u.size, fun i x hx => (e3 i x hx).up u⟩
theorem flat3_get : ∀ (l : List Mb) (n j : Nat) (s : Mb), l[n]? = some s → j < 3 → (l.flatMap cellsM)[n * 3 + j]? = (cellsM s)[j]?
  | [], n, j, s, h, _ => by simp at h
  | a :: l, 0, j, s, h, hj => by
    simp at h; subst h
    rw [List.flatMap_cons, List.getElem?_append_left (by show _ < 3; omega)]; simp
  | a :: l, n + 1, j, s, h, hj => by
    simp at h
    rw [List.flatMap_cons, List.getElem?_append_right (by show 3 ≤ _; omega), show (cellsM a).length = 3 from rfl, show (n + 1) * 3 + j - 3 = n * 3 + j by omega]
    exact flat3_get l n j s h hj
theorem ms_of {w : World} {base : Nat} {v : Value} {l : List Mb} (h : w.ownsRow base 31 3 v l.length (l.flatMap cellsM)) : MsAt w v l := by
  by_cases h0 : l.length = 0
  · rcases h.2 with ⟨e, -⟩ | ⟨g, cap, cur, e, -⟩
    · exact ⟨none, 0, by rw [h0]; exact e, .inl h0⟩
    · exact ⟨some ⟨g, 0, none⟩, cap, e, .inl h0⟩
  obtain ⟨g, c, rfl, -, hlt⟩ := h.form (by omega)
  refine ⟨some ⟨g, 0, none⟩, c, rfl, .inr ⟨g, 0, rfl, hlt, fun i x hx => ?_⟩⟩
  have hi := (List.getElem?_eq_some_iff.1 hx).1
  rw [Nat.zero_add]
  have cell : ∀ j, j < 3 → w.cell? ⟨g, i * 3 + j, none⟩ = (cellsM x)[j]? := fun j hj => by
    rw [World.ownsRow.cellAt h (i * 3 + j) (by omega)]
    exact flat3_get l i j x hx hj
  exact ⟨cell 0 (by omega), cell 1 (by omega), cell 2 (by omega)⟩
/-! ### who was seen -/
/-- A block of n truths. -/
def SeenAt (w : World) (b n : Nat) (S : Nat → Bool) : Prop := ∃ cs, Blk w b cs 4 ∧ cs.size = n ∧ ∀ i, i < n → cs[i]? = some (.bool (S i))
theorem SeenAt.chg {F : List Nat} {w w' : World} {b n : Nat} {S : Nat → Bool} (h : SeenAt w b n S) (c : Chg F w w') (hn : b ∉ F) : SeenAt w' b n S := by
  obtain ⟨cs, h1, h2⟩ := h
  exact ⟨cs, h1.chg c hn, h2⟩
theorem SeenAt.cell {w : World} {b n : Nat} {S : Nat → Bool} (h : SeenAt w b n S) {i : Nat} (hi : i < n) : w.cell? ⟨b, i, none⟩ = some (.bool (S i)) ∧ w.frozen? ⟨b, i, none⟩ = false ∧ b < w.heap.size := by
  obtain ⟨cs, h1, h2, h3⟩ := h
  exact ⟨(h1.cell i).trans (h3 i hi), frozen_of_row w b i _ _ h1, h1.lt⟩
theorem SeenAt.set {w : World} {b n : Nat} {S : Nat → Bool} (h : SeenAt w b n S) {i : Nat} (hi : i < n) : SeenAt (w.setCell ⟨b, i, none⟩ (.bool true)) b n (setS S i) := by
  obtain ⟨cs, h1, h2, h3⟩ := h
  refine ⟨cs.setIfInBounds i (.bool true), heap_setCell_same w b i _ _ _ h1, by simp [h2], fun j hj => ?_⟩
  unfold setS
  by_cases e : j = i
  · subst e
    rw [if_pos rfl, Array.getElem?_setIfInBounds_self_of_lt (by omega)]
  · rw [if_neg e, Array.getElem?_setIfInBounds_ne (fun h => e h.symm), h3 j hj]
theorem set_chg (w : World) (b i : Nat) (v : Value) : Chg [b] w (w.setCell ⟨b, i, none⟩ v) := (Chg.refl [b] w).setCell (p := ⟨b, i, none⟩) (.inl (by simp)) v
theorem madeb_get (n i : Nat) (h : i < n) : (madeCells #[.bool false] n)[i]? = some (.bool false) := by
  rw [← Array.getElem?_toList]
  simp only [madeCells, Array.toList_map, Array.toList_range, List.getElem?_map, List.getElem?_range h, Option.map_some]
  show some ((#[Value.bool false] : Array Value)[i % 1]!) = some (.bool false)
  rw [show i % 1 = 0 by omega]
  rfl
theorem SeenAt.start (w : World) (n : Nat) : SeenAt (w.alloc (.cells (madeCells #[.bool false] n) 4)) w.heap.size n (fun _ => false) :=
  ⟨_, Blk.new w _ _, size_madeCells _ _, fun i hi => madeb_get n i hi⟩
end Go.Proofs.YtkcljohkcpdfaaaGreatDoor.gr
