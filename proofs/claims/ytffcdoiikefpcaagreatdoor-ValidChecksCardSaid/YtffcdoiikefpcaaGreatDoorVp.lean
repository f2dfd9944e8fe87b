/- Modules in memory, built up: plain laws. -/
import Derived.Test.YtffcdoiikefpcaaGreatDoorVd
import Derived.Laws.MakeOwn
import Derived.Laws.Rows
import Derived.Deep.AppendLies
set_option linter.unusedVariables false
namespace Go.Proofs.YtffcdoiikefpcaaGreatDoor.vl
open Go.RowKit Go.Maps mem
set_option maxRecDepth 100000
set_option maxHeartbeats 400000
/-- A function as it lies in a row: the function, the values of its three slices. -/
abbrev Rf := Fn × Value × Value × Value
def fcells (r : Rf) : List Value := [.int .i64 r.1.params, r.2.1, .int .i64 r.1.regs, r.2.2.1, r.2.2.2]
theorem flat5_get : ∀ (l : List Rf) (n j : Nat) (s : Rf), l[n]? = some s → j < 5 → (l.flatMap fcells)[n * 5 + j]? = (fcells s)[j]?
  | [], n, j, s, h, _ => by simp at h
  | a :: l, 0, j, s, h, hj => by
    simp at h; subst h
    rw [List.flatMap_cons, List.getElem?_append_left (by show _ < 5; omega)]; simp
  | a :: l, n + 1, j, s, h, hj => by
    simp at h
    rw [List.flatMap_cons, List.getElem?_append_right (by show 5 ≤ _; omega), show (fcells a).length = 5 from rfl, show (n + 1) * 5 + j - 5 = n * 5 + j by omega]
    exact flat5_get l n j s h hj
theorem flat5_len : ∀ l : List Rf, (l.flatMap fcells).length = l.length * 5
  | [] => rfl
  | a :: l => by rw [List.flatMap_cons, List.length_append, flat5_len l, List.length_cons, show (fcells a).length = 5 from rfl]; omega
def RfIs (w : World) (r : Rf) : Prop := FnIs w r.1 r.2.1 r.2.2.1 r.2.2.2
/-- A row of functions is a slice of them. -/
theorem fns_of {w : World} {base : Nat} {sv : Value} {R : List Rf} (h : w.ownsRow base 42 5 sv R.length (R.flatMap fcells)) (hr : ∀ r ∈ R, RfIs w r) : FnsAt w sv (R.map (·.1)) := by
  by_cases h0 : R.length = 0
  · have hR : R = [] := List.length_eq_zero_iff.1 h0
    subst hR
    rcases h.2 with ⟨e, -⟩ | ⟨g, cap, cur, e, -⟩
    · exact ⟨none, 0, e, .inl rfl⟩
    · exact ⟨some ⟨g, 0, none⟩, cap, e, .inl rfl⟩
  obtain ⟨g, c, hv, -, hlt⟩ := h.form (by omega)
  refine ⟨some ⟨g, 0, none⟩, c, by rw [List.length_map]; exact hv, .inr ⟨g, 0, rfl, hlt, fun i x hx => ?_⟩⟩
  rw [List.getElem?_map] at hx
  cases hy : R[i]? with
  | none => rw [hy] at hx; cases hx
  | some r =>
    rw [hy] at hx
    cases hx
    have hi := (List.getElem?_eq_some_iff.1 hy).1
    subst hv
    have cell : ∀ j, j < 5 → w.cell? ⟨g, i * 5 + j, none⟩ = (fcells r)[j]? := fun j hj => by
      rw [World.ownsRow.cellAt h (i * 5 + j) (by omega)]
      exact flat5_get R i j r hy hj
    rw [Nat.zero_add]
    exact ⟨_, _, _, hr r (List.mem_of_getElem? hy), cell 0 (by omega), cell 1 (by omega), cell 2 (by omega), cell 3 (by omega), cell 4 (by omega)⟩
theorem RfIs.up {w w' : World} {r : Rf} (h : RfIs w r) (u : Up w w') : RfIs w' r := FnIs.up h u
/-- The module's block bm holds the slice sv of functions R. -/
structure M2 (W2 wr : World) (bm : Nat) (sv : Value) (R : List Rf) : Prop where
  up : Up W2 wr
  bo : Blk wr bm #[sv] 31
  row : wr.ownsRow W2.heap.size 42 5 sv R.length (R.flatMap fcells)
  nb : ∀ g, sv.ownBlock = some g → g ≠ bm
  lo : W2.heap.size ≤ bm
theorem M2.start (w2 : World) (r : Rf) : M2 w2 ((w2.alloc (.cells (fcells r).toArray 42)).alloc (.cells #[.slice (some ⟨w2.heap.size, 0, none⟩) 1 1] 31)) (w2.heap.size + 1) (.slice (some ⟨w2.heap.size, 0, none⟩) 1 1) [r] := by
  have hB := (Blk.new w2 (fcells r).toArray 42).chg ((Up.refl _).alloc (.cells #[.slice (some ⟨w2.heap.size, 0, none⟩) 1 1] 31)).chg (by simp)
  have hM := Blk.new (w2.alloc (.cells (fcells r).toArray 42)) #[.slice (some ⟨w2.heap.size, 0, none⟩) 1 1] 31
  rw [World.size_alloc] at hM
  refine ⟨((Up.refl w2).alloc _).alloc _, hM, ⟨rfl, .inr ⟨w2.heap.size, 1, _, rfl, Nat.le_refl _, hB, Nat.le_refl _, by unfold maxLen; omega, rfl, rfl⟩⟩, fun g hg => by cases hg; show w2.heap.size ≠ w2.heap.size + 1; omega, by omega⟩
theorem M2.mid {W2 wr w5 : World} {bm : Nat} {sv : Value} {R : List Rf} (h : M2 W2 wr bm sv R) (hg : wr.grownBy w5 sv.ownBlock) : Blk w5 bm #[sv] 31 :=
  h.bo.chg ((Chg.refl (sv.ownBlock.toList) wr).grown hg (fun b hb => .inl (by simp [hb]))) (fun hx => h.nb bm (by simpa using hx) rfl)
theorem M2.grow {W2 wr wr1 : World} {bm : Nat} {sv : Value} {R : List Rf} (h : M2 W2 wr bm sv R) (u : Up wr wr1) : M2 W2 wr1 bm sv R :=
  ⟨Up.trans h.up u, h.bo.chg u.chg (by simp), owns_chg h.row u.chg (by simp), h.nb, h.lo⟩
theorem M2.next {W2 wr w5 : World} {bm g c n1 : Nat} {sv : Value} {R : List Rf} {r : Rf} (h : M2 W2 wr bm sv R)
    (hrow : w5.ownsRow W2.heap.size 42 5 (.slice (some ⟨g, 0, none⟩) n1 c) n1 (R.flatMap fcells ++ fcells r)) (hn : n1 = R.length + 1) (hg : wr.grownBy w5 sv.ownBlock) (at_ : sv.ownBlock = some g ∨ wr.heap.size ≤ g) :
    M2 W2 (w5.setCell ⟨bm, 0, none⟩ (.slice (some ⟨g, 0, none⟩) n1 c)) bm (.slice (some ⟨g, 0, none⟩) n1 c) (R ++ [r]) := by
  subst hn
  have z := h.up.size
  have lt := h.bo.lt
  have lo := h.lo
  have hne : g ≠ bm := by
    rcases at_ with h1 | h1
    · exact h.nb g h1
    · omega
  have own : ∀ b, sv.ownBlock = some b → W2.heap.size ≤ b := fun b hb => (h.row.lt b hb).1
  have C5 : Chg sv.ownBlock.toList wr w5 := (Chg.refl _ wr).grown hg (fun b hb => .inl (by simp [hb]))
  have b5 : Blk w5 bm #[sv] 31 := h.bo.chg C5 (fun hx => h.nb bm (by simpa using hx) rfl)
  have CS : Chg [bm] w5 (w5.setCell ⟨bm, 0, none⟩ (.slice (some ⟨g, 0, none⟩) (R.length + 1) c)) := (Chg.refl [bm] w5).setCell (p := ⟨bm, 0, none⟩) (.inl (by simp)) _
  have CA : Chg [] W2 (w5.setCell ⟨bm, 0, none⟩ (.slice (some ⟨g, 0, none⟩) (R.length + 1) c)) := by
    refine Chg.weak (G := []) (F := sv.ownBlock.toList ++ [bm]) ?_ ?_
    · exact ((h.up.chg.mono (by simp)).trans (C5.mono (fun x hx => List.mem_append_left _ hx)) (fun x hx => .inl hx)).trans (CS.mono (fun x hx => List.mem_append_right _ hx)) (fun x hx => .inl hx)
    · intro x hx
      rcases List.mem_append.1 hx with h1 | h1
      · exact .inr (own x (by simpa using h1))
      · rw [List.mem_singleton.1 h1]; exact .inr lo
  refine ⟨CA.up, ?_, ?_, fun b hb => by cases hb; exact hne, lo⟩
  · have e := heap_setCell_same w5 bm 0 _ _ (.slice (some ⟨g, 0, none⟩) (R.length + 1) c) b5
    unfold Blk
    rw [e]
    simp
  · rw [List.length_append, List.flatMap_append]
    have e : ([r] : List Rf).flatMap fcells = fcells r := by simp
    rw [e]
    exact owns_chg hrow CS (fun b hb hx => by cases hb; exact hne (List.mem_singleton.1 hx))
/-! ### the code of ValidMany: made empty, each op set -/
def cellI (t j : Nat) : Value := if j % 4 = 0 then (if j / 4 < t then .int .u8 18 else .int .u8 0) else .int .i64 0
structure M1 (W1 wr : World) (cb K t : Nat) : Prop where
  cg : Chg [cb] W1 wr
  blk : ∃ cs, Blk wr cb cs 45 ∧ ∀ j, j < K * 4 → cs[j]? = some (cellI t j)
theorem made4_get (K j : Nat) (h : j < K * 4) : (madeCells #[.int .u8 0, .int .i64 0, .int .i64 0, .int .i64 0] (K * 4))[j]? = some (cellI 0 j) := by
  rw [← Array.getElem?_toList]
  simp only [madeCells, Array.toList_map, Array.toList_range, List.getElem?_map, List.getElem?_range h, Option.map_some]
  show some ((#[Value.int .u8 0, .int .i64 0, .int .i64 0, .int .i64 0] : Array Value)[j % 4]!) = some (cellI 0 j)
  unfold cellI
  have h4 : j % 4 = 0 ∨ j % 4 = 1 ∨ j % 4 = 2 ∨ j % 4 = 3 := by omega
  rcases h4 with e | e | e | e <;> rw [e] <;> simp
theorem M1.next {W1 wr : World} {cb K t : Nat} (h : M1 W1 wr cb K t) (ht : t < K) : M1 W1 (wr.setCell ⟨cb, t * 4, none⟩ (.int .u8 18)) cb K (t + 1) := by
  obtain ⟨cs, hb, hc⟩ := h.blk
  refine ⟨h.cg.setCell (p := ⟨cb, t * 4, none⟩) (.inl (by simp)) _, cs.setIfInBounds (t * 4) (.int .u8 18), heap_setCell_same wr cb (t * 4) _ _ _ hb, fun j hj => ?_⟩
  by_cases e : t * 4 = j
  · subst e
    have hs : t * 4 < cs.size := (Array.getElem?_eq_some_iff.1 (hc _ hj)).1
    rw [Array.getElem?_setIfInBounds_self_of_lt hs]
    unfold cellI
    rw [if_pos (by omega), if_pos (by omega)]
  · rw [Array.getElem?_setIfInBounds_ne e, hc j hj]
    unfold cellI
    by_cases h4 : j % 4 = 0
    · rw [if_pos h4, if_pos h4]
      by_cases h5 : j / 4 < t
      · rw [if_pos h5, if_pos (by omega)]
      · rw [if_neg h5, if_neg (by omega)]
    · rw [if_neg h4, if_neg h4]
def ret0 : Ins := ⟨18, 0, 0, 0⟩
theorem M1.code {W1 wr : World} {cb K n c : Nat} (h : M1 W1 wr cb K K) (hn : n ≤ K) : CodeAt wr (.slice (some ⟨cb, 0, none⟩) n c) (List.replicate n ret0) := by
  obtain ⟨cs, hb, hc⟩ := h.blk
  refine ⟨some ⟨cb, 0, none⟩, c, by rw [List.length_replicate], ?_⟩
  by_cases h0 : n = 0
  · exact .inl (by rw [List.length_replicate]; exact h0)
  refine .inr ⟨cb, 0, rfl, hb.lt, fun i x hx => ?_⟩
  have hi : i < n := by have := (List.getElem?_eq_some_iff.1 hx).1; rwa [List.length_replicate] at this
  rw [List.getElem?_replicate, if_pos hi] at hx
  cases hx
  have cell : ∀ j, j < 4 → wr.cell? ⟨cb, 0 + i * 4 + j, none⟩ = some (cellI K (i * 4 + j)) := fun j hj => by
    rw [Nat.zero_add, hb.cell (i * 4 + j)]
    exact hc _ (by omega)
  have v0 : cellI K (i * 4 + 0) = .int .u8 18 := by unfold cellI; rw [if_pos (by omega), if_pos (by omega)]
  have v1 : cellI K (i * 4 + 1) = .int .i64 0 := by unfold cellI; rw [if_neg (by omega)]
  have v2 : cellI K (i * 4 + 2) = .int .i64 0 := by unfold cellI; rw [if_neg (by omega)]
  have v3 : cellI K (i * 4 + 3) = .int .i64 0 := by unfold cellI; rw [if_neg (by omega)]
  exact ⟨(cell 0 (by omega)).trans (by rw [v0]; rfl), (cell 1 (by omega)).trans (by rw [v1]; rfl), (cell 2 (by omega)).trans (by rw [v2]; rfl), (cell 3 (by omega)).trans (by rw [v3]; rfl)⟩
end Go.Proofs.YtffcdoiikefpcaaGreatDoor.vl
