/- A slice handed in: its elements' places and cells, as facts on memory that nothing turns. No condition. -/
import Derived.Test.YtdgeilfopkbacaaGreatDoorEvDc
import Derived.OpenShut
import Derived.DataElems
import Derived.ChangeSlices
set_option linter.unusedSectionVars false
set_option linter.unusedVariables false
set_option linter.unusedSimpArgs false
namespace Go.Proofs.YtdgeilfopkbacaaGreatDoor.Ev
open Go Go.RowKit

/-- The elements of a slice of pairs of bytes. -/
def PairsAt (a : Addr) (xs : List (Int × Int)) (w : World) : Prop := ∀ (i : Nat) (x : Int × Int), xs[i]? = some x → w.cell? (a.add (i * 2)) = some (.int .u8 x.1) ∧ w.cell? ((a.add (i * 2)).add 1) = some (.int .u8 x.2)
theorem block_of_cell {w : World} {a : Addr} {v : Value} (h : w.cell? a = some v) : a.block < w.heap.size := by
  unfold World.cell? at h
  split at h
  · rename_i e; exact @lt_of_heap Sym.none _ _ _ e
  · cases h
theorem PairsAt.keep {a : Addr} {xs : List (Int × Int)} {w : World} (h0 : PairsAt a xs w) (w1 w2 : World) (hb : Below w.heap.size w1 w2) (h : PairsAt a xs w1) : PairsAt a xs w2 := by
  intro i x e
  have hlt := block_of_cell (h0 i x e).1
  obtain ⟨c1, c2⟩ := h i x e
  have e1 : ((a.add (i * 2)).add 1).block = (a.add (i * 2)).block := Go.ChangeShapes.block_add _ _
  exact ⟨by rw [hb.cell hlt]; exact c1, by rw [hb.cell (by rw [e1]; exact hlt)]; exact c2⟩
theorem size_of_ti {P : Program} {t n : Nat} (h : (tiOf P t).map (·.size) = some n) (w : World) : (sizeOf t).run P w = .ok n w := by
  obtain ⟨i, hi, rfl⟩ := Option.map_eq_some_iff.1 h
  letI : Sym := symOf [] rfl
  exact run_sizeOf_tab (envOf_ok P 0 (eqT := fun _ _ _ => none) (fun _ _ _ _ e => by cases e)) hi w
theorem agg_of_ti {P : Program} {t : Nat} {b : Bool} (h : (tiOf P t).map (fun i => aggB i.desc) = some b) (w : World) : (isAgg t).run P w = .ok b w := by
  obtain ⟨i, hi, rfl⟩ := Option.map_eq_some_iff.1 h
  letI : Sym := symOf [] rfl
  exact run_isAgg_tab (envOf_ok P 0 (eqT := fun _ _ _ => none) (fun _ _ _ _ e => by cases e)) hi w
section
variable {P : Program} {w : World}
theorem mem_len {t e n cap : Nat} {a : Addr} (hu : P.underlying t = some (.slice e)) : FK.Runs P w (.int .i64 n) (.len t) [.slice (some a) n cap] := by
  intro ty
  simp [Builtin.len_, underlying, hu]
  rfl
theorem mem_len0 {t e : Nat} (hu : P.underlying t = some (.slice e)) : FK.Runs P w (.int .i64 0) (.len t) [.slice none 0 0] := by
  intro ty
  simp [Builtin.len_, underlying, hu]
  rfl
theorem mem_index {t e sz n cap i : Nat} {a : Addr} (hu : P.underlying t = some (.slice e)) (hs : (tiOf P e).map (·.size) = some sz) (hi : i < n) : FK.Runs P w (.pointer (some (a.add (i * sz)))) (.indexAddr t) [.slice (some a) n cap, .int .i64 i] := by
  show (Instr.indexAt t (.slice (some a) n cap) (.int .i64 i)).run P w = _
  have h1 : (0 : Int) ≤ (i : Int) ∧ (i : Int) < (n : Int) := ⟨by omega, by omega⟩
  simp only [Instr.indexAt, asIntOf, Sem.run_bind, Sem.run_pure, Result.andThen_ok, run_underlying hu, size_of_ti hs w, if_pos h1, Int.toNat_natCast]
theorem mem_pair {t : Nat} {p : Addr} {x y : Value} (hs : (tiOf P t).map (·.size) = some 2) (ha : (tiOf P t).map (fun i => aggB i.desc) = some true) (h0 : w.cell? p = some x) (h1 : w.cell? (p.add 1) = some y) : FK.Runs P w (.agg #[x, y]) (.load t) [.pointer (some p)] := by
  show (Instr.loadAt t (.pointer (some p))).run P w = _
  have base : (Instr.loadAt t (.pointer (some p))).run P w = (loadVar t p).run P w := by
    simp [Instr.loadAt, Instr.sureAddr]
  rw [base]
  have e0 : p.add 0 = p := by simp [Addr.add]
  simp only [loadVar, Sem.run_bind, agg_of_ti ha w, Result.andThen_ok, if_true, size_of_ti hs w, loadCells, loadCellsFrom, run_load, e0, h0, h1, Sem.run_pure]
  rfl
end
theorem pureF_neqb {P : Program} {t : TypeId} (h : P.underlying t = some .bool) (a : Bool) : pureF P (.bin .neq t) [.bool a, .bool a] = some (.bool false) := by
  simp only [pureF, h, beq_self_eq_true, Bool.not_true]
theorem pureF_eqbb {P : Program} {t : TypeId} (h : P.underlying t = some .bool) (a : Bool) : pureF P (.bin .eql t) [.bool a, .bool a] = some (.bool true) := by
  simp only [pureF, h, beq_self_eq_true]
/-- A slice of pairs of bytes, opened. -/
theorem open_pairs {H : Type} {enc : TypeId × Value → H} {P : Program} {w : World} {base : Nat} {spare : Nat → Bool} {held : Bool} {fuel : Nat} {t e u : TypeId} {cs : List Value} {x : DataW H × List MemPlace}
    (ht : P.underlying t = some (.slice e)) (he : P.underlying e = some (.array 2 u)) (hu : P.underlying u = some (.int .u8)) (hc : P.cellsOf e = 2) (hcu : P.cellsOf u = 1) (h : DataW.trod enc P w base spare held fuel t cs = some x) :
    cs = [.slice none 0 0] ∨ ∃ (a : Addr) (n cap : Nat) (xs : List (Int × Int)), cs = [.slice (some a) n cap] ∧ xs.length = n ∧ PairsAt a xs w ∧ ∀ p ∈ xs, (0 ≤ p.1 ∧ p.1 ≤ 255) ∧ (0 ≤ p.2 ∧ p.2 ≤ 255) := by
  rcases DataW.trod_slice ht h with ⟨h0, _⟩ | ⟨a, len, cap, elems, rest, n, _, rfl, rfl, hb, hl, hm, hlen, hel, _, _⟩
  · exact .inl h0
  right
  have each : ∀ i, i < len → ∃ p : Int × Int, (w.cell? (a.add (i * 2)) = some (.int .u8 p.1) ∧ w.cell? ((a.add (i * 2)).add 1) = some (.int .u8 p.2)) ∧ (0 ≤ p.1 ∧ p.1 ≤ 255) ∧ (0 ≤ p.2 ∧ p.2 ≤ 255) := by
    intro i hi
    obtain ⟨y, hy⟩ : ∃ y, elems[i]? = some y := ⟨elems[i]'(by omega), List.getElem?_eq_getElem (by omega)⟩
    have h1 := hel i hi
    rw [hy, hc, Option.bind_eq_some_iff] at h1
    obtain ⟨cs', hcs, htr⟩ := h1
    obtain ⟨_, hl2, hcell⟩ := World.cells?_some hcs
    obtain ⟨ys, m, _, _, _, hyl, hf⟩ := DataW.trod_array he htr
    have f0 := hf 0 (by omega)
    have f1 := hf 1 (by omega)
    rw [hcu] at f0 f1
    obtain ⟨y0, hy0⟩ : ∃ y, ys[0]? = some y := ⟨ys[0]'(by omega), List.getElem?_eq_getElem (by omega)⟩
    obtain ⟨y1, hy1⟩ : ∃ y, ys[1]? = some y := ⟨ys[1]'(by omega), List.getElem?_eq_getElem (by omega)⟩
    rw [hy0] at f0
    rw [hy1] at f1
    obtain ⟨k0, e0, _, w0⟩ := DataW.trod_int hu f0
    obtain ⟨k1, e1, _, w1⟩ := DataW.trod_int hu f1
    have c0 := hcell 0 (by omega)
    have c1 := hcell 1 (by omega)
    have g0 : cs'[0]? = some (.int .u8 k0) := by
      have := congrArg (·[0]?) e0
      simpa [List.getElem?_take, List.getElem?_drop] using this
    have g1 : cs'[1]? = some (.int .u8 k1) := by
      have := congrArg (·[0]?) e1
      simpa [List.getElem?_take, List.getElem?_drop] using this
    have ea : (a.add (i * 2)).add 0 = a.add (i * 2) := by simp [Addr.add]
    rw [ea, g0] at c0
    rw [g1] at c1
    have b8 : ∀ k : Int, (Lit.int .u8 k).wf = true → 0 ≤ k ∧ k ≤ 255 := by
      intro k h
      have h' : (decide (IntKind.u8.min ≤ k) && decide (k ≤ IntKind.u8.max)) = true := h
      simpa [IntKind.min, IntKind.max, IntKind.signed, IntKind.bits] using h'
    exact ⟨(k0, k1), ⟨c0, c1⟩, b8 _ w0, b8 _ w1⟩
  have build : ∀ m, m ≤ len → ∃ xs : List (Int × Int), xs.length = m ∧ (∀ (i : Nat) (p : Int × Int), xs[i]? = some p → (w.cell? (a.add (i * 2)) = some (.int .u8 p.1) ∧ w.cell? ((a.add (i * 2)).add 1) = some (.int .u8 p.2)) ∧ (0 ≤ p.1 ∧ p.1 ≤ 255) ∧ (0 ≤ p.2 ∧ p.2 ≤ 255)) := by
    intro m
    induction m with
    | zero => intro _; exact ⟨[], rfl, fun i p e => by simp at e⟩
    | succ m ih =>
      intro hm
      obtain ⟨xs, hx, hp⟩ := ih (by omega)
      obtain ⟨p, h1⟩ := each m (by omega)
      refine ⟨xs ++ [p], by simp [hx], fun i q e => ?_⟩
      rw [List.getElem?_append] at e
      split at e
      · exact hp i q e
      · rename_i hi
        have : i = m := by
          rcases Nat.lt_or_ge (i - xs.length) 1 with h | h
          · omega
          · rw [List.getElem?_eq_none (by simpa using h)] at e; cases e
        subst this
        rw [hx, Nat.sub_self] at e
        cases e
        exact h1
  obtain ⟨xs, hx, hp⟩ := build len (Nat.le_refl _)
  refine ⟨a, len, cap, xs, rfl, hx, fun i p e => (hp i p e).1, fun p hpm => ?_⟩
  · obtain ⟨i, hi⟩ := List.getElem?_of_mem hpm
    exact (hp i p hi).2
end Go.Proofs.YtdgeilfopkbacaaGreatDoor.Ev
