/- ValueKeys: what was handed in, opened; the walk at no value, at more than forty. -/
import Derived.Test.YtjhpigbilfbikaaWk
import Derived.Lib.LaidU8
set_option linter.unusedVariables false
namespace Go.Proofs.Ytjhpigbilfbikaa.Fin
open Go.RowKit Go.Maps Mk Wk
set_option maxHeartbeats 1000000 in
set_option maxRecDepth 100000 in
theorem keys_long (a : Option Addr) (len cap : Nat) (w : World) (hlen : 40 < len) : Calls Try.prog 3 #[.slice a len cap] w fun e w' => e = .returned (.bool true) ∧ Up w w' := by
  have il : (40 : Int) < (len : Int) := by omega
  go_enter Try.func3, Try.ntmps3
  go_wp2_with (go_at_call 4; refine (awake _).mono ?_; rintro e w0 ⟨rfl, hb0⟩)
  go_ret
  exact ⟨rfl, hb0⟩
set_option maxHeartbeats 1000000 in
set_option maxRecDepth 100000 in
theorem keys_zero (a : Option Addr) (cap : Nat) (w : World) : Calls Try.prog 3 #[.slice a 0 cap] w fun e w' => e = .returned (.bool true) ∧ Up w w' := by
  have hmm := @run_makeMap Try.prog
  go_enter Try.func3, Try.ntmps3
  go_wp2_with (go_at_call 4; refine (awake _).mono ?_; rintro e w0 ⟨rfl, hb0⟩)
  have hl := fun ty => (World.ownsMap_made (H := Unit) w0 Try.prog 29 (plainElem Try.prog 3)).len Try.underlying24 ty
  simp only [Maps.size] at hl
  refine wp_loop_rounds 1 ?_
  rw [rounds_succ]
  go_wp2
  refine wp_loop_rounds 1 ?_
  rw [rounds_succ]
  go_wp2
  go_ret
  exact ⟨rfl, Up.alloc hb0 _⟩
theorem open_vs {H : Type} {enc : TypeId × Value → H} {w : World} {base : Nat} {spare : Nat → Bool} {held : Bool} {fuel : Nat} {cs : List Value} {x : DataW H × List MemPlace} (h : DataW.trod enc Try.prog w base spare held fuel 22 cs = some x) :
    cs = [.slice none 0 0] ∨ ∃ (a : Addr) (n cap : Nat) (kk nn : Nat → Int) (ss : Nat → ByteArray), cs = [.slice (some a) n cap] ∧ ∀ i, i < n →
      (w.cell? (a.add (i * 3)) = some (.int .u8 (kk i)) ∧ w.cell? ((a.add (i * 3)).add 1) = some (.int .i64 (nn i)) ∧ w.cell? ((a.add (i * 3)).add 2) = some (.string (ss i))) ∧ (Lit.int .u8 (kk i)).wf = true ∧ (Lit.int .i64 (nn i)).wf = true ∧ (ss i).size ≤ maxLen := by
  rcases DataW.trod_slice Try.underlying22 h with ⟨h0, _⟩ | ⟨a, len, cap, elems, rest, n, _, rfl, rfl, hb, hl, hm, hlen, hel, _, _⟩
  · exact .inl h0
  right
  have hc : Try.prog.cellsOf 26 = 3 := by kernel_rfl
  have c5 : Try.prog.cellsOf 5 = 1 := by kernel_rfl
  have c2 : Try.prog.cellsOf 2 = 1 := by kernel_rfl
  have c9 : Try.prog.cellsOf 9 = 1 := by kernel_rfl
  have each : ∀ i, ∃ p : Int × Int × ByteArray, i < len → (w.cell? (a.add (i * 3)) = some (.int .u8 p.1) ∧ w.cell? ((a.add (i * 3)).add 1) = some (.int .i64 p.2.1) ∧ w.cell? ((a.add (i * 3)).add 2) = some (.string p.2.2)) ∧ (Lit.int .u8 p.1).wf = true ∧ (Lit.int .i64 p.2.1).wf = true ∧ p.2.2.size ≤ maxLen := by
    intro i
    by_cases hi : i < len
    · obtain ⟨y, hy⟩ : ∃ y, elems[i]? = some y := ⟨elems[i]'(by omega), List.getElem?_eq_getElem (by omega)⟩
      have h1 := hel i hi
      rw [hy, hc, Option.bind_eq_some_iff] at h1
      obtain ⟨cs', hcs, htr⟩ := h1
      obtain ⟨_, hl2, hcell⟩ := World.cells?_some hcs
      obtain ⟨ys, m, _, _, _, hyl, hf⟩ := DataW.trod_struct Try.underlying26 htr
      have f0 : DataW.trod enc Try.prog w base spare held m 5 ((cs'.drop 0).take 1) = ys[0]? := by rw [← c5]; exact hf 0 _ rfl
      have f1 : DataW.trod enc Try.prog w base spare held m 2 ((cs'.drop 1).take 1) = ys[1]? := by rw [← c2]; exact hf 1 _ rfl
      have f2 : DataW.trod enc Try.prog w base spare held m 9 ((cs'.drop 2).take 1) = ys[2]? := by rw [← c9]; exact hf 2 _ rfl
      have hyl' : ys.length = 3 := by simpa using hyl
      obtain ⟨y0, hy0⟩ : ∃ y, ys[0]? = some y := ⟨ys[0]'(by omega), List.getElem?_eq_getElem (by omega)⟩
      obtain ⟨y1, hy1⟩ : ∃ y, ys[1]? = some y := ⟨ys[1]'(by omega), List.getElem?_eq_getElem (by omega)⟩
      obtain ⟨y2, hy2⟩ : ∃ y, ys[2]? = some y := ⟨ys[2]'(by omega), List.getElem?_eq_getElem (by omega)⟩
      rw [hy0] at f0
      rw [hy1] at f1
      rw [hy2] at f2
      obtain ⟨k0, e0, _, w0⟩ := DataW.trod_int Try.underlying5 f0
      obtain ⟨k1, e1, _, w1⟩ := DataW.trod_int Try.underlying2 f1
      obtain ⟨k2, e2, _, w2⟩ := DataW.trod_string Try.underlying9 f2
      have g0 : cs'[0]? = some (.int .u8 k0) := by
        have := congrArg (·[0]?) e0
        simpa [List.getElem?_take, List.getElem?_drop] using this
      have g1 : cs'[1]? = some (.int .i64 k1) := by
        have := congrArg (·[0]?) e1
        simpa [List.getElem?_take, List.getElem?_drop] using this
      have g2 : cs'[2]? = some (.string k2) := by
        have := congrArg (·[0]?) e2
        simpa [List.getElem?_take, List.getElem?_drop] using this
      have d0 := hcell 0 (by omega)
      have d1 := hcell 1 (by omega)
      have d2 := hcell 2 (by omega)
      have ea : (a.add (i * 3)).add 0 = a.add (i * 3) := by simp [Addr.add]
      rw [ea, g0] at d0
      rw [g1] at d1
      rw [g2] at d2
      exact ⟨(k0, k1, k2), fun _ => ⟨⟨d0, d1, d2⟩, w0, w1, w2⟩⟩
    · exact ⟨(0, 0, ⟨#[]⟩), fun h => absurd h hi⟩
  exact ⟨a, len, cap, fun i => (Classical.choose (each i)).1, fun i => (Classical.choose (each i)).2.1, fun i => (Classical.choose (each i)).2.2, rfl, fun i hi => Classical.choose_spec (each i) hi⟩
end Go.Proofs.Ytjhpigbilfbikaa.Fin
