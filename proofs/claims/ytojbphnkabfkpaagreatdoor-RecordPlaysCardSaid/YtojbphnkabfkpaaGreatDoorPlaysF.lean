/- RecordPlays: what was handed in, opened; the walk at no step, at more than a hundred; the law. -/
import Derived.Test.YtojbphnkabfkpaaGreatDoorPlays
import Derived.Lib.LaidU8
set_option linter.unusedVariables false
set_option linter.unusedSimpArgs false
namespace Go.Proofs.YtojbphnkabfkpaaGreatDoor.plays
open Go.RowKit Go.Maps mem rec
set_option maxRecDepth 100000
set_option maxHeartbeats 2000000
theorem plays_long (a : Option Addr) (len cap : Nat) (w : World) (hL : Laid w) (hlen : 100 < len) : Calls Tryz.prog 3 #[.slice a len cap] w fun e w' => e = .returned (.bool true) ∧ Up w w' := by
  have il : (100 : Int) < (len : Int) := by omega
  go_enter Tryz.func3, Tryz.ntmps3
  go_wp2_with (go_at_call 12; refine (awake13 _ hL).mono ?_; rintro e w0 ⟨rfl, hb0⟩)
  go_ret
  exact ⟨rfl, hb0⟩
theorem plays_zero (a : Option Addr) (cap : Nat) (w : World) (hL : Laid w) : Calls Tryz.prog 3 #[.slice a 0 cap] w fun e w' => e = .returned (.bool true) ∧ Up w w' := by
  have hmm := @run_makeMap Tryz.prog
  go_enter Tryz.func3, Tryz.ntmps3
  go_wp2_with (first | (go_at_call 12; refine (awake13 _ hL).mono ?_; rintro e w0 ⟨rfl, hb0⟩) | (go_at_call 13; refine (new_any _ _).mono ?_; rintro e w1 ⟨bm, rfl, hb1, hlt, hown⟩))
  refine wp_loop_rounds 1 ?_
  rw [rounds_succ]
  go_wp2
  go_ret
  exact ⟨rfl, ((Up.trans hb0 hb1).alloc _).alloc _⟩
section
variable {H : Type} {enc : TypeId × Value → H} {w : World} {base : Nat} {spare : Nat → Bool} {held : Bool}
theorem open_v {fuel : Nat} {L : List Value} {x : DataW H × List MemPlace} (h : DataW.trod enc Tryz.prog w base spare held fuel 36 L = some x) :
    ∃ k n s, L[0]? = some (.int .u8 k) ∧ L[1]? = some (.int .i64 n) ∧ L[2]? = some (.string s) ∧ (Lit.int .u8 k).wf = true ∧ (Lit.int .i64 n).wf = true ∧ s.size ≤ maxLen := by
  have c5 : Tryz.prog.cellsOf 5 = 1 := by kernel_rfl
  have c2 : Tryz.prog.cellsOf 2 = 1 := by kernel_rfl
  have c9 : Tryz.prog.cellsOf 9 = 1 := by kernel_rfl
  obtain ⟨ys, m, _, _, _, hyl, hf⟩ := DataW.trod_struct Tryz.underlying36 h
  have f0 : DataW.trod enc Tryz.prog w base spare held m 5 ((L.drop 0).take 1) = ys[0]? := by rw [← c5]; exact hf 0 _ rfl
  have f1 : DataW.trod enc Tryz.prog w base spare held m 2 ((L.drop 1).take 1) = ys[1]? := by rw [← c2]; exact hf 1 _ rfl
  have f2 : DataW.trod enc Tryz.prog w base spare held m 9 ((L.drop 2).take 1) = ys[2]? := by rw [← c9]; exact hf 2 _ rfl
  have hyl' : ys.length = 3 := by simpa using hyl
  rw [List.getElem?_eq_getElem (by omega)] at f0 f1 f2
  obtain ⟨k0, e0, _, w0⟩ := DataW.trod_int Tryz.underlying5 f0
  obtain ⟨k1, e1, _, w1⟩ := DataW.trod_int Tryz.underlying2 f1
  obtain ⟨k2, e2, _, w2⟩ := DataW.trod_string Tryz.underlying9 f2
  have g0 : L[0]? = some (.int .u8 k0) := by have := congrArg (·[0]?) e0; simpa [List.getElem?_take, List.getElem?_drop] using this
  have g1 : L[1]? = some (.int .i64 k1) := by have := congrArg (·[0]?) e1; simpa [List.getElem?_take, List.getElem?_drop] using this
  have g2 : L[2]? = some (.string k2) := by have := congrArg (·[0]?) e2; simpa [List.getElem?_take, List.getElem?_drop] using this
  exact ⟨k0, k1, k2, g0, g1, g2, w0, w1, w2⟩
/-- A step's numbers, as they come in. -/
def SpWf (s : Sp) : Prop := (Lit.int .u8 s.d).wf = true ∧ (Lit.int .u8 s.m).wf = true ∧ ((Lit.int .u8 s.ka).wf = true ∧ (Lit.int .i64 s.na).wf = true ∧ s.sa.size ≤ maxLen) ∧ ((Lit.int .u8 s.kb).wf = true ∧ (Lit.int .i64 s.nb).wf = true ∧ s.sb.size ≤ maxLen)
theorem open_sp {fuel : Nat} {L : List Value} {x : DataW H × List MemPlace} (h : DataW.trod enc Tryz.prog w base spare held fuel 38 L = some x) :
    ∃ s : Sp, (L[0]? = some (.int .u8 s.d) ∧ L[1]? = some (.int .u8 s.ka) ∧ L[2]? = some (.int .i64 s.na) ∧ L[3]? = some (.string s.sa) ∧ L[4]? = some (.int .u8 s.kb) ∧ L[5]? = some (.int .i64 s.nb) ∧ L[6]? = some (.string s.sb) ∧ L[7]? = some (.int .u8 s.m)) ∧ SpWf s := by
  have c5 : Tryz.prog.cellsOf 5 = 1 := by kernel_rfl
  have cV : Tryz.prog.cellsOf 36 = 3 := by kernel_rfl
  obtain ⟨ys, m, _, _, _, hyl, hf⟩ := DataW.trod_struct Tryz.underlying38 h
  have f0 : DataW.trod enc Tryz.prog w base spare held m 5 ((L.drop 0).take 1) = ys[0]? := by rw [← c5]; exact hf 0 _ rfl
  have f1 : DataW.trod enc Tryz.prog w base spare held m 36 ((L.drop 1).take 3) = ys[1]? := by
    have := hf 1 _ rfl
    simpa [c5, cV] using this
  have f2 : DataW.trod enc Tryz.prog w base spare held m 36 ((L.drop 4).take 3) = ys[2]? := by
    have := hf 2 _ rfl
    simpa [c5, cV] using this
  have f3 : DataW.trod enc Tryz.prog w base spare held m 5 ((L.drop 7).take 1) = ys[3]? := by
    have := hf 3 _ rfl
    simpa [c5, cV] using this
  have hyl' : ys.length = 4 := by simpa using hyl
  rw [List.getElem?_eq_getElem (by omega)] at f0 f1 f2 f3
  obtain ⟨k0, e0, _, w0⟩ := DataW.trod_int Tryz.underlying5 f0
  obtain ⟨k3, e3, _, w3⟩ := DataW.trod_int Tryz.underlying5 f3
  obtain ⟨ka, na, sa, a0, a1, a2, wa⟩ := open_v f1
  obtain ⟨kb, nb, sb, b0, b1, b2, wb⟩ := open_v f2
  have g0 : L[0]? = some (.int .u8 k0) := by have := congrArg (·[0]?) e0; simpa [List.getElem?_take, List.getElem?_drop] using this
  have g3 : L[7]? = some (.int .u8 k3) := by have := congrArg (·[0]?) e3; simpa [List.getElem?_take, List.getElem?_drop] using this
  simp only [List.getElem?_take, List.getElem?_drop] at a0 a1 a2 b0 b1 b2
  exact ⟨⟨k0, ka, na, sa, kb, nb, sb, k3⟩, ⟨g0, by simpa using a0, by simpa using a1, by simpa using a2, by simpa using b0, by simpa using b1, by simpa using b2, g3⟩, w0, w3, wa, wb⟩
theorem open_steps {fuel : Nat} {cs : List Value} {x : DataW H × List MemPlace} (h : DataW.trod enc Tryz.prog w base spare held fuel 22 cs = some x) :
    cs = [.slice none 0 0] ∨ ∃ (b off n cap : Nat) (sp : Nat → Sp), n = 0 ∧ (∃ a, cs = [.slice a 0 cap]) ∨ ∃ (b off n cap : Nat) (sp : Nat → Sp), cs = [.slice (some ⟨b, off, none⟩) n cap] ∧ b < w.heap.size ∧ ∀ i, i < n → SpAt w b (off + i * 8) (sp i) ∧ SpWf (sp i) := by
  rcases DataW.trod_slice Tryz.underlying22 h with ⟨h0, _⟩ | ⟨a, len, cap, elems, rest, n, _, rfl, rfl, hb, hl, hm, hlen, hel, _, _⟩
  · exact .inl h0
  right
  by_cases hz : len = 0
  · subst hz
    exact ⟨0, 0, 0, cap, fun _ => ⟨0, 0, 0, ⟨#[]⟩, 0, 0, ⟨#[]⟩, 0⟩, .inl ⟨rfl, _, rfl⟩⟩
  have hc : Tryz.prog.cellsOf 38 = 8 := by kernel_rfl
  have each : ∀ i, ∃ s : Sp, i < len → (w.cell? ((a.add (i * 8)).add 0) = some (.int .u8 s.d) ∧ w.cell? ((a.add (i * 8)).add 1) = some (.int .u8 s.ka) ∧ w.cell? ((a.add (i * 8)).add 2) = some (.int .i64 s.na) ∧ w.cell? ((a.add (i * 8)).add 3) = some (.string s.sa) ∧
      w.cell? ((a.add (i * 8)).add 4) = some (.int .u8 s.kb) ∧ w.cell? ((a.add (i * 8)).add 5) = some (.int .i64 s.nb) ∧ w.cell? ((a.add (i * 8)).add 6) = some (.string s.sb) ∧ w.cell? ((a.add (i * 8)).add 7) = some (.int .u8 s.m)) ∧ SpWf s := by
    intro i
    by_cases hi : i < len
    · obtain ⟨y, hy⟩ : ∃ y, elems[i]? = some y := ⟨elems[i]'(by omega), List.getElem?_eq_getElem (by omega)⟩
      have h1 := hel i hi
      rw [hy, hc, Option.bind_eq_some_iff] at h1
      obtain ⟨cs', hcs, htr⟩ := h1
      obtain ⟨_, hl2, hcell⟩ := World.cells?_some hcs
      obtain ⟨s, ⟨g0, g1, g2, g3, g4, g5, g6, g7⟩, hwf⟩ := open_sp htr
      refine ⟨s, fun _ => ⟨⟨?_, ?_, ?_, ?_, ?_, ?_, ?_, ?_⟩, hwf⟩⟩
      · rw [hcell 0 (by omega), g0]
      · rw [hcell 1 (by omega), g1]
      · rw [hcell 2 (by omega), g2]
      · rw [hcell 3 (by omega), g3]
      · rw [hcell 4 (by omega), g4]
      · rw [hcell 5 (by omega), g5]
      · rw [hcell 6 (by omega), g6]
      · rw [hcell 7 (by omega), g7]
    · exact ⟨⟨0, 0, 0, ⟨#[]⟩, 0, 0, ⟨#[]⟩, 0⟩, fun hh => absurd hh hi⟩
  obtain ⟨sp, hs⟩ := Classical.skolem.1 each
  obtain ⟨b, off, spt⟩ := a
  have c0 := (hs 0 (by omega)).1.1
  have hsp : spt = none := by
    have : (Addr.add (Addr.add ⟨b, off, spt⟩ (0 * 8)) 0) = ⟨b, off, spt⟩ := by simp [Addr.add]
    rw [this] at c0
    exact cell_spot c0
  subst hsp
  have add1 : ∀ i j, ((⟨b, off, none⟩ : Addr).add (i * 8)).add j = ⟨b, off + i * 8 + j, none⟩ := fun i j => by rw [Addr.add_mid, Addr.add_mid]
  have hbl : b < w.heap.size := by
    rw [add1] at c0
    exact World.block_lt_of_cell? w _ c0
  refine ⟨0, 0, 0, 0, sp, .inr ⟨b, off, len, cap, sp, rfl, hbl, fun i hi => ?_⟩⟩
  have h1 := hs i hi
  simp only [add1, Nat.add_zero] at h1
  exact h1
end
theorem u8wf {a : Int} (h : (Lit.int .u8 a).wf = true) : 0 ≤ a ∧ a ≤ 255 := by
  have h' : (decide (IntKind.u8.min ≤ a) && decide (a ≤ IntKind.u8.max)) = true := h
  simpa [IntKind.min, IntKind.max, IntKind.signed, IntKind.bits] using h'
theorem i64wf {a : Int} (h : -9223372036854775808 ≤ a ∧ a ≤ 9223372036854775807) : (Lit.int .i64 a).wf = true := by
  show (decide (IntKind.i64.min ≤ a) && decide (a ≤ IntKind.i64.max)) = true
  simpa [IntKind.min, IntKind.max, IntKind.signed, IntKind.bits] using h
theorem key_vmk (k n : Int) (s : ByteArray) (hn : (Lit.int .i64 n).wf = true) (hs : s.size ≤ maxLen) : ∃ l, keyOf Tryz.prog 31 (val (vmk k n s)) = some l := by
  have h0 : (⟨#[]⟩ : ByteArray).size ≤ maxLen := by decide
  unfold vmk
  repeat' split
  · exact key_of 1 (n % 2) _ (by decide) (i64wf (by omega)) h0
  · exact key_of 2 n _ (by decide) hn h0
  · exact key_of 3 0 _ (by decide) (by decide) hs
  · exact key_of 4 ((n.tmod 6 + 6) % 6) _ (by decide) (i64wf (by omega)) h0
  · exact key_of 0 0 _ (by decide) (by decide) h0
theorem ok_of_wf {s : Sp} (h : SpWf s) : s.ok := ⟨u8wf h.1, u8wf h.2.2.1.1, u8wf h.2.2.2.1, u8wf h.2.1, key_vmk _ _ _ h.2.2.1.2.1 h.2.2.1.2.2⟩
def Handed (v : Value) (w : World) : Prop := v = .slice none 0 0 ∨ (∃ a cap, v = .slice a 0 cap) ∨ ∃ (b off n cap : Nat) (sp : Nat → Sp), v = .slice (some ⟨b, off, none⟩) n cap ∧ b < w.heap.size ∧ ∀ i, i < n → SpAt w b (off + i * 8) (sp i) ∧ SpWf (sp i)
theorem handed_of {H : Type} {enc : TypeId × Value → H} {w : World} {base : Nat} {spare : Nat → Bool} {held : Bool} {fuel : Nat} {v : Value} {x : DataW H × List MemPlace} (h : DataW.trod enc Tryz.prog w base spare held fuel 22 [v] = some x) : Handed v w := by
  rcases open_steps h with h | ⟨b, off, n, cap, sp, ⟨_, a, h⟩ | ⟨b, off, n, cap, sp, h, hb, hh⟩⟩
  · exact .inl (by simpa using h)
  · exact .inr (.inl ⟨a, cap, by simpa using h⟩)
  · exact .inr (.inr ⟨b, off, n, cap, sp, by simpa using h, hb, hh⟩)
theorem law (v : Value) (w : World) (hL : Laid w) (hv : Handed v w) : Calls Tryz.prog 3 #[v] w fun e w' => e = .returned (.bool true) ∧ Below w.heap.size w w' := by
  rcases hv with rfl | ⟨a, cap, rfl⟩ | ⟨b, off, n, cap, sp, rfl, hb, h⟩
  · exact plays_zero none 0 w hL
  · exact plays_zero a cap w hL
  by_cases hn : n ≤ 100
  · exact plays b off n cap sp w hL hb hn (fun j hj => (h j hj).1) (fun j hj => ok_of_wf (h j hj).2)
  · exact plays_long _ n cap w hL (by omega)
end Go.Proofs.YtojbphnkabfkpaaGreatDoor.plays
