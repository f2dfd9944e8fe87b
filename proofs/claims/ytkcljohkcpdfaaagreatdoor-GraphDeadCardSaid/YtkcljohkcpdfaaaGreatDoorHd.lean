/- slices.IndexFunc and DeleteFunc over membranes, the dead ones struck: walked. -/
import Derived.Test.YtkcljohkcpdfaaaGreatDoorHw
import Derived.Laws.IdiomCopy
set_option linter.unusedVariables false
set_option linter.unusedSimpArgs false
namespace Go.Proofs.YtkcljohkcpdfaaaGreatDoor.gr
open Go.RowKit Go.Maps mem
attribute [local go_sem ↓] Go.wp_at_zero Go.wp_at_succ
set_option maxRecDepth 100000
set_option maxHeartbeats 1000000
def liveM (m : Mb) : Bool := !m.2.2
theorem dead_x (a b : Int) (d : Bool) (w : World) :
    Calls Tryz.prog 12 #[.agg #[.int .i64 a, .int .i64 b, .bool d]] w fun e w' => e = .returned (.bool d) ∧ Up w w' := by
  go_enter Tryz.func12, Tryz.ntmps12
  go_wp2_with fail
  go_ret
  exact ⟨rfl, (Up.refl w).alloc _⟩
def IfPost (L : List Mb) (e : Ending) : Prop :=
  (e = .returned (.int .i64 (-1)) ∧ ∀ x ∈ L, liveM x = true) ∨ ∃ k : Nat, k < L.length ∧ e = .returned (.int .i64 (k : Int)) ∧ (∀ x ∈ L.take k, liveM x = true) ∧ ∃ a b, L[k]? = some (a, b, true)
theorem ifunc_x (va : Value) (L : List Mb) (w : World) (ha : MsAt w va L) (hn : L.length ≤ 100) :
    Calls Tryz.prog 18 #[va, .func (.func 12) #[] #[]] w fun e w' => IfPost L e ∧ Up w w' := by
  obtain ⟨a, ca, rfl, ha⟩ := ha
  have HA := Lib.hid ha
  clear ha
  go_enter Tryz.func18, Tryz.ntmps18
  go_wp2_with fail
  go_loopw [8] (fun i wr => ∃ t : Nat, t ≤ L.length ∧ i = .int .i64 t ∧ Up w wr ∧ ∀ x ∈ L.take t, liveM x = true) (fun i _ => L.length - (intOf i).toNat)
  case atStart => exact ⟨0, by omega, rfl, Up.refl _, by simp⟩
  case round =>
    obtain ⟨t, ht, rfl, hU, hA⟩ := hrel
    have HAA := Lib.hid hA
    clear hA
    by_cases hlt : t < L.length
    · obtain ⟨ba, off, rfl, hba, hx⟩ := HA.out.resolve_left (by omega)
      obtain ⟨m, hm⟩ : ∃ m, L[t]? = some m := ⟨_, List.getElem?_eq_getElem hlt⟩
      obtain ⟨g0, g1, g2⟩ := (hx t m hm).up hU
      have HM := Lib.hid hm
      obtain ⟨x, y, dd⟩ := m
      simp only at g0 g1 g2
      have it0 : (t : Int) < (L.length : Int) := by omega
      clear hx hm
      have HU := Lib.hid hU
      clear hU
      cases dd
      · go_wp2_with (go_at_call 12; refine (dead_x x y false _).mono ?_; rintro e w2 ⟨rfl, hU2⟩)
        go_roundw
        case rel =>
          refine ⟨t + 1, by omega, by go_num, HU.out.trans hU2, fun z hz => ?_⟩
          rw [List.take_add_one, HM.out] at hz
          rcases List.mem_append.1 hz with h8 | h8
          · exact HAA.out z h8
          · have e9 : z = (x, y, false) := by simpa using h8
            rw [e9]
            rfl
        case measure => simp [intOf]; omega
      · go_wp2_with (go_at_call 12; refine (dead_x x y true _).mono ?_; rintro e w2 ⟨rfl, hU2⟩)
        go_ret
        exact ⟨.inr ⟨t, hlt, rfl, HAA.out, x, y, HM.out⟩, HU.out.trans hU2⟩
    · have hte : t = L.length := by omega
      subst hte
      have hall := HAA.out
      rw [List.take_length] at hall
      have HZ := Lib.hid hall
      clear hall
      go_wp2_with fail
      go_ret
      exact ⟨.inl ⟨rfl, HZ.out⟩, hU⟩
/-! ### what the row holds meanwhile -/
structure Dl (w : World) (g off : Nat) (L F : List Mb) (j : Nat) : Prop where
  lt : g < w.heap.size
  is : ∀ k, k < L.length * 3 → (w.cell? ⟨g, off + k, none⟩).isSome = true ∧ w.frozen? ⟨g, off + k, none⟩ = false
  low : ∀ t x, F[t]? = some x → MbAt w g (off + t * 3) x
  high : ∀ t x, j ≤ t → L[t]? = some x → MbAt w g (off + t * 3) x
theorem frozen_chg {F : List Nat} {w w' : World} (c : Chg F w w') {g k : Nat} (hlt : g < w.heap.size) (hn : g ∉ F) : w'.frozen? ⟨g, k, none⟩ = w.frozen? ⟨g, k, none⟩ := by
  unfold World.frozen?
  rw [c.block g hlt hn]
theorem MbAt.chg {F : List Nat} {w w' : World} {b o : Nat} {m : Mb} (h : MbAt w b o m) (c : Chg F w w') (hlt : b < w.heap.size) (hn : b ∉ F) : MbAt w' b o m :=
  ⟨(c.cell hlt hn).trans h.1, (c.cell hlt hn).trans h.2.1, (c.cell hlt hn).trans h.2.2⟩
theorem Dl.chg {F' : List Nat} {w w' : World} {g off : Nat} {L F : List Mb} {j : Nat} (h : Dl w g off L F j) (c : Chg F' w w') (hn : g ∉ F') : Dl w' g off L F j :=
  ⟨Nat.lt_of_lt_of_le h.lt c.size, fun k hk => ⟨by rw [c.cell h.lt hn]; exact (h.is k hk).1, by rw [frozen_chg c h.lt hn]; exact (h.is k hk).2⟩, fun t x hx => (h.low t x hx).chg c h.lt hn, fun t x ht hx => (h.high t x ht hx).chg c h.lt hn⟩
theorem Dl.skip {w : World} {g off : Nat} {L F : List Mb} {j : Nat} (h : Dl w g off L F j) : Dl w g off L F (j + 1) := ⟨h.lt, h.is, h.low, fun t x ht hx => h.high t x (by omega) hx⟩
theorem MbAt.out {w : World} {g o o' : Nat} {m : Mb} (h : MbAt w g o m) (vs : List Value) (hap : o + 3 ≤ o' ∨ o' + vs.length ≤ o) : MbAt (w.setCells g o' vs) g o m := by
  refine ⟨?_, ?_, ?_⟩
  · rw [World.cell?_setCells_out _ _ _ _ _ (by intro _ _; simp only; omega)]; exact h.1
  · rw [World.cell?_setCells_out _ _ _ _ _ (by intro _ _; simp only; omega)]; exact h.2.1
  · rw [World.cell?_setCells_out _ _ _ _ _ (by intro _ _; simp only; omega)]; exact h.2.2
theorem Dl.is_set {w : World} {g off : Nat} {L F : List Mb} {j : Nat} (h : Dl w g off L F j) (o : Nat) (vs : List Value) : ∀ k, k < L.length * 3 → ((w.setCells g o vs).cell? ⟨g, off + k, none⟩).isSome = true ∧ (w.setCells g o vs).frozen? ⟨g, off + k, none⟩ = false := fun k hk =>
  ⟨World.isSome_setCells g vs o w _ (h.is k hk).1, by rw [World.frozen?_setCells]; exact (h.is k hk).2⟩
theorem Dl.keep {w : World} {g off : Nat} {L F : List Mb} {j : Nat} (h : Dl w g off L F j) {m : Mb} (hF : F.length < j) (hj : j < L.length) : Dl (w.setCells g (off + F.length * 3) (cellsM m)) g off L (F ++ [m]) (j + 1) := by
  refine ⟨by rw [setCells_size]; exact h.lt, h.is_set _ _, fun t x hx => ?_, fun t x ht hx => (h.high t x (by omega) hx).out _ (.inr (by show _ + 3 ≤ _; omega))⟩
  by_cases e : t < F.length
  · rw [List.getElem?_append_left e] at hx
    exact (h.low t x hx).out _ (.inl (by omega))
  · have e2 : t = F.length := by
      have := (List.getElem?_eq_some_iff.1 hx).1
      simp at this
      omega
    subst e2
    rw [List.getElem?_append_right (by omega)] at hx
    have e3 : x = m := by simpa using hx.symm
    subst e3
    have hin := World.cell?_setCells_in g (cellsM x) (off + F.length * 3) w (fun i hi => by
      have hi3 : i < 3 := hi
      rw [Nat.add_assoc]
      exact (h.is _ (by omega)).1)
    exact ⟨hin 0 (by show _ < 3; omega), hin 1 (by show _ < 3; omega), hin 2 (by show _ < 3; omega)⟩
theorem run_clear3 (w : World) (g o n c : Nat) (hn : 0 < n) (h : ∀ k, k < n * 3 → (w.cell? ⟨g, o + k, none⟩).isSome = true ∧ w.frozen? ⟨g, o + k, none⟩ = false) :
    ∃ vs, ∀ ty, (Builtin.clear_ #[26] ty #[.slice (some ⟨g, o, none⟩) n c]).run Tryz.prog w = .ok (.tuple #[]) (w.setCells g o vs) := by
  have hz : ∀ w, (zeroValue 31).run Tryz.prog w = .ok (.agg #[.int .i64 0, .int .i64 0, .bool false]) w := fun w => by kernel_rfl
  have hlen : (Builtin.zeroCells (Value.agg #[.int .i64 0, .int .i64 0, .bool false]).cells n).toList.length = n * 3 := by simp [Builtin.zeroCells, Value.cells]
  have h1 : ∀ v ∈ (Builtin.zeroCells (Value.agg #[.int .i64 0, .int .i64 0, .bool false]).cells n).toList, v.oneCell' = true := by
    intro v hv
    simp only [Builtin.zeroCells, Value.cells, Array.toList_map, Array.toList_range, List.mem_map] at hv
    obtain ⟨i, -, rfl⟩ := hv
    have h3 : i % 3 = 0 ∨ i % 3 = 1 ∨ i % 3 = 2 := by omega
    rcases h3 with e | e | e <;> simp [e, Value.oneCell']
  have hst := run_storeCells_cells (P := Tryz.prog) g o _ 0 w (fun j hj => by rw [Nat.add_zero]; exact (h j (by omega)).1) (fun j hj => by rw [Nat.add_zero]; exact (h j (by omega)).2) h1
  simp only [Nat.add_zero] at hst
  refine ⟨(Builtin.zeroCells (Value.agg #[.int .i64 0, .int .i64 0, .bool false]).cells n).toList, fun ty => ?_⟩
  obtain ⟨m, rfl⟩ : ∃ m, n = m + 1 := ⟨n - 1, by omega⟩
  simp only [Builtin.clear_, Sem.run_bind, run_underlying Tryz.underlying26, List.getElem?_toArray, List.getElem?_cons_zero, Result.andThen_ok, hz, hst, Sem.run_pure]
end Go.Proofs.YtkcljohkcpdfaaaGreatDoor.gr
