/- The arena's small functions; Get. -/
import Derived.Test.YtmmfpkkkpeapeaaGreatDoorAr
import Derived.Outline
import Derived.Deep.QuietTactic
import Derived.BigQuiet
import Derived.Deep.RegionHeld3
import Derived.Deep.DrawnRows
import Derived.Deep.RegionLaw
set_option linter.unusedVariables false
set_option linter.unusedSimpArgs false
namespace Go.Proofs.YtmmfpkkkpeapeaaGreatDoor.ar
open Go.RowKit Go.Maps mem rec
attribute [local go_sem ↓] Go.wp_at_zero Go.wp_at_succ
set_option maxRecDepth 100000
set_option maxHeartbeats 4000000
theorem up_drewN {a b : World} (h : Up a b) (n : Nat) : Up a (b.drewN n) := ⟨h.os, h.tape, h.output, h.size, h.block⟩
theorem ret_int {k : IntKind} {a b : Int} (h : a = b) : Ending.returned (.int k a) = .returned (.int k b) := by rw [h]
theorem slot_x (r : Nat) (hr : r < 18446744073709551616) (w : World) : Calls Tryz.prog 37 #[.int .u64 r] w fun e w' => e = .returned (.int .u32 ((r % 4294967296 : Nat) : Int)) ∧ w' = w := by
  go_enter Tryz.func37, Tryz.ntmps37
  go_wp2
  go_ret
  exact ⟨ret_int (by omega), rfl⟩
theorem uses_x (r : Nat) (hr : r < 18446744073709551616) (w : World) : Calls Tryz.prog 38 #[.int .u64 r] w fun e w' => e = .returned (.int .u32 ((r / 4294967296 : Nat) : Int)) ∧ w' = w := by
  go_enter Tryz.func38, Tryz.ntmps38
  go_wp2
  go_ret
  exact ⟨ret_int (by omega), rfl⟩
theorem or_ref (n u : Nat) (hn : n < 4294967296) (hu : u < 4294967296) : bits .or .u64 ((u : Int) * 4294967296) n = ((u * 4294967296 + n : Nat) : Int) := by
  show IntKind.u64.wrap (((BitVec.ofInt 64 ((u : Int) * 4294967296) ||| BitVec.ofInt 64 (n : Int) : BitVec 64).toNat : Nat) : Int) = _
  have e1 : BitVec.ofInt 64 ((u : Int) * 4294967296) = BitVec.ofNat 64 (u * 4294967296) := by
    rw [show ((u : Int) * 4294967296) = ((u * 4294967296 : Nat) : Int) by omega]; exact BitVec.ofInt_ofNat _ _
  have e2 : BitVec.ofInt 64 (n : Int) = BitVec.ofNat 64 n := BitVec.ofInt_ofNat _ _
  have e3 : u * 4294967296 ||| n = u * 4294967296 + n := by
    have := Nat.shiftLeft_add_eq_or_of_lt (i := 32) (b := n) (by simpa using hn) u
    rw [Nat.shiftLeft_eq] at this
    exact this.symm
  rw [e1, e2, BitVec.toNat_or, BitVec.toNat_ofNat, BitVec.toNat_ofNat, Nat.mod_eq_of_lt (by omega), Nat.mod_eq_of_lt (by omega), e3, IntKind.wrap_u64]
  omega
theorem of_x (n u : Nat) (hn : n < 4294967296) (hu : u < 4294967296) (w : World) : Calls Tryz.prog 42 #[.int .u32 n, .int .u32 u] w fun e w' => e = .returned (.int .u64 ((u * 4294967296 + n : Nat) : Int)) ∧ w' = w := by
  have E := Lib.hid (or_ref n u hn hu)
  go_enter Tryz.func42, Tryz.ntmps42
  go_wp2
  go_ret
  exact ⟨ret_int E.out, rfl⟩
theorem wrap_small (r : Nat) (hr : r < 9223372036854775808) : IntKind.i64.wrap r = r := by rw [IntKind.wrap_i64]; omega
theorem object_x (r : Nat) (hr : r < 9223372036854775808) (w : World) : Calls Tryz.prog 10 #[.int .u64 r] w fun e w' => e = .returned (val (5, r, ⟨#[]⟩)) ∧ w' = w.alloc (.cells #[.int .u8 5, .int .i64 r, .string ⟨#[]⟩] 51) := by
  have E := wrap_small r hr
  go_enter Tryz.func10, Tryz.ntmps10
  go_wp2
  exact bodyPost_ret (v := .agg #[.int .u8 5, .int .i64 r, .string ⟨#[]⟩]) (by simp [results, Tryz.results10, go_sem]) rfl ⟨rfl, rfl⟩
theorem ref_x (r : Nat) (hr : r < 9223372036854775808) (s : ByteArray) (w : World) : Calls Tryz.prog 15 #[.agg #[.int .u8 5, .int .i64 r, .string s]] w fun e w' => e = .returned (.int .u64 r) ∧ w' = w.alloc (.cells #[.int .u8 5, .int .i64 r, .string s] 51) := by
  have hi : (r : Int) < 9223372036854775808 := by omega
  go_enter Tryz.func15, Tryz.ntmps15
  go_wp2
  go_ret
  exact ⟨ret_int (by first | rfl | (rw [IntKind.wrap_u64]; omega)), rfl⟩
theorem ref_none (k n : Int) (s : ByteArray) (h5 : (k == 5) = false) (w : World) : Calls Tryz.prog 15 #[.agg #[.int .u8 k, .int .i64 n, .string s]] w fun e w' => e = .returned (.int .u64 0) ∧ w' = w.alloc (.cells #[.int .u8 k, .int .i64 n, .string s] 51) := by
  have h6 : (k != 5) = true := by simp [bne, h5]
  go_enter Tryz.func15, Tryz.ntmps15
  go_wp2
  go_ret
  exact ⟨rfl, rfl⟩
theorem new_arena (w : World) : Calls Tryz.prog 33 #[] w fun e w' => e = .returned (.pointer (some ⟨w.heap.size, 0, none⟩)) ∧ w' = w.alloc (.cells #[.slice none 0 0, .slice none 0 0, .slice none 0 0, .slice none 0 0] 120) := by
  go_enter Tryz.func33, Tryz.ntmps33
  go_wp2
  go_ret
  exact ⟨rfl, rfl⟩
/-! ### Get -/
/-- The object of a name, if there is one. -/
def Ar.find (A : Ar) (r : Nat) : Option Ob :=
  match A.slots[r % 4294967296]? with
  | some s => if s.used = true ∧ s.uses = r / 4294967296 then some s.o else none
  | none => none
/-- The object's cells lie there. -/
def ObAt (w : World) (g k : Nat) (o : Ob) : Prop := w.rangeAt g k o.cells
theorem ObAt.chg {F : List Nat} {w w' : World} {g k : Nat} {o : Ob} (h : ObAt w g k o) (c : Chg F w w') (hn : g ∉ F) : ObAt w' g k o := fun j v hj => by
  have := h j v hj
  exact (c.cell (p := ⟨g, k + j, none⟩) (World.block_lt_of_cell? w _ this) hn).trans this
theorem ObAt.up {w w' : World} {g k : Nat} {o : Ob} (h : ObAt w g k o) (u : Up w w') : ObAt w' g k o := h.chg u.chg (by simp)
theorem Parts.obAt {w : World} {p : Nat} {v : Nat → Value} {A : Ar} (h : Parts w p v A) {n : Nat} {s : Sl} (hs : A.slots[n]? = some s) : ∃ g cap, v 0 = .slice (some ⟨g, 0, none⟩) A.slots.length cap ∧ (v 0).ownBlock = some g ∧
    w.cell? ⟨g, n * 16, none⟩ = some (.int .u32 s.uses) ∧ w.cell? ⟨g, n * 16 + 1, none⟩ = some (.bool s.used) ∧ ObAt w g (n * 16 + 2) s.o := by
  have hn : n < A.slots.length := (List.getElem?_eq_some_iff.1 hs).1
  have ho := h.ow 0 (by omega)
  obtain ⟨g, cap, hv, _, _⟩ := ho.form (show 0 < A.len 0 by show 0 < A.slots.length; omega)
  have hv' : v 0 = .slice (some ⟨g, 0, none⟩) A.slots.length cap := hv
  rw [hv'] at ho
  have cl : ∀ j, j < 16 → w.cell? ⟨g, n * 16 + j, none⟩ = s.cells[j]? := fun j hj => by
    have := World.ownsRow.cellAt ho (n * 16 + j) (show n * 16 + j < A.slots.length * 16 by omega)
    rw [this]; exact flat_get _ n j s hs hj
  refine ⟨g, cap, hv', by rw [hv']; rfl, cl 0 (by omega), cl 1 (by omega), fun j u hj => ?_⟩
  have hj14 : j < 14 := (List.getElem?_eq_some_iff.1 hj).1
  rw [show n * 16 + 2 + j = n * 16 + (2 + j) by omega, cl (2 + j) (by omega)]
  show (_ :: _ :: s.o.cells)[2 + j]? = some u
  rw [show 2 + j = j + 1 + 1 by omega]
  simpa using hj
theorem get_yes (w : World) (p r : Nat) (v : Nat → Value) (A : Ar) (o : Ob) (h : Parts w p v A) (hr : r < 18446744073709551616) (hf : A.find r = some o) :
    Calls Tryz.prog 14 #[.pointer (some ⟨p, 0, none⟩), .int .u64 r] w fun e w' => ∃ g, e = .returned (.pointer (some ⟨g, (r % 4294967296) * 16 + 2, none⟩)) ∧ Up w w' ∧ (v 0).ownBlock = some g ∧ ObAt w g ((r % 4294967296) * 16 + 2) o := by
  obtain ⟨s, hs, hu, hus, rfl⟩ : ∃ s, A.slots[r % 4294967296]? = some s ∧ s.used = true ∧ s.uses = r / 4294967296 ∧ s.o = o := by
    unfold Ar.find at hf
    split at hf
    · rename_i s hs
      split at hf
      · rename_i hh; cases hf; exact ⟨s, hs, hh.1, hh.2, rfl⟩
      · cases hf
    · cases hf
  obtain ⟨g, cap, hv, hog, c0, c1, hob⟩ := h.obAt hs
  have hlt : r % 4294967296 < A.slots.length := (List.getElem?_eq_some_iff.1 hs).1
  have hd0 : w.cell? ⟨p, 0, none⟩ = some (v 0) := h.hd.cell 0
  rw [hv] at hd0
  rw [hu] at c1
  rw [hus] at c0
  have S1 := Lib.hid (slot_x r hr)
  have S2 := Lib.hid (uses_x r hr)
  have hn2 : r % 4294967296 < 4294967296 := Nat.mod_lt _ (by decide)
  have HO := Lib.hid (And.intro hog hob)
  have HL := Lib.hid (h.ow 0 (by omega))
  clear h hs hu hus hog hob hf
  generalize r % 4294967296 = n at *
  generalize r / 4294967296 = q at *
  generalize A.slots.length = len at *
  have i0 : (0 : Int) ≤ (n : Int) := by omega
  have i1 : (n : Int) < (len : Int) := by omega
  have i2 : ¬ (len : Int) ≤ (n : Int) := by omega
  have i3 : decide (len ≤ n) = false := by simpa using hlt
  go_enter Tryz.func14, Tryz.ntmps14
  go_wp2_with (go_at_call 37; refine (S1.out _).mono ?_; rintro e w' ⟨rfl, rfl⟩)
  go_quiet ((go_at_call 38; exact Calls.quiet_of_same (S2.out _)))
  go_wp2
  go_ret
  exact ⟨g, rfl, up_drewN (Up.refl _) _, HO.out.1, HO.out.2⟩
/-! ### has -/
def Ar.has (A : Ar) (n : Int) : Bool := decide (0 ≤ n) && decide (n < A.quotas.length)
theorem has_x (w : World) (p : Nat) (n : Int) (v : Nat → Value) (A : Ar) (h : Parts w p v A) : Calls Tryz.prog 41 #[.pointer (some ⟨p, 0, none⟩), .int .i64 n] w fun e w' => e = .returned (.bool (A.has n)) ∧ w' = w := by
  have hd0 : w.cell? ⟨p, 2, none⟩ = some (v 2) := h.hd.cell 2
  obtain ⟨a, cap, hv, _, _, _⟩ := shape (h.ow 2 (by omega))
  have hv' : v 2 = .slice a A.quotas.length cap := hv
  rw [hv'] at hd0
  clear h hv hv'
  by_cases h0 : 0 ≤ n
  · by_cases h1 : n < A.quotas.length
    · have E : Hid (A.has n = true) := by show A.has n = true; simp [Ar.has, h0, h1]
      go_enter Tryz.func41, Tryz.ntmps41
      go_wp2
      go_ret
      exact ⟨by rw [E.out]; rfl, rfl⟩
    · have E : Hid (A.has n = false) := by show A.has n = false; simp [Ar.has, h0, h1]
      have h2 := Lib.hid (decide_eq_false h1)
      clear h1
      go_enter Tryz.func41, Tryz.ntmps41
      go_wp2
      go_ret
      exact ⟨by rw [E.out]; show Ending.returned (.bool (decide (n < A.quotas.length))) = _; rw [h2.out], rfl⟩
  · have E : Hid (A.has n = false) := by show A.has n = false; simp [Ar.has, h0]
    have h2 : n < 0 := by omega
    clear h0
    go_enter Tryz.func41, Tryz.ntmps41
    go_wp2
    go_ret
    exact ⟨by rw [E.out]; rfl, rfl⟩
end Go.Proofs.YtmmfpkkkpeapeaaGreatDoor.ar
