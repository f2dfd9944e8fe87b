/- Package value's makers, record's functions: each walked once, over the fields as a map that is owned. -/
import Derived.Test.YtmmfpkkkpeapeaaGreatDoorProg
import Derived.Test.YtmmfpkkkpeapeaaGreatDoorMem
import Derived.Laws.BitsLemmas
import Derived.DeepKeys4
import Derived.Maps.OwnOps
import Derived.Maps.Views
import Derived.OwnWalk
import Derived.LoopTactic
import Derived.RegionTactic
import Derived.ChangeAlike
import Derived.Deep.RegionWith
import Derived.Deep.CutRange
import Derived.ProofKit
import Derived.Lib.Bytes
set_option linter.unusedVariables false
namespace Go.Proofs.YtmmfpkkkpeapeaaGreatDoor.rec
open Go.RowKit Go.Maps mem
/-- A value: its kind, its number, its text. -/
abbrev V3 := Int × Int × ByteArray
def val (p : V3) : Value := .agg #[.int .u8 p.1, .int .i64 p.2.1, .string p.2.2]
def zero3 : V3 := (0, 0, ⟨#[]⟩)
def Up (w w' : World) : Prop := Below w.heap.size w w'
theorem Up.refl (w : World) : Up w w := Below.refl _ _
theorem Up.trans {a b c : World} (h : Up a b) (k : Up b c) : Up a c := Below.trans h (Below.mono k (Below.size h))
theorem Up.alloc {a b : World} (h : Up a b) (o : Obj) : Up a (b.alloc o) := Below.alloc h (Below.size h) o
theorem Up.drew {a b : World} (h : Up a b) : Up a b.drew := Below.drew h
theorem Up.chg {a b : World} (h : Up a b) : Chg [] a b := Chg.of_up h
def isKey (k : Int) : Bool := k == 2 || k == 3

theorem number_x (n : Int) (w : World) : Calls Tryz.prog 23 #[.int .i64 n] w fun e w' => e = .returned (val (2, n, ⟨#[]⟩)) ∧ w' = w.alloc (.cells #[.int .u8 2, .int .i64 n, .string ⟨#[]⟩] 51) := by
  go_enter Tryz.func23, Tryz.ntmps23
  go_wp2
  exact bodyPost_ret (v := .agg #[.int .u8 2, .int .i64 n, .string ⟨#[]⟩]) (by simp [results, Tryz.results23, go_sem]) rfl ⟨rfl, rfl⟩
theorem words_x (s : ByteArray) (w : World) : Calls Tryz.prog 57 #[.string s] w fun e w' => e = .returned (val (3, 0, s)) ∧ w' = w.alloc (.cells #[.int .u8 3, .int .i64 0, .string s] 51) := by
  go_enter Tryz.func57, Tryz.ntmps57
  go_wp2
  exact bodyPost_ret (v := .agg #[.int .u8 3, .int .i64 0, .string s]) (by simp [results, Tryz.results57, go_sem]) rfl ⟨rfl, rfl⟩
def tnum (b : Bool) : Int := if b then 1 else 0
theorem truth_x (b : Bool) (w : World) : Calls Tryz.prog 77 #[.bool b] w fun e w' => e = .returned (val (1, tnum b, ⟨#[]⟩)) ∧ w' = w.alloc (.cells #[.int .u8 1, .int .i64 (tnum b), .string ⟨#[]⟩] 51) := by
  cases b
  · go_enter Tryz.func77, Tryz.ntmps77
    go_wp2
    exact bodyPost_ret (v := .agg #[.int .u8 1, .int .i64 0, .string ⟨#[]⟩]) (by simp [results, Tryz.results77, go_sem]) rfl ⟨rfl, rfl⟩
  · go_enter Tryz.func77, Tryz.ntmps77
    go_wp2
    exact bodyPost_ret (v := .agg #[.int .u8 1, .int .i64 1, .string ⟨#[]⟩]) (by simp [results, Tryz.results77, go_sem]) rfl ⟨rfl, rfl⟩
theorem number (n : Int) (w : World) : Calls Tryz.prog 23 #[.int .i64 n] w fun e w' => e = .returned (val (2, n, ⟨#[]⟩)) ∧ Up w w' :=
  (number_x n w).mono fun e w' h => ⟨h.1, by rw [h.2]; exact (Up.refl w).alloc _⟩
theorem words (s : ByteArray) (w : World) : Calls Tryz.prog 57 #[.string s] w fun e w' => e = .returned (val (3, 0, s)) ∧ Up w w' :=
  (words_x s w).mono fun e w' h => ⟨h.1, by rw [h.2]; exact (Up.refl w).alloc _⟩
theorem truth (b : Bool) (w : World) : Calls Tryz.prog 77 #[.bool b] w fun e w' => e = .returned (val (1, tnum b, ⟨#[]⟩)) ∧ Up w w' :=
  (truth_x b w).mono fun e w' h => ⟨h.1, by rw [h.2]; exact (Up.refl w).alloc _⟩
theorem key_any (k n : Int) (s : ByteArray) (w : World) : Calls Tryz.prog 66 #[.agg #[.int .u8 k, .int .i64 n, .string s]] w fun e w' => e = .returned (.bool (isKey k)) ∧ Up w w' := by
  by_cases h2 : k = 2
  · subst h2
    go_enter Tryz.func66, Tryz.ntmps66
    go_wp2
    go_ret
    exact ⟨rfl, (Below.refl _ _).alloc (Nat.le_refl _) _⟩
  · have b2 : (k == 2) = false := by simpa using h2
    by_cases h3 : k = 3
    · subst h3
      go_enter Tryz.func66, Tryz.ntmps66
      go_wp2
      go_ret
      exact ⟨rfl, (Below.refl _ _).alloc (Nat.le_refl _) _⟩
    · have b3 : (k == 3) = false := by simpa using h3
      have E : Hid (isKey k = false) := by unfold isKey; rw [b2, b3]; rfl
      clear h2 h3
      go_enter Tryz.func66, Tryz.ntmps66
      go_wp2
      go_ret
      exact ⟨by rw [E.out]; rfl, (Below.refl _ _).alloc (Nat.le_refl _) _⟩

/-! ### Make -/
theorem and_one (n : Int) : bits .and .i64 n 1 = n % 2 := by
  show IntKind.i64.wrap (((BitVec.ofInt 64 n &&& BitVec.ofInt 64 1 : BitVec 64).toNat : Nat) : Int) = n % 2
  have e1 : BitVec.ofInt 64 1 = 1#64 := by decide
  have e2 : (1#64).toNat = 1 := by decide
  rw [e1, BitVec.toNat_and, e2, Nat.and_one_is_mod, BitVec.toNat_ofInt, IntKind.wrap_i64]
  omega
/-- What Make answers: kind, number, text. -/
def vmk (k n : Int) (s : ByteArray) : V3 :=
  if k % 5 = 1 then (1, n % 2, ⟨#[]⟩) else if k % 5 = 2 then (2, n, ⟨#[]⟩) else if k % 5 = 3 then (3, 0, s) else if k % 5 = 4 then (4, (n.tmod 6 + 6) % 6, ⟨#[]⟩) else (0, 0, ⟨#[]⟩)
theorem six (n : Int) : (wrap64 (n.tmod 6 + 6)).tmod 6 = (n.tmod 6 + 6) % 6 := by
  have h1 : -6 < n.tmod 6 := by have := Int.lt_tmod_of_pos n (b := 6) (by decide); simpa using this
  have h2 : n.tmod 6 < 6 := Int.tmod_lt_of_pos n (by decide)
  unfold wrap64
  rw [Int.tmod_eq_emod_of_nonneg (by omega)]
  omega
set_option maxHeartbeats 1000000 in
theorem make_x (k n : Int) (s : ByteArray) (h0 : 0 ≤ k) (h1 : k ≤ 255) (w : World) : Calls Tryz.prog 11 #[.agg #[.int .u8 k, .int .i64 n, .string s]] w fun e w' => e = .returned (val (vmk k n s)) ∧ w' = (w.alloc (.cells #[.int .u8 k, .int .i64 n, .string s] 25)).alloc (.cells #[.int .u8 (vmk k n s).1, .int .i64 (vmk k n s).2.1, .string (vmk k n s).2.2] 51) := by
  have S := Lib.hid (six n)
  have A := Lib.hid (and_one n)
  by_cases c1 : k % 5 = 1
  · have b1 : (k % 5 == 1) = true := by simpa using c1
    have V : Hid (vmk k n s = (1, (n % 2), ⟨#[]⟩)) := by unfold vmk; rw [if_pos c1]; rfl
    clear c1
    go_enter Tryz.func11, Tryz.ntmps11
    go_wp2
    rw [A.out]
    rw [V.out]
    exact bodyPost_ret (v := .agg #[.int .u8 1, .int .i64 (n % 2), .string ⟨#[]⟩]) (by simp [results, Tryz.results11, go_sem]) rfl ⟨rfl, rfl⟩
  have b1 : (k % 5 == 1) = false := by simpa using c1
  by_cases c2 : k % 5 = 2
  · have b2 : (k % 5 == 2) = true := by simpa using c2
    have V : Hid (vmk k n s = (2, n, ⟨#[]⟩)) := by unfold vmk; rw [if_neg c1, if_pos c2]; rfl
    clear c1 c2
    go_enter Tryz.func11, Tryz.ntmps11
    go_wp2
    rw [V.out]
    exact bodyPost_ret (v := .agg #[.int .u8 2, .int .i64 n, .string ⟨#[]⟩]) (by simp [results, Tryz.results11, go_sem]) rfl ⟨rfl, rfl⟩
  have b2 : (k % 5 == 2) = false := by simpa using c2
  by_cases c3 : k % 5 = 3
  · have b3 : (k % 5 == 3) = true := by simpa using c3
    have V : Hid (vmk k n s = (3, 0, s)) := by unfold vmk; rw [if_neg c1, if_neg c2, if_pos c3]; rfl
    clear c1 c2 c3
    go_enter Tryz.func11, Tryz.ntmps11
    go_wp2
    rw [V.out]
    exact bodyPost_ret (v := .agg #[.int .u8 3, .int .i64 0, .string s]) (by simp [results, Tryz.results11, go_sem]) rfl ⟨rfl, rfl⟩
  have b3 : (k % 5 == 3) = false := by simpa using c3
  by_cases c4 : k % 5 = 4
  · have b4 : (k % 5 == 4) = true := by simpa using c4
    have V : Hid (vmk k n s = (4, ((n.tmod 6 + 6) % 6), ⟨#[]⟩)) := by unfold vmk; rw [if_neg c1, if_neg c2, if_neg c3, if_pos c4]; rfl
    clear c1 c2 c3 c4
    go_enter Tryz.func11, Tryz.ntmps11
    go_wp2
    rw [V.out]
    exact bodyPost_ret (v := .agg #[.int .u8 4, .int .i64 ((n.tmod 6 + 6) % 6), .string ⟨#[]⟩]) (by simp [results, Tryz.results11, go_sem, S.out]) rfl ⟨rfl, by rw [S.out]⟩
  have b4 : (k % 5 == 4) = false := by simpa using c4
  have V : Hid (vmk k n s = (0, 0, ⟨#[]⟩)) := by unfold vmk; rw [if_neg c1, if_neg c2, if_neg c3, if_neg c4]; rfl
  clear c1 c2 c3 c4
  go_enter Tryz.func11, Tryz.ntmps11
  go_wp2
  rw [V.out]
  exact bodyPost_ret (v := .agg #[.int .u8 0, .int .i64 0, .string ⟨#[]⟩]) (by simp [results, Tryz.results11, go_sem]) rfl ⟨rfl, rfl⟩

theorem make_any (k n : Int) (s : ByteArray) (h0 : 0 ≤ k) (h1 : k ≤ 255) (w : World) : Calls Tryz.prog 11 #[.agg #[.int .u8 k, .int .i64 n, .string s]] w fun e w' => e = .returned (val (vmk k n s)) ∧ Up w w' :=
  (make_x k n s h0 h1 w).mono fun e w' h => ⟨h.1, by rw [h.2]; exact ((Up.refl w).alloc _).alloc _⟩

/-! ### values as a map's keys -/
theorem laidOutP : laidOutB Tryz.prog = true := by kernel_rfl
theorem rowV : (51 : TypeId) < Tryz.prog.types.size := of_decide_eq_true (by kernel_rfl)
theorem deepV : Tryz.prog.keyTypeAt (Tryz.prog.types.size + 1) 51 = true := by kernel_rfl
theorem deep2 : Tryz.prog.keyTypeAt 2 51 = true := by kernel_rfl
theorem K : Maps.Keyed Tryz.prog 51 := Maps.Keyed.of_law (deep_law_laid laidOutP (m := 2) (by omega) rowV deep2 (by rw [Tryz.underlying51]))
theorem cellsV : Tryz.prog.cellsOf 51 = 3 := by kernel_rfl
theorem sizeP : Tryz.prog.types.size + 1 = (Tryz.prog.types.size - 1) + 1 + 1 := by kernel_rfl
theorem key_of (k n : Int) (s : ByteArray) (hk : (Lit.int .u8 k).wf = true) (hn : (Lit.int .i64 n).wf = true) (hs : s.size ≤ maxLen) : ∃ l, keyOf Tryz.prog 51 (val (k, n, s)) = some l := by
  have hf : (Value.agg #[.int .u8 k, .int .i64 n, .string s]).formed Tryz.prog 51 = true := by simp [Value.formed, Tryz.underlying51, cellsV]
  have cK : Tryz.prog.cellsOf 49 = 1 := by kernel_rfl
  have c2 : Tryz.prog.cellsOf 2 = 1 := by kernel_rfl
  have c9 : Tryz.prog.cellsOf 9 = 1 := by kernel_rfl
  have hl : Tryz.prog.keyLits (Tryz.prog.types.size + 1) 51 [.int .u8 k, .int .i64 n, .string s] = some [.int .u8 k, .int .i64 n, .string s.data.toList] := by
    obtain ⟨d, hd⟩ : ∃ d, Tryz.prog.types.size + 1 = d + 1 + 1 := ⟨_, sizeP⟩
    rw [hd]
    simp [Program.keyLits, Tryz.underlying51, Tryz.underlying49, Tryz.underlying2, Tryz.underlying9, cellsV, cK, c2, c9, hk, hn, hs]
  refine ⟨.string (keyBytes [.int .u8 k, .int .i64 n, .string s.data.toList]), ?_⟩
  unfold keyOf val
  rw [Tryz.underlying51]
  simp only [Program.keyType, deepV, hf, Bool.and_self, if_true]
  rw [show (Value.agg #[.int .u8 k, .int .i64 n, .string s]).cells.toList = [.int .u8 k, .int .i64 n, .string s] from rfl, hl]
  rfl
theorem val_inj {p q : V3} (h : val p = val q) : p = q := by
  obtain ⟨a, b, c⟩ := p
  obtain ⟨a', b', c'⟩ := q
  simp [val] at h
  simp [h]
theorem guard_val (p q : V3) (x y : Operand) (W : World) : (eqGuard .eql 51 x y (val p) (val q)).run Tryz.prog W = .ok () W := by
  obtain ⟨a, b, c⟩ := p
  obtain ⟨a', b', c'⟩ := q
  simp only [val]
  go_simp
theorem toList_inj (c c' : ByteArray) : (c.toList = c'.toList) = (c = c') := propext ⟨fun h => by
  rw [Lib.toList_data, Lib.toList_data] at h
  exact ByteArray.ext (by simpa using h), fun h => by rw [h]⟩
theorem eq_val (p q : V3) (W : World) : (binOp .eql 51 (val p) (val q)).run Tryz.prog W = .ok (.bool (decide (p = q))) W := by
  obtain ⟨a, b, c⟩ := p
  obtain ⟨a', b', c'⟩ := q
  simp only [val]
  go_simp
  simp only [toList_inj]
  by_cases h1 : a = a' <;> by_cases h2 : b = b' <;> by_cases h3 : c = c' <;> simp [h1, h2, h3]
theorem neguard_val (p q : V3) (x y : Operand) (W : World) : (eqGuard .neq 51 x y (val p) (val q)).run Tryz.prog W = .ok () W := by
  obtain ⟨a, b, c⟩ := p
  obtain ⟨a', b', c'⟩ := q
  simp only [val]
  go_simp
theorem ne_val (p q : V3) (W : World) : (binOp .neq 51 (val p) (val q)).run Tryz.prog W = .ok (.bool (decide (p ≠ q))) W := by
  obtain ⟨a, b, c⟩ := p
  obtain ⟨a', b', c'⟩ := q
  simp only [val]
  go_simp
  simp only [toList_inj]
  by_cases h1 : a = a' <;> by_cases h2 : b = b' <;> by_cases h3 : c = c' <;> simp [h1, h2, h3]

/-! ### a map of values -/
def R3 (v : Value) : Option (DataW V3 × List MemPlace) :=
  match v with
  | .agg ⟨[.int .u8 a, .int .i64 b, .string c]⟩ => some (.held (a, b, c), [])
  | _ => none
theorem R3_val (p : V3) : R3 (val p) = some (.held p, []) := rfl
theorem R3_inv {v : Value} {z : DataW V3 × List MemPlace} (h : R3 v = some z) : ∃ p, v = val p ∧ z = (.held p, []) := by
  unfold R3 at h
  split at h
  · rename_i a b c
    cases h
    exact ⟨(a, b, c), rfl, rfl⟩
  · cases h
/-- What the map holds at a key: nothing, if it isn't there. -/
def atv (D : DataW V3) (l : Lit) : V3 := match D.atKey l (.held zero3) with | .held p => p | _ => zero3
theorem zeroV (w : World) : (zeroValue 51).run Tryz.prog w = .ok (val zero3) w := by kernel_rfl
theorem look (w : World) (b n : Nat) (D : DataW V3) (h : w.ownsMap Tryz.prog 51 R3 b n D) {p : V3} {l : Lit} (hl : keyOf Tryz.prog 51 (val p) = some l) :
    (Instr.lookup 63 (.map (some b)) (val p) false).run Tryz.prog w = .ok (val (atv D l)) w := by
  obtain ⟨v, ps, hrun, hv⟩ := h.lookup K Tryz.underlying63 (zeroV w) (R3_val zero3) hl
  obtain ⟨q, rfl, hz⟩ := R3_inv hv
  have : q = atv D l := by have hz1 : D.atKey l (.held zero3) = .held q := congrArg Prod.fst hz; unfold atv; rw [hz1]
  rw [hrun, this]
theorem look_ok (w : World) (b n : Nat) (D : DataW V3) (h : w.ownsMap Tryz.prog 51 R3 b n D) {p : V3} {l : Lit} (hl : keyOf Tryz.prog 51 (val p) = some l) :
    (Instr.lookup 63 (.map (some b)) (val p) true).run Tryz.prog w = .ok (.tuple #[val (atv D l), .bool (Maps.has D l)]) w := by
  obtain ⟨v, ps, hrun, hv⟩ := h.look_ok K Tryz.underlying63 (zeroV w) (R3_val zero3) hl
  obtain ⟨q, rfl, hz⟩ := R3_inv hv
  have : q = atv D l := by have hz1 : D.atKey l (.held zero3) = .held q := congrArg Prod.fst hz; unfold atv; rw [hz1]
  rw [hrun, this]
end Go.Proofs.YtmmfpkkkpeapeaaGreatDoor.rec
