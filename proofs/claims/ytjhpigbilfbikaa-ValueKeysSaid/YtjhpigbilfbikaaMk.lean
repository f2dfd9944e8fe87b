/- Package value's makers, Awake, Make: each walked once; the keys of a map of values. -/
import Derived.Test.YtjhpigbilfbikaaRows
import Derived.Below
import Derived.WalkKit
import Derived.ProofKit
import Derived.Lib.Hide
import Derived.Laws.BitsLemmas
import Derived.DeepKeys4
import Derived.Maps.Own
import Derived.Maps.OwnSet
namespace Go.Proofs.Ytjhpigbilfbikaa.Mk
open Go.RowKit
theorem number (n : Int) (w : World) : Calls Try.prog 7 #[.int .i64 n] w fun e w' => e = .returned (.agg #[.int .u8 2, .int .i64 n, .string ⟨#[]⟩]) ∧ Below w.heap.size w w' := by
  go_enter Try.func7, Try.ntmps7
  go_wp2
  exact bodyPost_ret (v := .agg #[.int .u8 2, .int .i64 n, .string ⟨#[]⟩]) (by simp [results, Try.results7, go_sem]) rfl ⟨rfl, (Below.refl _ _).alloc (Nat.le_refl _) _⟩
theorem true_nil (w : World) : Calls Try.prog 8 #[.agg #[.int .u8 0, .int .i64 0, .string ⟨#[]⟩]] w fun e w' => e = .returned (.bool false) ∧ Below w.heap.size w w' := by
  go_enter Try.func8, Try.ntmps8
  go_wp2
  go_ret
  exact ⟨rfl, (Below.refl _ _).alloc (Nat.le_refl _) _⟩
theorem awake01 (w : World) : Calls Try.prog 6 #[] w fun e w' => e = .returned (.bool true) ∧ Below w.heap.size w w' := by
  go_enter Try.func6, Try.ntmps6
  go_wp2
  go_ret
  exact ⟨rfl, (Below.refl _ _)⟩

theorem awake (w : World) : Calls Try.prog 4 #[] w fun e w' => e = .returned (.bool true) ∧ Below w.heap.size w w' := by
  go_enter Try.func4, Try.ntmps4
  go_wp2_with (first | (go_at_call 7; refine (number _ _).mono ?_; rintro e w1 ⟨rfl, hb1⟩) | (go_at_call 6; refine (awake01 _).mono ?_; rintro e w0 ⟨rfl, hb0⟩) | (go_at_call 8; refine (true_nil _).mono ?_; rintro e w2 ⟨rfl, hb2⟩))
  go_ret
  exact ⟨rfl, hb0.trans ((hb1.mono hb0.size).trans (hb2.mono (Nat.le_trans hb0.size hb1.size)))⟩


def Up (w w' : World) : Prop := Below w.heap.size w w'
theorem Up.refl (w : World) : Up w w := Below.refl _ _
theorem Up.trans {a b c : World} (h : Up a b) (k : Up b c) : Up a c := Below.trans h (Below.mono k (Below.size h))
theorem Up.alloc {a b : World} (h : Up a b) (o : Obj) : Up a (b.alloc o) := Below.alloc h (Below.size h) o
theorem and_one (n : Int) : bits .and .i64 n 1 = n % 2 := by
  show IntKind.i64.wrap (((BitVec.ofInt 64 n &&& BitVec.ofInt 64 1 : BitVec 64).toNat : Nat) : Int) = n % 2
  have e1 : BitVec.ofInt 64 1 = 1#64 := by decide
  have e2 : (1#64).toNat = 1 := by decide
  rw [e1, BitVec.toNat_and, e2, Nat.and_one_is_mod, BitVec.toNat_ofInt, IntKind.wrap_i64]
  omega

/-- What Make answers: kind, number, text. -/
def mk (k n : Int) (s : ByteArray) : Int × Int × ByteArray :=
  if k % 5 = 1 then (1, n % 2, ⟨#[]⟩) else if k % 5 = 2 then (2, n, ⟨#[]⟩) else if k % 5 = 3 then (3, 0, s) else if k % 5 = 4 then (4, (n.tmod 6 + 6) % 6, ⟨#[]⟩) else (0, 0, ⟨#[]⟩)
def val (p : Int × Int × ByteArray) : Value := .agg #[.int .u8 p.1, .int .i64 p.2.1, .string p.2.2]

theorem six (n : Int) : (wrap64 (n.tmod 6 + 6)).tmod 6 = (n.tmod 6 + 6) % 6 := by
  have h1 : -6 < n.tmod 6 := by have := Int.lt_tmod_of_pos n (b := 6) (by decide); simpa using this
  have h2 : n.tmod 6 < 6 := Int.tmod_lt_of_pos n (by decide)
  unfold wrap64
  rw [Int.tmod_eq_emod_of_nonneg (by omega)]
  omega

set_option maxHeartbeats 1000000 in
theorem make_any (k n : Int) (s : ByteArray) (h0 : 0 ≤ k) (h1 : k ≤ 255) (w : World) : Calls Try.prog 5 #[.agg #[.int .u8 k, .int .i64 n, .string s]] w fun e w' => e = .returned (val (mk k n s)) ∧ Up w w' := by
  have S := Lib.hid (six n)
  have A := Lib.hid (and_one n)
  by_cases c1 : k % 5 = 1
  · have b1 : (k % 5 == 1) = true := by simpa using c1
    have V : Hid (val (mk k n s) = .agg #[.int .u8 1, .int .i64 (n % 2), .string ⟨#[]⟩]) := by unfold mk; rw [if_pos c1]; rfl
    clear c1
    go_enter Try.func5, Try.ntmps5
    go_wp2
    rw [A.out]
    rw [V.out]
    exact bodyPost_ret (v := .agg #[.int .u8 1, .int .i64 (n % 2), .string ⟨#[]⟩]) (by simp [results, Try.results5, go_sem]) rfl ⟨rfl, ((Up.refl w).alloc _).alloc _⟩
  have b1 : (k % 5 == 1) = false := by simpa using c1
  by_cases c2 : k % 5 = 2
  · have b2 : (k % 5 == 2) = true := by simpa using c2
    have V : Hid (val (mk k n s) = .agg #[.int .u8 2, .int .i64 n, .string ⟨#[]⟩]) := by unfold mk; rw [if_neg c1, if_pos c2]; rfl
    clear c1 c2
    go_enter Try.func5, Try.ntmps5
    go_wp2
    rw [V.out]
    exact bodyPost_ret (v := .agg #[.int .u8 2, .int .i64 n, .string ⟨#[]⟩]) (by simp [results, Try.results5, go_sem]) rfl ⟨rfl, ((Up.refl w).alloc _).alloc _⟩
  have b2 : (k % 5 == 2) = false := by simpa using c2
  by_cases c3 : k % 5 = 3
  · have b3 : (k % 5 == 3) = true := by simpa using c3
    have V : Hid (val (mk k n s) = .agg #[.int .u8 3, .int .i64 0, .string s]) := by unfold mk; rw [if_neg c1, if_neg c2, if_pos c3]; rfl
    clear c1 c2 c3
    go_enter Try.func5, Try.ntmps5
    go_wp2
    rw [V.out]
    exact bodyPost_ret (v := .agg #[.int .u8 3, .int .i64 0, .string s]) (by simp [results, Try.results5, go_sem]) rfl ⟨rfl, ((Up.refl w).alloc _).alloc _⟩
  have b3 : (k % 5 == 3) = false := by simpa using c3
  by_cases c4 : k % 5 = 4
  · have b4 : (k % 5 == 4) = true := by simpa using c4
    have V : Hid (val (mk k n s) = .agg #[.int .u8 4, .int .i64 ((n.tmod 6 + 6) % 6), .string ⟨#[]⟩]) := by unfold mk; rw [if_neg c1, if_neg c2, if_neg c3, if_pos c4]; rfl
    clear c1 c2 c3 c4
    go_enter Try.func5, Try.ntmps5
    go_wp2
    rw [V.out]
    exact bodyPost_ret (v := .agg #[.int .u8 4, .int .i64 ((n.tmod 6 + 6) % 6), .string ⟨#[]⟩]) (by simp [results, Try.results5, go_sem, S.out]) rfl ⟨rfl, ((Up.refl w).alloc _).alloc _⟩
  have b4 : (k % 5 == 4) = false := by simpa using c4
  have V : Hid (val (mk k n s) = .agg #[.int .u8 0, .int .i64 0, .string ⟨#[]⟩]) := by unfold mk; rw [if_neg c1, if_neg c2, if_neg c3, if_neg c4]; rfl
  clear c1 c2 c3 c4
  go_enter Try.func5, Try.ntmps5
  go_wp2
  rw [V.out]
  exact bodyPost_ret (v := .agg #[.int .u8 0, .int .i64 0, .string ⟨#[]⟩]) (by simp [results, Try.results5, go_sem]) rfl ⟨rfl, ((Up.refl w).alloc _).alloc _⟩


/-! ### the map's keys -/
theorem laidOut : laidOutB Try.prog = true := by kernel_rfl
theorem row29 : (29 : TypeId) < Try.prog.types.size := of_decide_eq_true (by kernel_rfl)
theorem deep29 : Try.prog.keyTypeAt (Try.prog.types.size + 1) 29 = true := by kernel_rfl
theorem wide29 : (match Try.prog.underlying 29 with | some (.array _ _) | some (.struct _) => true | _ => false) = true := by kernel_rfl
theorem K : Maps.Keyed Try.prog 29 := Maps.Keyed.of_law (deep_law_laid laidOut (m := 2) (by omega) row29 (by kernel_rfl) wide29)
theorem cells29 : Try.prog.cellsOf 29 = 3 := by kernel_rfl
theorem size45 : Try.prog.types.size + 1 = (Try.prog.types.size - 1) + 1 + 1 := by kernel_rfl
theorem key_of (k n : Int) (s : ByteArray) (hk : (Lit.int .u8 k).wf = true) (hn : (Lit.int .i64 n).wf = true) (hs : s.size ≤ maxLen) : ∃ l, keyOf Try.prog 29 (.agg #[.int .u8 k, .int .i64 n, .string s]) = some l := by
  have hf : (Value.agg #[.int .u8 k, .int .i64 n, .string s]).formed Try.prog 29 = true := by simp [Value.formed, Try.underlying29, cells29]
  have c27 : Try.prog.cellsOf 27 = 1 := by kernel_rfl
  have c2 : Try.prog.cellsOf 2 = 1 := by kernel_rfl
  have c9 : Try.prog.cellsOf 9 = 1 := by kernel_rfl
  have hl : Try.prog.keyLits (Try.prog.types.size + 1) 29 [.int .u8 k, .int .i64 n, .string s] = some [.int .u8 k, .int .i64 n, .string s.data.toList] := by
    obtain ⟨d, hd⟩ : ∃ d, Try.prog.types.size + 1 = d + 1 + 1 := ⟨_, size45⟩
    rw [hd]
    simp [Program.keyLits, Try.underlying29, Try.underlying27, Try.underlying2, Try.underlying9, cells29, c27, c2, c9, hk, hn, hs]
  refine ⟨.string (keyBytes [.int .u8 k, .int .i64 n, .string s.data.toList]), ?_⟩
  unfold keyOf
  rw [Try.underlying29]
  simp only [Program.keyType, deep29, hf, Bool.and_self, if_true]
  rw [show (Value.agg #[.int .u8 k, .int .i64 n, .string s]).cells.toList = [.int .u8 k, .int .i64 n, .string s] from rfl, hl]
  rfl
end Go.Proofs.Ytjhpigbilfbikaa.Mk
