import Derived.Test.YtjilhodlhmaknaaTwo
import Derived.Laws.BitsLemmas
open Go.Proofs.Ytjilhodlhmaknaa.One
open Go.Proofs.Ytjilhodlhmaknaa.Two
namespace Go.Proofs.Ytjilhodlhmaknaa.Thr
open Go.RowKit

theorem and_one (n : Int) : bits .and .i64 n 1 = n % 2 := by
  show IntKind.i64.wrap (((BitVec.ofInt 64 n &&& BitVec.ofInt 64 1 : BitVec 64).toNat : Nat) : Int) = n % 2
  have e1 : BitVec.ofInt 64 1 = 1#64 := by decide
  have e2 : (1#64).toNat = 1 := by decide
  rw [e1, BitVec.toNat_and, e2, Nat.and_one_is_mod, BitVec.toNat_ofInt, IntKind.wrap_i64]
  omega

/-- What Make answers: kind, number, text. -/
def mk (k n : Int) (s : ByteArray) : Int × Int × ByteArray :=
  if k % 5 = 1 then (1, n % 2, ⟨#[]⟩) else if k % 5 = 2 then (2, n, ⟨#[]⟩) else if k % 5 = 3 then (3, 0, s) else if k % 5 = 4 then (4, (n.tmod 6 + 6) % 6, ⟨#[]⟩) else (0, 0, ⟨#[]⟩)
def val (p : Int × Int × ByteArray) : Value := .agg #[.int .u8 p.1, .int .i64 p.2.1, .string p.2.2]

theorem six (n : Int) : (wrap64 (n.tmod 6 + 6)).tmod 6 = (n.tmod 6 + 6) % 6 := by
  have h1 : -6 < n.tmod 6 := by have := Int.lt_tmod_of_pos n (b := 6) (by decide); simpa using this
  have h2 : n.tmod 6 < 6 := Int.tmod_lt_of_pos n (by decide)
  unfold wrap64
  rw [Int.tmod_eq_emod_of_nonneg (by omega)]
  omega

set_option maxHeartbeats 1000000 in
theorem make_any (k n : Int) (s : ByteArray) (h0 : 0 ≤ k) (h1 : k ≤ 255) (w : World) : Calls Try.prog 7 #[.agg #[.int .u8 k, .int .i64 n, .string s]] w fun e w' => e = .returned (val (mk k n s)) ∧ Up w w' := by
  have S := Lib.hid (six n)
  have A := Lib.hid (and_one n)
  by_cases c1 : k % 5 = 1
  · have b1 : (k % 5 == 1) = true := by simpa using c1
    have V : Hid (val (mk k n s) = .agg #[.int .u8 1, .int .i64 (n % 2), .string ⟨#[]⟩]) := by unfold mk; rw [if_pos c1]; rfl
    clear c1
    go_enter Try.func7, Try.ntmps7
    go_wp2
    rw [A.out]
    rw [V.out]
    exact bodyPost_ret (v := .agg #[.int .u8 1, .int .i64 (n % 2), .string ⟨#[]⟩]) (by simp [results, Try.results7, go_sem]) rfl ⟨rfl, ((Up.refl w).alloc _).alloc _⟩
  have b1 : (k % 5 == 1) = false := by simpa using c1
  by_cases c2 : k % 5 = 2
  · have b2 : (k % 5 == 2) = true := by simpa using c2
    have V : Hid (val (mk k n s) = .agg #[.int .u8 2, .int .i64 n, .string ⟨#[]⟩]) := by unfold mk; rw [if_neg c1, if_pos c2]; rfl
    clear c1 c2
    go_enter Try.func7, Try.ntmps7
    go_wp2
    rw [V.out]
    exact bodyPost_ret (v := .agg #[.int .u8 2, .int .i64 n, .string ⟨#[]⟩]) (by simp [results, Try.results7, go_sem]) rfl ⟨rfl, ((Up.refl w).alloc _).alloc _⟩
  have b2 : (k % 5 == 2) = false := by simpa using c2
  by_cases c3 : k % 5 = 3
  · have b3 : (k % 5 == 3) = true := by simpa using c3
    have V : Hid (val (mk k n s) = .agg #[.int .u8 3, .int .i64 0, .string s]) := by unfold mk; rw [if_neg c1, if_neg c2, if_pos c3]; rfl
    clear c1 c2 c3
    go_enter Try.func7, Try.ntmps7
    go_wp2
    rw [V.out]
    exact bodyPost_ret (v := .agg #[.int .u8 3, .int .i64 0, .string s]) (by simp [results, Try.results7, go_sem]) rfl ⟨rfl, ((Up.refl w).alloc _).alloc _⟩
  have b3 : (k % 5 == 3) = false := by simpa using c3
  by_cases c4 : k % 5 = 4
  · have b4 : (k % 5 == 4) = true := by simpa using c4
    have V : Hid (val (mk k n s) = .agg #[.int .u8 4, .int .i64 ((n.tmod 6 + 6) % 6), .string ⟨#[]⟩]) := by unfold mk; rw [if_neg c1, if_neg c2, if_neg c3, if_pos c4]; rfl
    clear c1 c2 c3 c4
    go_enter Try.func7, Try.ntmps7
    go_wp2
    rw [V.out]
    exact bodyPost_ret (v := .agg #[.int .u8 4, .int .i64 ((n.tmod 6 + 6) % 6), .string ⟨#[]⟩]) (by simp [results, Try.results7, go_sem, S.out]) rfl ⟨rfl, ((Up.refl w).alloc _).alloc _⟩
  have b4 : (k % 5 == 4) = false := by simpa using c4
  have V : Hid (val (mk k n s) = .agg #[.int .u8 0, .int .i64 0, .string ⟨#[]⟩]) := by unfold mk; rw [if_neg c1, if_neg c2, if_neg c3, if_neg c4]; rfl
  clear c1 c2 c3 c4
  go_enter Try.func7, Try.ntmps7
  go_wp2
  rw [V.out]
  exact bodyPost_ret (v := .agg #[.int .u8 0, .int .i64 0, .string ⟨#[]⟩]) (by simp [results, Try.results7, go_sem]) rfl ⟨rfl, ((Up.refl w).alloc _).alloc _⟩

/-- Does it count as true? -/
def tr (k n : Int) : Bool := decide (1 < k) || (k == 1 && n != 0)
/-- May it be a key? -/
def key (k : Int) : Bool := k == 2 || k == 3

set_option maxHeartbeats 1000000 in
theorem true_any (k n : Int) (s : ByteArray) (w : World) : Calls Try.prog 9 #[.agg #[.int .u8 k, .int .i64 n, .string s]] w fun e w' => e = .returned (.bool (tr k n)) ∧ Up w w' := by
  by_cases c1 : 1 < k
  · have V : Hid (tr k n = true) := by unfold Hid tr; simp [c1]
    go_enter Try.func9, Try.ntmps9
    go_wp2
    go_ret
    exact ⟨by rw [V.out]; rfl, (Up.refl w).alloc _⟩
  by_cases c2 : k = 1
  · subst c2
    by_cases c3 : n = 0
    · subst c3
      have V : Hid (tr 1 0 = false) := rfl
      go_enter Try.func9, Try.ntmps9
      go_wp2
      go_ret
      exact ⟨by rw [V.out]; rfl, (Up.refl w).alloc _⟩
    · have b3 : (n != 0) = true := by simpa using c3
      have V : Hid (tr 1 n = true) := by unfold Hid tr; simp [b3]
      go_enter Try.func9, Try.ntmps9
      go_wp2
      go_ret
      exact ⟨by rw [V.out]; rfl, (Up.refl w).alloc _⟩
  have b2 : (k == 1) = false := by simpa using c2
  have V : Hid (tr k n = false) := by unfold Hid tr; simp [b2]; omega
  have c1 : k ≤ 1 := by omega
  clear c2
  go_enter Try.func9, Try.ntmps9
  go_wp2
  go_ret
  exact ⟨by rw [V.out]; rfl, (Up.refl w).alloc _⟩

set_option maxHeartbeats 1000000 in
theorem key_any (k n : Int) (s : ByteArray) (w : World) : Calls Try.prog 10 #[.agg #[.int .u8 k, .int .i64 n, .string s]] w fun e w' => e = .returned (.bool (key k)) ∧ Up w w' := by
  by_cases c2 : k = 2
  · subst c2
    have V : Hid (key 2 = true) := rfl
    go_enter Try.func10, Try.ntmps10
    go_wp2
    go_ret
    exact ⟨by rw [V.out]; rfl, (Up.refl w).alloc _⟩
  have b2 : (k == 2) = false := by simpa using c2
  by_cases c3 : k = 3
  · subst c3
    have V : Hid (key 3 = true) := rfl
    go_enter Try.func10, Try.ntmps10
    go_wp2
    go_ret
    exact ⟨by rw [V.out]; rfl, (Up.refl w).alloc _⟩
  have b3 : (k == 3) = false := by simpa using c3
  have V : Hid (key k = false) := by unfold Hid key; rw [b2, b3]; rfl
  clear c2 c3
  go_enter Try.func10, Try.ntmps10
  go_wp2
  go_ret
  exact ⟨by rw [V.out]; rfl, (Up.refl w).alloc _⟩

theorem Has3.two {w : World} {b : Nat} {c0 c1 c2 : Value} (o p : Obj) (h : Has3 w b c0 c1 c2) : Has3 ((w.alloc o).alloc p) b c0 c1 c2 := h.up (((Up.refl w).alloc o).alloc p)
theorem has3_first (w : World) (c0 c1 c2 : Value) (t : Nat) (p : Obj) : Has3 ((w.alloc (.cells #[c0, c1, c2] t)).alloc p) w.heap.size c0 c1 c2 := (has3_alloc w c0 c1 c2 t).up ((Up.refl _).alloc p)
theorem has3_second (w : World) (c0 c1 c2 : Value) (t : Nat) (o : Obj) : Has3 ((w.alloc o).alloc (.cells #[c0, c1, c2] t)) (w.heap.size + 1) c0 c1 c2 := by
  have h := has3_alloc (w.alloc o) c0 c1 c2 t
  rwa [show (w.alloc o).heap.size = w.heap.size + 1 by simp] at h

theorem mk_at0 (k n : Int) (s : ByteArray) (h : k % 5 = 0) : mk k n s = (0, 0, ⟨#[]⟩) := by simp [mk, h]
theorem mk_at1 (k n : Int) (s : ByteArray) (h : k % 5 = 1) : mk k n s = (1, n % 2, ⟨#[]⟩) := by simp [mk, h]
theorem mk_at2 (k n : Int) (s : ByteArray) (h : k % 5 = 2) : mk k n s = (2, n, ⟨#[]⟩) := by simp [mk, h]
theorem mk_at3 (k n : Int) (s : ByteArray) (h : k % 5 = 3) : mk k n s = (3, 0, s) := by simp [mk, h]
theorem mk_at4 (k n : Int) (s : ByteArray) (h : k % 5 = 4) : mk k n s = (4, (n.tmod 6 + 6) % 6, ⟨#[]⟩) := by simp [mk, h]
theorem half (n : Int) : n % 2 = 0 ∨ n % 2 = 1 := by omega

set_option maxHeartbeats 4000000 in
theorem asks_at (k n : Int) (s : ByteArray) (r : Int) (h0 : 0 ≤ k) (h1 : k ≤ 255) (j a : Int) (m1 : Int) (m2 : ByteArray) (hj : k % 5 = j) (ha : bits .and .i64 n 1 = a) (hm : mk k n s = (j, m1, m2)) (hc : (j = 0 ∧ m1 = 0) ∨ (j = 1 ∧ m1 = a ∧ (a = 0 ∨ a = 1)) ∨ j = 2 ∨ j = 3 ∨ j = 4) (w : World) :
    Calls Try.prog 4 #[.agg #[.int .u8 k, .int .i64 n, .string s], .int .u64 r] w fun e w' => e = .returned (.bool true) ∧ Up w w' := by
  have M := Lib.hid hm
  have J := Lib.hid hj
  have A := Lib.hid ha
  clear hm hj ha
  go_enter Try.func4, Try.ntmps4
  go_wp2_with fail
  have B := Lib.hid (has3_alloc w (.int .u8 k) (.int .i64 n) (.string s) 26)
  refine (awake _).mono ?_; rintro e w0 ⟨rfl, hb0⟩
  have U0 := Lib.hid (((Up.refl w).alloc (.cells #[.int .u8 k, .int .i64 n, .string s] 26)).trans hb0)
  have B0 := B.out.up hb0
  clear B hb0
  obtain ⟨l0, c0, c1, c2⟩ := B0
  go_wp2_with fail
  have B1 := Lib.hid (show Has3 w0 w.heap.size (.int .u8 k) (.int .i64 n) (.string s) from ⟨l0, c0, c1, c2⟩)
  clear l0 c0 c1 c2
  refine (make_any k n s h0 h1 _).mono ?_; rintro e w1 ⟨rfl, hb1⟩
  have U1 := Lib.hid (U0.out.trans hb1); have B2 := Lib.hid (B1.out.up hb1); clear U0 B1 hb1
  rw [M.out]
  unfold val
  go_wp2_with fail
  refine (object _ _).mono ?_; rintro e w2 ⟨rfl, hb2⟩
  have U2 := Lib.hid (U1.out.trans hb2)
  obtain ⟨l0, c0, c1, c2⟩ := B2.out.up hb2
  clear U1 B2 hb2
  have X := Lib.hid (has3_first w2 (.int .u8 j) (.int .i64 m1) (.string m2) 29 (.cells #[.int .u8 5, .int .i64 (wrap64 r), .string ⟨#[]⟩] 29))
  have Y := Lib.hid (has3_second w2 (.int .u8 5) (.int .i64 (wrap64 r)) (.string ⟨#[]⟩) 29 (.cells #[.int .u8 j, .int .i64 m1, .string m2] 29))
  have U3 := Lib.hid ((U2.out.alloc (.cells #[.int .u8 j, .int .i64 m1, .string m2] 29)).alloc (.cells #[.int .u8 5, .int .i64 (wrap64 r), .string ⟨#[]⟩] 29))
  clear U2
  have hj := J.out
  have ha := A.out
  rcases hc with ⟨rfl, rfl⟩ | ⟨rfl, rfl, rfl | rfl⟩ | rfl | rfl | rfl
  all_goals
    go_wp2_with fail
    clear l0 c0 c1 c2
    refine (true_any _ _ _ _).mono ?_; rintro e w3 ⟨rfl, hb3⟩
    have U4 := Lib.hid (U3.out.trans hb3)
    obtain ⟨l0, c0, c1, c2⟩ := X.out.up hb3
    have Y4 := Lib.hid (Y.out.up hb3)
    simp only [show tr 0 0 = false from rfl, show tr 1 0 = false from rfl, show tr 1 1 = true from rfl, show ∀ x, tr 2 x = true from fun _ => rfl, show ∀ x, tr 3 x = true from fun _ => rfl, show ∀ x, tr 4 x = true from fun _ => rfl]
    go_wp2_with fail
    clear l0 c0 c1 c2
    refine (key_any _ _ _ _).mono ?_; rintro e w4 ⟨rfl, hb4⟩
    have U5 := Lib.hid (U4.out.trans hb4)
    obtain ⟨l0, c0, c1, c2⟩ := Y4.out.up hb4
    have Y5 := Lib.hid (Y4.out.up hb4)
    simp only [show key 0 = false from rfl, show key 1 = false from rfl, show key 2 = true from rfl, show key 3 = true from rfl, show key 4 = false from rfl]
    go_wp2_with fail
    clear l0 c0 c1 c2
    refine (true_any _ _ _ _).mono ?_; rintro e w5 ⟨rfl, hb5⟩
    have U6 := Lib.hid (U5.out.trans hb5)
    obtain ⟨l0, c0, c1, c2⟩ := Y5.out.up hb5
    simp only [show ∀ x, tr 5 x = true from fun _ => rfl]
    go_wp2_with fail
    clear l0 c0 c1 c2
    refine (key_any _ _ _ _).mono ?_; rintro e w6 ⟨rfl, hb6⟩
    have U7 := Lib.hid (U6.out.trans hb6)
    simp only [show key 5 = false from rfl]
    go_wp2_with fail
    go_ret
    exact ⟨rfl, U7.out⟩
theorem asks (k n : Int) (s : ByteArray) (r : Int) (h0 : 0 ≤ k) (h1 : k ≤ 255) (w : World) :
    Calls Try.prog 4 #[.agg #[.int .u8 k, .int .i64 n, .string s], .int .u64 r] w fun e w' => e = .returned (.bool true) ∧ Up w w' := by
  have : k % 5 = 0 ∨ k % 5 = 1 ∨ k % 5 = 2 ∨ k % 5 = 3 ∨ k % 5 = 4 := by omega
  rcases this with h | h | h | h | h
  · exact asks_at k n s r h0 h1 0 _ _ _ h rfl (mk_at0 k n s h) (by simp) w
  · exact asks_at k n s r h0 h1 1 (n % 2) _ _ h (and_one n) (mk_at1 k n s h) (by simp; exact half n) w
  · exact asks_at k n s r h0 h1 2 _ _ _ h rfl (mk_at2 k n s h) (by simp) w
  · exact asks_at k n s r h0 h1 3 _ _ _ h rfl (mk_at3 k n s h) (by simp) w
  · exact asks_at k n s r h0 h1 4 _ _ _ h rfl (mk_at4 k n s h) (by simp) w
end Go.Proofs.Ytjilhodlhmaknaa.Thr
