/- ValueSames: two values are equal just if their texts are, and their kinds. -/
import Derived.Test.YtjhpigbilfbikaaDoorAwake
import Derived.Test.YtjhpigbilfbikaaDoorFmt
import Derived.Lib.ItoaLen
import Derived.Test.YtjhpigbilfbikaaDoorQInj
set_option linter.unusedVariables false
set_option linter.unusedSimpArgs false
set_option maxRecDepth 100000
namespace Go.Proofs.YtjhpigbilfbikaaDoor.sames
open Go Go.RowKit Ev
theorem rem_cases5 (k : Int) (h : 0 ≤ k) : Int.tmod k 5 = 0 ∨ Int.tmod k 5 = 1 ∨ Int.tmod k 5 = 2 ∨ Int.tmod k 5 = 3 ∨ Int.tmod k 5 = 4 := by
  rw [Int.tmod_eq_emod_of_nonneg h]; omega
theorem six_cases (n : Int) : (Int.tmod (wrapF .i64 ((Int.tmod n 6) + (6))) 6) = 0 ∨ (Int.tmod (wrapF .i64 ((Int.tmod n 6) + (6))) 6) = 1 ∨ (Int.tmod (wrapF .i64 ((Int.tmod n 6) + (6))) 6) = 2 ∨ (Int.tmod (wrapF .i64 ((Int.tmod n 6) + (6))) 6) = 3 ∨ (Int.tmod (wrapF .i64 ((Int.tmod n 6) + (6))) 6) = 4 ∨ (Int.tmod (wrapF .i64 ((Int.tmod n 6) + (6))) 6) = 5 := by
  have h1 : -6 < n.tmod 6 := by have := Int.lt_tmod_of_pos n (b := 6) (by decide); simpa using this
  have h2 : n.tmod 6 < 6 := Int.tmod_lt_of_pos n (by decide)
  have e : wrapF .i64 ((Int.tmod n 6) + (6)) = Int.tmod n 6 + 6 := by simp only [wrapF]; split <;> omega
  rw [e, Int.tmod_eq_emod_of_nonneg (by omega)]
  omega
theorem and_cases (n : Int) : (wrapF .i64 ((BitVec.ofInt (IntKind.bits .i64) n &&& BitVec.ofInt (IntKind.bits .i64) 1).toNat : Int)) = 0 ∨ (wrapF .i64 ((BitVec.ofInt (IntKind.bits .i64) n &&& BitVec.ofInt (IntKind.bits .i64) 1).toNat : Int)) = 1 := by
  have e2 : (1#64).toNat = 1 := by decide
  show wrapF .i64 (((BitVec.ofInt 64 n &&& BitVec.ofInt 64 1 : BitVec 64).toNat : Nat) : Int) = 0 ∨ wrapF .i64 (((BitVec.ofInt 64 n &&& BitVec.ofInt 64 1 : BitVec 64).toNat : Nat) : Int) = 1
  rw [show BitVec.ofInt 64 1 = 1#64 by decide, BitVec.toNat_and, e2, Nat.and_one_is_mod]
  rcases (by omega : (BitVec.ofInt 64 n).toNat % 2 = 0 ∨ (BitVec.ofInt 64 n).toNat % 2 = 1) with h | h
  · rw [h]; exact .inl rfl
  · rw [h]; exact .inr rfl
theorem wrap_back (r : Int) (h : 0 ≤ r ∧ r ≤ 18446744073709551615) : wrapF .u64 (wrapF .i64 r) = r := by
  simp only [wrapF]; split <;> omega
theorem fmt (n : Int) (h0 : -9223372036854775808 ≤ n) (h1 : n ≤ 9223372036854775807) (w : World) (hL : Laid w) : Calls Tryd.prog 11 #[.int .i64 n, .int .i64 10] w fun e w' => e = .returned (.string ⟨(Lib.itoa n).toArray⟩) ∧ Below w.heap.size w w' :=
  (Tryd.strconv_FormatInt_10 n h0 h1 w (pow10_tab hL)).mono fun e w' ⟨he, k, os, hw⟩ => ⟨he, by rw [hw]; exact Lib.below_grow _ _ (Nat.le_refl _) _ _⟩
theorem fmtu (u : Nat) (h : u < 18446744073709551616) (w : World) (hL : Laid w) : Calls Tryd.prog 10 #[.int .u64 u, .int .i64 10] w fun e w' => e = .returned (.string ⟨(Lib.decDigits u).toArray⟩) ∧ Below w.heap.size w w' :=
  (Fmt.formatUint u h w (pow10_tab hL)).mono fun e w' ⟨he, k, os, hw⟩ => ⟨he, by rw [hw]; exact Lib.below_grow _ _ (Nat.le_refl _) _ _⟩
theorem quo (s : ByteArray) (h : s.data.size ≤ 200) (w : World) (hL : Laid w) : Calls Tryd.prog 12 #[.string s] w fun e w' => e = .returned (.string (strOfNums (Lib.quoteZ Lib.goPrintTabs s))) ∧ Below w.heap.size w w' :=
  Tryd.strconv_Quote Lib.goPrintTabs s w (by have : s.size = s.data.size := rfl; omega) hL.2.1 hL.2.2
theorem longsf_1 (k n : Int) (s : ByteArray) (l m : Int) (t fn fm qs qt : ByteArray) (hk : 0 ≤ k) (hl : 0 ≤ l) (hs : 100 < s.data.size) (h0 : decide ((((s).data.size : Int)) > 100) = true) (w : World) (hL : Laid w) : Calls Tryd.prog 3 #[.agg #[.int .u8 k, .int .i64 n, .string s], .agg #[.int .u8 l, .int .i64 m, .string t], .bool false] w fun e w' => e = .returned (.bool true) ∧ Below w.heap.size w w' :=
  tab [.int .u8 k, .int .i64 n, .string s, .int .u8 l, .int .i64 m, .string t, .string fn, .string fm, .string qs, .string qt, .int .i64 ((s).data.size : Int)] [2, 2, 3, 2, 2, 3, 3, 3, 3, 3, 2] [(.len 9, [.complex .f64 3 0], .complex .f64 11 0), (.bin .gtr 3, [.complex .f64 11 0, .int .i64 100], .bool true)] [] [(5, [], .bool true)] 3 [.agg #[.complex .f64 1 0, .complex .f64 2 0, .complex .f64 3 0], .agg #[.complex .f64 4 0, .complex .f64 5 0, .complex .f64 6 0], .bool false] (.bool true) rfl rfl ⟨⟨rfl, pureF_len Tryd.underlying9⟩, ⟨rfl, congrArg (fun z => some (Value.bool z)) h0⟩, trivial⟩ trivial ⟨⟨rfl, fun w h => awake02 w h⟩, trivial⟩ (by kernel_rfl) rfl rfl w hL
theorem longsf_dead1 (k n : Int) (s : ByteArray) (l m : Int) (t fn fm qs qt : ByteArray) (hk : 0 ≤ k) (hl : 0 ≤ l) (hs : 100 < s.data.size) (h0 : decide ((((s).data.size : Int)) > 100) = false) : False := by
  first | (simp_all; done) | (simp only [decide_eq_true_eq, decide_eq_false_iff_not, beq_iff_eq, bne_iff_ne, ne_eq, beq_eq_false_iff_ne, bne_eq_false_iff_eq] at *; first | omega | (simp_all; done) | (simp_all; omega))
theorem longsf (k n : Int) (s : ByteArray) (l m : Int) (t fn fm qs qt : ByteArray) (hk : 0 ≤ k) (hl : 0 ≤ l) (hs : 100 < s.data.size) (w : World) (hL : Laid w) : Calls Tryd.prog 3 #[.agg #[.int .u8 k, .int .i64 n, .string s], .agg #[.int .u8 l, .int .i64 m, .string t], .bool false] w fun e w' => e = .returned (.bool true) ∧ Below w.heap.size w w' := by
  rcases Bool.eq_false_or_eq_true (decide ((((s).data.size : Int)) > 100)) with h0 | h0
  · exact longsf_1 k n s l m t fn fm qs qt hk hl hs h0 w hL
  · exact (longsf_dead1 k n s l m t fn fm qs qt hk hl hs h0).elim
theorem longtf_dead1 (k n : Int) (s : ByteArray) (l m : Int) (t fn fm qs qt : ByteArray) (hk : 0 ≤ k) (hl : 0 ≤ l) (hs : s.data.size ≤ 100) (ht : 100 < t.data.size) (h0 : decide ((((s).data.size : Int)) > 100) = true) : False := by
  first | (simp_all; done) | (simp only [decide_eq_true_eq, decide_eq_false_iff_not, beq_iff_eq, bne_iff_ne, ne_eq, beq_eq_false_iff_ne, bne_eq_false_iff_eq] at *; first | omega | (simp_all; done) | (simp_all; omega))
theorem longtf_1 (k n : Int) (s : ByteArray) (l m : Int) (t fn fm qs qt : ByteArray) (hk : 0 ≤ k) (hl : 0 ≤ l) (hs : s.data.size ≤ 100) (ht : 100 < t.data.size) (h0 : decide ((((s).data.size : Int)) > 100) = false) (h1 : decide ((((t).data.size : Int)) > 100) = true) (w : World) (hL : Laid w) : Calls Tryd.prog 3 #[.agg #[.int .u8 k, .int .i64 n, .string s], .agg #[.int .u8 l, .int .i64 m, .string t], .bool false] w fun e w' => e = .returned (.bool true) ∧ Below w.heap.size w w' :=
  tab [.int .u8 k, .int .i64 n, .string s, .int .u8 l, .int .i64 m, .string t, .string fn, .string fm, .string qs, .string qt, .int .i64 ((s).data.size : Int), .int .i64 ((t).data.size : Int)] [2, 2, 3, 2, 2, 3, 3, 3, 3, 3, 2, 2] [(.len 9, [.complex .f64 3 0], .complex .f64 11 0), (.bin .gtr 3, [.complex .f64 11 0, .int .i64 100], .bool false), (.len 9, [.complex .f64 6 0], .complex .f64 12 0), (.bin .gtr 3, [.complex .f64 12 0, .int .i64 100], .bool true)] [] [(5, [], .bool true)] 3 [.agg #[.complex .f64 1 0, .complex .f64 2 0, .complex .f64 3 0], .agg #[.complex .f64 4 0, .complex .f64 5 0, .complex .f64 6 0], .bool false] (.bool true) rfl rfl ⟨⟨rfl, pureF_len Tryd.underlying9⟩, ⟨rfl, congrArg (fun z => some (Value.bool z)) h0⟩, ⟨rfl, pureF_len Tryd.underlying9⟩, ⟨rfl, congrArg (fun z => some (Value.bool z)) h1⟩, trivial⟩ trivial ⟨⟨rfl, fun w h => awake02 w h⟩, trivial⟩ (by kernel_rfl) rfl rfl w hL
theorem longtf_dead2 (k n : Int) (s : ByteArray) (l m : Int) (t fn fm qs qt : ByteArray) (hk : 0 ≤ k) (hl : 0 ≤ l) (hs : s.data.size ≤ 100) (ht : 100 < t.data.size) (h0 : decide ((((s).data.size : Int)) > 100) = false) (h1 : decide ((((t).data.size : Int)) > 100) = false) : False := by
  first | (simp_all; done) | (simp only [decide_eq_true_eq, decide_eq_false_iff_not, beq_iff_eq, bne_iff_ne, ne_eq, beq_eq_false_iff_ne, bne_eq_false_iff_eq] at *; first | omega | (simp_all; done) | (simp_all; omega))
theorem longtf (k n : Int) (s : ByteArray) (l m : Int) (t fn fm qs qt : ByteArray) (hk : 0 ≤ k) (hl : 0 ≤ l) (hs : s.data.size ≤ 100) (ht : 100 < t.data.size) (w : World) (hL : Laid w) : Calls Tryd.prog 3 #[.agg #[.int .u8 k, .int .i64 n, .string s], .agg #[.int .u8 l, .int .i64 m, .string t], .bool false] w fun e w' => e = .returned (.bool true) ∧ Below w.heap.size w w' := by
  rcases Bool.eq_false_or_eq_true (decide ((((s).data.size : Int)) > 100)) with h0 | h0
  · exact (longtf_dead1 k n s l m t fn fm qs qt hk hl hs ht h0).elim
  · rcases Bool.eq_false_or_eq_true (decide ((((t).data.size : Int)) > 100)) with h1 | h1
    · exact longtf_1 k n s l m t fn fm qs qt hk hl hs ht h0 h1 w hL
    · exact (longtf_dead2 k n s l m t fn fm qs qt hk hl hs ht h0 h1).elim
theorem longst_1 (k n : Int) (s : ByteArray) (l m : Int) (t fn fm qs qt : ByteArray) (hk : 0 ≤ k) (hl : 0 ≤ l) (hs : 100 < s.data.size) (h0 : decide ((((s).data.size : Int)) > 100) = true) (w : World) (hL : Laid w) : Calls Tryd.prog 3 #[.agg #[.int .u8 k, .int .i64 n, .string s], .agg #[.int .u8 l, .int .i64 m, .string t], .bool true] w fun e w' => e = .returned (.bool true) ∧ Below w.heap.size w w' :=
  tab [.int .u8 k, .int .i64 n, .string s, .int .u8 l, .int .i64 m, .string t, .string fn, .string fm, .string qs, .string qt, .int .i64 ((s).data.size : Int)] [2, 2, 3, 2, 2, 3, 3, 3, 3, 3, 2] [(.len 9, [.complex .f64 3 0], .complex .f64 11 0), (.bin .gtr 3, [.complex .f64 11 0, .int .i64 100], .bool true)] [] [(5, [], .bool true)] 3 [.agg #[.complex .f64 1 0, .complex .f64 2 0, .complex .f64 3 0], .agg #[.complex .f64 4 0, .complex .f64 5 0, .complex .f64 6 0], .bool true] (.bool true) rfl rfl ⟨⟨rfl, pureF_len Tryd.underlying9⟩, ⟨rfl, congrArg (fun z => some (Value.bool z)) h0⟩, trivial⟩ trivial ⟨⟨rfl, fun w h => awake02 w h⟩, trivial⟩ (by kernel_rfl) rfl rfl w hL
theorem longst_dead1 (k n : Int) (s : ByteArray) (l m : Int) (t fn fm qs qt : ByteArray) (hk : 0 ≤ k) (hl : 0 ≤ l) (hs : 100 < s.data.size) (h0 : decide ((((s).data.size : Int)) > 100) = false) : False := by
  first | (simp_all; done) | (simp only [decide_eq_true_eq, decide_eq_false_iff_not, beq_iff_eq, bne_iff_ne, ne_eq, beq_eq_false_iff_ne, bne_eq_false_iff_eq] at *; first | omega | (simp_all; done) | (simp_all; omega))
theorem longst (k n : Int) (s : ByteArray) (l m : Int) (t fn fm qs qt : ByteArray) (hk : 0 ≤ k) (hl : 0 ≤ l) (hs : 100 < s.data.size) (w : World) (hL : Laid w) : Calls Tryd.prog 3 #[.agg #[.int .u8 k, .int .i64 n, .string s], .agg #[.int .u8 l, .int .i64 m, .string t], .bool true] w fun e w' => e = .returned (.bool true) ∧ Below w.heap.size w w' := by
  rcases Bool.eq_false_or_eq_true (decide ((((s).data.size : Int)) > 100)) with h0 | h0
  · exact longst_1 k n s l m t fn fm qs qt hk hl hs h0 w hL
  · exact (longst_dead1 k n s l m t fn fm qs qt hk hl hs h0).elim
theorem longtt_dead1 (k n : Int) (s : ByteArray) (l m : Int) (t fn fm qs qt : ByteArray) (hk : 0 ≤ k) (hl : 0 ≤ l) (hs : s.data.size ≤ 100) (ht : 100 < t.data.size) (h0 : decide ((((s).data.size : Int)) > 100) = true) : False := by
  first | (simp_all; done) | (simp only [decide_eq_true_eq, decide_eq_false_iff_not, beq_iff_eq, bne_iff_ne, ne_eq, beq_eq_false_iff_ne, bne_eq_false_iff_eq] at *; first | omega | (simp_all; done) | (simp_all; omega))
theorem longtt_1 (k n : Int) (s : ByteArray) (l m : Int) (t fn fm qs qt : ByteArray) (hk : 0 ≤ k) (hl : 0 ≤ l) (hs : s.data.size ≤ 100) (ht : 100 < t.data.size) (h0 : decide ((((s).data.size : Int)) > 100) = false) (h1 : decide ((((t).data.size : Int)) > 100) = true) (w : World) (hL : Laid w) : Calls Tryd.prog 3 #[.agg #[.int .u8 k, .int .i64 n, .string s], .agg #[.int .u8 l, .int .i64 m, .string t], .bool true] w fun e w' => e = .returned (.bool true) ∧ Below w.heap.size w w' :=
  tab [.int .u8 k, .int .i64 n, .string s, .int .u8 l, .int .i64 m, .string t, .string fn, .string fm, .string qs, .string qt, .int .i64 ((s).data.size : Int), .int .i64 ((t).data.size : Int)] [2, 2, 3, 2, 2, 3, 3, 3, 3, 3, 2, 2] [(.len 9, [.complex .f64 3 0], .complex .f64 11 0), (.bin .gtr 3, [.complex .f64 11 0, .int .i64 100], .bool false), (.len 9, [.complex .f64 6 0], .complex .f64 12 0), (.bin .gtr 3, [.complex .f64 12 0, .int .i64 100], .bool true)] [] [(5, [], .bool true)] 3 [.agg #[.complex .f64 1 0, .complex .f64 2 0, .complex .f64 3 0], .agg #[.complex .f64 4 0, .complex .f64 5 0, .complex .f64 6 0], .bool true] (.bool true) rfl rfl ⟨⟨rfl, pureF_len Tryd.underlying9⟩, ⟨rfl, congrArg (fun z => some (Value.bool z)) h0⟩, ⟨rfl, pureF_len Tryd.underlying9⟩, ⟨rfl, congrArg (fun z => some (Value.bool z)) h1⟩, trivial⟩ trivial ⟨⟨rfl, fun w h => awake02 w h⟩, trivial⟩ (by kernel_rfl) rfl rfl w hL
theorem longtt_dead2 (k n : Int) (s : ByteArray) (l m : Int) (t fn fm qs qt : ByteArray) (hk : 0 ≤ k) (hl : 0 ≤ l) (hs : s.data.size ≤ 100) (ht : 100 < t.data.size) (h0 : decide ((((s).data.size : Int)) > 100) = false) (h1 : decide ((((t).data.size : Int)) > 100) = false) : False := by
  first | (simp_all; done) | (simp only [decide_eq_true_eq, decide_eq_false_iff_not, beq_iff_eq, bne_iff_ne, ne_eq, beq_eq_false_iff_ne, bne_eq_false_iff_eq] at *; first | omega | (simp_all; done) | (simp_all; omega))
theorem longtt (k n : Int) (s : ByteArray) (l m : Int) (t fn fm qs qt : ByteArray) (hk : 0 ≤ k) (hl : 0 ≤ l) (hs : s.data.size ≤ 100) (ht : 100 < t.data.size) (w : World) (hL : Laid w) : Calls Tryd.prog 3 #[.agg #[.int .u8 k, .int .i64 n, .string s], .agg #[.int .u8 l, .int .i64 m, .string t], .bool true] w fun e w' => e = .returned (.bool true) ∧ Below w.heap.size w w' := by
  rcases Bool.eq_false_or_eq_true (decide ((((s).data.size : Int)) > 100)) with h0 | h0
  · exact (longtt_dead1 k n s l m t fn fm qs qt hk hl hs ht h0).elim
  · rcases Bool.eq_false_or_eq_true (decide ((((t).data.size : Int)) > 100)) with h1 | h1
    · exact longtt_1 k n s l m t fn fm qs qt hk hl hs ht h0 h1 w hL
    · exact (longtt_dead2 k n s l m t fn fm qs qt hk hl hs ht h0 h1).elim
end Go.Proofs.YtjhpigbilfbikaaDoor.sames
