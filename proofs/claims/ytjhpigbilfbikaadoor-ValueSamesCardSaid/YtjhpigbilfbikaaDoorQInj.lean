import Derived.Lib.QuoteLoop
import Derived.Lib.MapLaws
import Derived.Lib.ItoaNum
import Derived.Laws.BytesArg
/- strconv.Quote and FormatInt(.., 10) are one-to-one. Plain Lean. -/
set_option linter.unusedSimpArgs false
set_option linter.unusedVariables false
namespace Go.Proofs.YtjhpigbilfbikaaDoor.QInj
open Go Go.Lib
def hexVal (x : Int) : Int := if x < 58 then x - 48 else x - 87
theorem hexVal_digit (x : Nat) (h : x < 16) : hexVal (hexDigit x) = x := by
  unfold hexVal hexDigit
  split <;> split <;> omega
def hexVals : Nat → List Int → Int → Int
  | 0, _, a => a
  | n + 1, l, a => hexVals n l.tail (a * 16 + hexVal (l.headD 0))
/-- the code of the first round, and how many bytes it has -/
def parse (l : List Int) : Int :=
  let a := l.getD 0 0
  let b := l.getD 1 0
  if a = 92 then
    (if b = 120 then (let v := hexVals 2 (l.drop 2) 0; if v < 128 then v else - v)
     else if b = 117 then hexVals 4 (l.drop 2) 0
     else if b = 85 then hexVals 8 (l.drop 2) 0
     else if b = 97 then 7 else if b = 98 then 8 else if b = 102 then 12 else if b = 110 then 10 else if b = 114 then 13 else if b = 116 then 9 else if b = 118 then 11 else b)
  else if a < 128 then a
  else if a < 224 then (a - 192) * 64 + (b - 128)
  else if a < 240 then ((a - 224) * 64 + (b - 128)) * 64 + (l.getD 2 0 - 128)
  else (((a - 240) * 64 + (b - 128)) * 64 + (l.getD 2 0 - 128)) * 64 + (l.getD 3 0 - 128)
def word (T : PrintTabs) (c : Int) : List Int :=
  if c < 0 then [92, 120, hexDigit ((-c).toNat / 16), hexDigit ((-c).toNat % 16)] else escRune T c
def okCode (c : Int) : Prop := (-256 < c ∧ c ≤ -128) ∨ (0 ≤ c ∧ c < 55296) ∨ (57343 < c ∧ c ≤ 1114111)

theorem hexVals_digits : ∀ (n r : Nat) (a : Int) (X : List Int), r < 16 ^ n → hexVals n (hexDigits r n ++ X) a = a * 16 ^ n + r
  | 0, r, a, X, h => by simp [hexVals] at h ⊢; omega
  | n + 1, r, a, X, h => by
    have hd : r / 16 ^ n < 16 := by rw [Nat.div_lt_iff_lt_mul (Nat.pos_of_ne_zero (by simp))]; rw [Nat.pow_succ, Nat.mul_comm] at h; exact h
    have hm : r / 16 ^ n % 16 = r / 16 ^ n := Nat.mod_eq_of_lt hd
    have key : ∀ (m : Nat) (Y : List Int) (b : Int), hexVals n (hexDigits r n ++ Y) b = hexVals n (hexDigits (r % 16 ^ n) n ++ Y) b := by
      intro m Y b
      have : ∀ k, k ≤ n → hexDigits r k = hexDigits (r % 16 ^ n) k := by
        intro k
        induction k with
        | zero => intro _; rfl
        | succ k ih =>
          intro hk
          simp only [hexDigits]
          rw [ih (by omega)]
          congr 2
          have e : 16 ^ n = 16 ^ k * (16 * 16 ^ (n - k - 1)) := by rw [← Nat.mul_assoc, ← Nat.pow_succ, ← Nat.pow_add]; congr 1; omega
          rw [e, Nat.mod_mul_right_div_self, Nat.mod_mul_right_mod]
      rw [this n (Nat.le_refl n)]
    simp only [hexDigits, List.cons_append, hexVals, List.headD_cons, List.tail_cons]
    rw [key n, hexVals_digits n (r % 16 ^ n) _ X (Nat.mod_lt _ (Nat.pos_of_ne_zero (by simp))), hm, hexVal_digit _ hd]
    have e := Nat.div_add_mod r (16 ^ n)
    have e' : (r : Int) = (16 ^ n : Int) * ((r / 16 ^ n : Nat) : Int) + ((r % 16 ^ n : Nat) : Int) := by
      have : ((16 ^ n * (r / 16 ^ n) + r % 16 ^ n : Nat) : Int) = (r : Int) := by rw [e]
      rw [← this]; simp
    rw [Int.pow_succ, Int.add_mul, Int.mul_assoc, Int.mul_comm 16 (16 ^ n : Int)]
    rw [Int.mul_comm ((r / 16 ^ n : Nat) : Int)]
    omega
theorem hex2 (v : Nat) (X : List Int) (h : v < 256) : hexVals 2 (hexDigit (v / 16) :: hexDigit (v % 16) :: X) 0 = v := by
  simp only [hexVals, List.headD_cons, List.tail_cons]
  rw [hexVal_digit _ (by omega), hexVal_digit _ (by omega)]; omega

theorem parse_word (T : PrintTabs) (c : Int) (X : List Int) (h : okCode c) : parse (word T c ++ X) = c := by
  unfold okCode at h
  unfold word
  by_cases hn : c < 0
  · rw [if_pos hn]
    have h2 := hex2 (-c).toNat X (by omega)
    simp only [parse, List.cons_append, List.nil_append, List.getD_cons_zero, List.getD_cons_succ, if_true, List.drop_succ_cons, List.drop_zero]
    rw [h2, if_neg (by omega)]; omega
  rw [if_neg hn]
  unfold escRune
  by_cases c0 : c = 34 ∨ c = 92
  · rw [if_pos c0]
    rcases c0 with rfl | rfl <;> simp [parse]
  rw [if_neg c0]
  by_cases c1 : isPrintR T c = true
  · rw [if_pos c1]
    unfold encodeRuneZ
    have n92 : c ≠ 92 := fun e => c0 (Or.inr e)
    by_cases d1 : 0 ≤ c ∧ c ≤ 127
    · rw [if_pos d1]; simp only [parse, List.cons_append, List.nil_append, List.getD_cons_zero]; rw [if_neg n92, if_pos (by omega)]
    rw [if_neg d1]
    by_cases d2 : 128 ≤ c ∧ c ≤ 2047
    · rw [if_pos d2]; simp only [parse, List.cons_append, List.nil_append, List.getD_cons_zero, List.getD_cons_succ]
      rw [if_neg (by omega), if_neg (by omega), if_pos (by omega)]; omega
    rw [if_neg d2]
    by_cases d3 : (2048 ≤ c ∧ c < 55296) ∨ (57343 < c ∧ c ≤ 65535)
    · rw [if_pos d3]; simp only [parse, List.cons_append, List.nil_append, List.getD_cons_zero, List.getD_cons_succ]
      rw [if_neg (by omega), if_neg (by omega), if_neg (by omega), if_pos (by omega)]; omega
    rw [if_neg d3, if_pos (by omega)]
    simp only [parse, List.cons_append, List.nil_append, List.getD_cons_zero, List.getD_cons_succ]
    rw [if_neg (by omega), if_neg (by omega), if_neg (by omega), if_neg (by omega)]; omega
  rw [if_neg c1]
  by_cases e7 : c = 7
  · rw [if_pos e7]; subst e7; simp [parse]
  rw [if_neg e7]
  by_cases e8 : c = 8
  · rw [if_pos e8]; subst e8; simp [parse]
  rw [if_neg e8]
  by_cases e12 : c = 12
  · rw [if_pos e12]; subst e12; simp [parse]
  rw [if_neg e12]
  by_cases e10 : c = 10
  · rw [if_pos e10]; subst e10; simp [parse]
  rw [if_neg e10]
  by_cases e13 : c = 13
  · rw [if_pos e13]; subst e13; simp [parse]
  rw [if_neg e13]
  by_cases e9 : c = 9
  · rw [if_pos e9]; subst e9; simp [parse]
  rw [if_neg e9]
  by_cases e11 : c = 11
  · rw [if_pos e11]; subst e11; simp [parse]
  rw [if_neg e11]
  by_cases x2 : c < 32 ∨ c = 127
  · rw [if_pos x2]
    have h2 := hex2 c.toNat X (by omega)
    simp only [parse, List.cons_append, List.nil_append, List.getD_cons_zero, List.getD_cons_succ, if_true, List.drop_succ_cons, List.drop_zero]
    rw [h2, if_pos (by omega)]; omega
  rw [if_neg x2]
  have hv : validRune c = true := by simp only [validRune, decide_eq_true_eq]; omega
  rw [if_neg (by rw [hv]; simp)]
  by_cases x4 : c < 65536
  · rw [if_pos x4]
    have h4 := hexVals_digits 4 c.toNat 0 X (by omega)
    simp only [parse, List.cons_append, List.getD_cons_zero, List.getD_cons_succ, if_true, List.drop_succ_cons, List.drop_zero]
    rw [if_neg (by decide)]
    rw [h4]; omega
  · rw [if_neg x4]
    have h4 := hexVals_digits 8 c.toNat 0 X (by omega)
    simp only [parse, List.cons_append, List.getD_cons_zero, List.getD_cons_succ, if_true, List.drop_succ_cons, List.drop_zero]
    rw [if_neg (by decide), if_neg (by decide)]
    rw [h4]; omega

/-- the first round's code -/
def code (l : List UInt8) : Int := if (decodeL l).2 = 1 ∧ (decodeL l).1 = 65533 then - ((l.getD 0 0).toNat : Int) else ((decodeL l).1 : Int)
theorem step_word (T : PrintTabs) (l : List UInt8) (hne : l ≠ []) : quoteStep T ⟨l.toArray⟩ = word T (code l) ∧ okCode (code l) ∧ 1 ≤ (decodeL l).2 ∧ (decodeL l).2 ≤ l.length := by
  have hl : 0 < l.length := List.length_pos_iff.2 hne
  have hw : (decodeL l).2 ≤ l.length := by have := width_le ⟨l.toArray⟩ (by simpa [ByteArray.size] using hl); simpa [decodeL, ByteArray.size] using this
  have hg : (ByteArray.get! ⟨l.toArray⟩ 0) = l.getD 0 0 := by
    cases l with
    | nil => exact absurd rfl hne
    | cons a l => rfl
  have k0 := (l.getD 0 0).toNat_lt
  have shape := decodeN_shape l.length (l.getD 0 0).toNat (l.getD 1 0).toNat (l.getD 2 0).toNat (l.getD 3 0).toNat
  rw [← decodeL_N] at shape
  have h1 : 1 ≤ (decodeL l).2 := by
    rcases shape with ⟨c, e⟩ | ⟨c1, c2, c3, cv, e⟩ | ⟨c1, c2, c3, c4, cv, cs, e⟩ | ⟨c1, c2, c3, c4, c5, cv, cw, e⟩ | e <;> rw [e] <;> simp
  refine ⟨?_, ?_, h1, hw⟩
  · unfold quoteStep code
    rw [show Utf8.decode ⟨l.toArray⟩ 0 = decodeL l from rfl]
    by_cases hb : (decodeL l).2 = 1 ∧ (decodeL l).1 = 65533
    · rw [if_pos hb, if_pos hb, hg]
      have : 128 ≤ (l.getD 0 0).toNat := by
        apply Classical.byContradiction
        intro hlt
        rw [decodeL_N] at hb
        unfold decodeN at hb
        rw [if_pos (by omega)] at hb
        have := hb.2
        simp only at this
        omega
      unfold word
      rw [if_pos (by omega)]
      simp
    · rw [if_neg hb, if_neg hb]
      unfold word
      rw [if_neg (by omega)]
  · unfold code okCode
    by_cases hb : (decodeL l).2 = 1 ∧ (decodeL l).1 = 65533
    · rw [if_pos hb]
      have : 128 ≤ (l.getD 0 0).toNat := by
        apply Classical.byContradiction
        intro hlt
        rw [decodeL_N] at hb
        unfold decodeN at hb
        rw [if_pos (by omega)] at hb
        have := hb.2
        simp only at this
        omega
      omega
    · rw [if_neg hb]
      have hv := rune_valid ⟨l.toArray⟩
      rw [show Utf8.decode ⟨l.toArray⟩ 0 = decodeL l from rfl] at hv
      simp only [validRune, decide_eq_true_eq] at hv
      omega
theorem bad_neg (l : List UInt8) (hb : (decodeL l).2 = 1 ∧ (decodeL l).1 = 65533) : 128 ≤ (l.getD 0 0).toNat := by
  apply Classical.byContradiction
  intro hlt
  rw [decodeL_N] at hb
  unfold decodeN at hb
  rw [if_pos (by omega)] at hb
  have := hb.2
  simp only at this
  omega
/-- the code tells the first round's bytes -/
theorem code_take (l m : List UInt8) (hl : l ≠ []) (hm : m ≠ []) (h : code l = code m) : l.take (decodeL l).2 = m.take (decodeL m).2 := by
  have ol := (step_word ⟨[], [], [], []⟩ l hl).2.1
  unfold code at h
  by_cases bl : (decodeL l).2 = 1 ∧ (decodeL l).1 = 65533 <;> by_cases bm : (decodeL m).2 = 1 ∧ (decodeL m).1 = 65533
  · rw [if_pos bl, if_pos bm] at h
    rw [bl.1, bm.1, takeA l (List.length_pos_iff.2 hl), takeA m (List.length_pos_iff.2 hm)]
    have : (l.getD 0 0).toNat = (m.getD 0 0).toNat := by omega
    rw [UInt8.toNat_inj.1 this]
  · have := bad_neg l bl
    rw [if_pos bl, if_neg bm] at h
    omega
  · have := bad_neg m bm
    rw [if_neg bl, if_pos bm] at h
    omega
  · rw [if_neg bl, if_neg bm] at h
    rw [← encode_decode l hl (fun e => bl ⟨e.2, e.1⟩), ← encode_decode m hm (fun e => bm ⟨e.2, e.1⟩), h]

theorem extract_drop (l : List UInt8) (k : Nat) : (ByteArray.mk l.toArray).extract k (ByteArray.mk l.toArray).size = ⟨(l.drop k).toArray⟩ := by
  apply ByteArray.ext
  simp [ByteArray.size, ByteArray.data_extract]
  exact List.take_of_length_le (by simp)
theorem word_head (T : PrintTabs) (c : Int) (h : okCode c) : ∃ a X, word T c = a :: X ∧ a ≠ 34 := by
  have hp := parse_word T c [] h
  rw [List.append_nil] at hp
  cases hw : word T c with
  | nil =>
    rw [hw] at hp
    simp [parse] at hp
    subst hp
    revert hw
    unfold word escRune
    simp [show isPrintR T 0 = false from rfl]
  | cons a X =>
    refine ⟨a, X, rfl, ?_⟩
    rintro rfl
    rw [hw] at hp
    simp [parse] at hp
    subst hp
    revert hw
    simp [word, escRune]
theorem from_inj (T : PrintTabs) : ∀ (n : Nat) (f g : Nat) (l m : List UInt8), l.length ≤ n → l.length ≤ f → m.length ≤ g → quoteFrom T f ⟨l.toArray⟩ ++ [34] = quoteFrom T g ⟨m.toArray⟩ ++ [34] → l = m := by
  intro n
  induction n with
  | zero =>
    intro f g l m hn hf hg h
    have : l = [] := List.length_eq_zero_iff.1 (by omega)
    subst this
    rw [quoteFrom_end T f _ (by simp [ByteArray.size])] at h
    by_cases hm : m = []
    · exact hm.symm
    exfalso
    obtain ⟨hs, ho, h1, hw⟩ := step_word T m hm
    rw [quoteFrom_step T g ⟨m.toArray⟩ (by simpa [ByteArray.size] using List.length_pos_iff.2 hm) (by simpa [ByteArray.size] using hg), hs] at h
    obtain ⟨a, X, ha, hne⟩ := word_head T (code m) ho
    rw [ha] at h
    simp at h
  | succ n ih =>
    intro f g l m hn hf hg h
    by_cases hl : l = []
    · subst hl; exact ih f g [] m (by simp) (by simp) hg h
    obtain ⟨sl, ol, l1, lw⟩ := step_word T l hl
    have hlp := List.length_pos_iff.2 hl
    rw [quoteFrom_step T f ⟨l.toArray⟩ (by simpa [ByteArray.size] using hlp) (by simpa [ByteArray.size] using hf), sl, extract_drop] at h
    by_cases hm : m = []
    · exfalso
      subst hm
      rw [quoteFrom_end T g _ (by simp [ByteArray.size])] at h
      obtain ⟨a, X, ha, hne⟩ := word_head T (code l) ol
      rw [ha] at h
      simp at h
    obtain ⟨sm, om, m1, mw⟩ := step_word T m hm
    have hmp := List.length_pos_iff.2 hm
    rw [quoteFrom_step T g ⟨m.toArray⟩ (by simpa [ByteArray.size] using hmp) (by simpa [ByteArray.size] using hg), sm, extract_drop] at h
    rw [List.append_assoc, List.append_assoc] at h
    have hc : code l = code m := by
      have e := congrArg parse h
      rwa [parse_word T _ _ ol, parse_word T _ _ om] at e
    rw [hc] at h
    have h' := List.append_cancel_left h
    have ht := code_take l m hl hm hc
    have hd := ih (f - 1) (g - 1) _ _ (by rw [List.length_drop]; change l.length - (decodeL l).2 ≤ n; omega) (by rw [List.length_drop]; change l.length - (decodeL l).2 ≤ f - 1; omega) (by rw [List.length_drop]; change m.length - (decodeL m).2 ≤ g - 1; omega) h'
    change l.drop (decodeL l).2 = m.drop (decodeL m).2 at hd
    rw [← List.take_append_drop (decodeL l).2 l, ← List.take_append_drop (decodeL m).2 m, ht, hd]

theorem hexDigit_byte (x : Nat) (h : x < 16) : 0 ≤ hexDigit x ∧ hexDigit x < 256 := by unfold hexDigit; split <;> omega
theorem hexDigits_byte (r : Nat) : ∀ n, ∀ x ∈ hexDigits r n, 0 ≤ x ∧ x < 256
  | 0, x, h => by simp [hexDigits] at h
  | n + 1, x, h => by
    simp only [hexDigits, List.mem_cons] at h
    rcases h with rfl | h
    · exact hexDigit_byte _ (Nat.mod_lt _ (by decide))
    · exact hexDigits_byte r n x h
def Bytes (l : List Int) : Prop := ∀ x ∈ l, 0 ≤ x ∧ x < 256
theorem bytes_ite (c : Prop) [Decidable c] (a b : List Int) (ha : c → Bytes a) (hb : ¬ c → Bytes b) : Bytes (if c then a else b) := by
  split
  · exact ha ‹_›
  · exact hb ‹_›
theorem word_byte (T : PrintTabs) (c : Int) (h : okCode c) : ∀ x ∈ word T c, 0 ≤ x ∧ x < 256 := by
  unfold okCode at h
  unfold word
  split
  · intro x hx
    simp only [List.mem_cons, List.not_mem_nil, or_false] at hx
    rcases hx with rfl | rfl | rfl | rfl
    · omega
    · omega
    · exact hexDigit_byte _ (by omega)
    · exact hexDigit_byte _ (by omega)
  show Bytes (escRune T c)
  unfold escRune encodeRuneZ
  repeat' (refine bytes_ite _ _ _ (fun _ => ?_) (fun _ => ?_))
  all_goals (intro x hx; try simp only [List.mem_cons, List.not_mem_nil, or_false] at hx)
  all_goals first
    | (rcases hx with rfl | rfl | rfl | rfl <;> first | omega | exact hexDigit_byte _ (by omega))
    | (rcases hx with rfl | rfl | rfl <;> omega)
    | (rcases hx with rfl | rfl | hx <;> first | omega | exact hexDigits_byte _ _ _ hx)
    | (rcases hx with rfl | rfl <;> omega)
    | (subst hx; omega)
theorem from_byte (T : PrintTabs) : ∀ (f : Nat) (l : List UInt8), ∀ x ∈ quoteFrom T f ⟨l.toArray⟩, 0 ≤ x ∧ x < 256
  | 0, l, x, h => by simp [quoteFrom] at h
  | f + 1, l, x, h => by
    by_cases hl : l = []
    · subst hl; rw [quoteFrom_end T _ _ (by simp [ByteArray.size])] at h; simp at h
    obtain ⟨sl, ol, l1, lw⟩ := step_word T l hl
    have hlp := List.length_pos_iff.2 hl
    unfold quoteFrom at h
    rw [if_pos (by simpa [ByteArray.size] using hlp), sl, extract_drop, List.mem_append] at h
    rcases h with h | h
    · exact word_byte T _ ol x h
    · exact from_byte T f _ x h
theorem nums_inj : ∀ (l m : List Int), (∀ x ∈ l, 0 ≤ x ∧ x < 256) → (∀ x ∈ m, 0 ≤ x ∧ x < 256) → l.map (fun n => UInt8.ofNat n.toNat) = m.map (fun n => UInt8.ofNat n.toNat) → l = m
  | [], [], _, _, _ => rfl
  | [], _ :: _, _, _, h => by simp at h
  | _ :: _, [], _, _, h => by simp at h
  | a :: l, b :: m, hl, hm, h => by
    simp only [List.map_cons, List.cons.injEq] at h
    have ha := hl a (List.mem_cons_self ..)
    have hb := hm b (List.mem_cons_self ..)
    have e := congrArg UInt8.toNat h.1
    simp at e
    rw [Nat.mod_eq_of_lt (by omega), Nat.mod_eq_of_lt (by omega)] at e
    rw [nums_inj l m (fun x hx => hl x (List.mem_cons_of_mem _ hx)) (fun x hx => hm x (List.mem_cons_of_mem _ hx)) h.2, show a = b by omega]
/-- strconv.Quote is one-to-one. -/
theorem quote_inj (T : PrintTabs) (s t : ByteArray) (h : strOfNums (quoteZ T s) = strOfNums (quoteZ T t)) : s = t := by
  obtain ⟨⟨l⟩⟩ := s
  obtain ⟨⟨m⟩⟩ := t
  have hs : ∀ l : List UInt8, ∀ x ∈ quoteZ T ⟨⟨l⟩⟩, 0 ≤ x ∧ x < 256 := by
    intro l x hx
    simp only [quoteZ, List.mem_cons, List.mem_append, List.not_mem_nil, or_false] at hx
    rcases hx with rfl | hx | rfl
    · omega
    · exact from_byte T _ _ x hx
    · omega
  have h' := congrArg (fun b : ByteArray => b.data.toList) h
  simp only [strOfNums_data] at h'
  have e := nums_inj _ _ (hs l) (hs m) h'
  simp only [quoteZ, List.cons.injEq, true_and] at e
  have := from_inj T l.length _ _ l m (Nat.le_refl _) (by simp [ByteArray.size]) (by simp [ByteArray.size]) e
  rw [this]

/-- A number out of its numeral. -/
def numOf : List UInt8 → Nat := fun l => l.foldl (fun a b => a * 10 + (b.toNat - 48)) 0
theorem numOf_dec : ∀ (n u : Nat), u ≤ n → numOf (decDigits u) = u
  | n, u, h => by
    by_cases h10 : u < 10
    · rw [decDigits_one h10]; simp [numOf]; omega
    · rw [decDigits, dif_neg h10]
      have hn : 1 ≤ n := by omega
      unfold numOf
      rw [List.foldl_append]
      have ih := numOf_dec (n - 1) (u / 10) (by omega)
      unfold numOf at ih
      rw [ih]
      simp
      omega
  termination_by n => n
theorem dec_inj (u v : Nat) (h : decDigits u = decDigits v) : u = v := by
  rw [← numOf_dec u u (Nat.le_refl _), ← numOf_dec v v (Nat.le_refl _), h]
theorem dec_head (u : Nat) : ∃ a X, decDigits u = a :: X ∧ a ≠ 45 := by
  rw [decDigits_eq]
  obtain ⟨k, hk⟩ : ∃ k, nDigits u = k + 1 := ⟨nDigits u - 1, by have := nDigits_pos u; omega⟩
  rw [hk, List.range_succ_eq_map, List.map_cons]
  refine ⟨_, _, rfl, ?_⟩
  unfold dg
  intro e
  have := congrArg UInt8.toNat e
  simp at this
  omega
/-- FormatInt(.., 10) is one-to-one. -/
theorem itoa_inj (a b : Int) (h : itoa a = itoa b) : a = b := by
  unfold itoa at h
  obtain ⟨x, X, hx, nx⟩ := dec_head a.toNat
  obtain ⟨y, Y, hy, ny⟩ := dec_head b.toNat
  split at h <;> split at h
  · have := dec_inj _ _ (List.cons.inj h).2; omega
  · rw [hy] at h; exact absurd (List.cons.inj h).1.symm ny
  · rw [hx] at h; exact absurd (List.cons.inj h).1 nx
  · have := dec_inj _ _ h; omega
end Go.Proofs.YtjhpigbilfbikaaDoor.QInj
#print axioms Go.Proofs.YtjhpigbilfbikaaDoor.QInj.quote_inj
#print axioms Go.Proofs.YtjhpigbilfbikaaDoor.QInj.itoa_inj
