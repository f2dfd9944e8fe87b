/- ValueSames: two values are equal just if their texts are, and their kinds. -/
import Derived.Test.YtjhpigbilfbikaaDoorAwake
import Derived.Test.YtjhpigbilfbikaaDoorSmc
import Derived.Lib.ItoaLen
import Derived.Test.YtjhpigbilfbikaaDoorQInj
set_option linter.unusedVariables false
set_option linter.unusedSimpArgs false
set_option maxRecDepth 100000
namespace Go.Proofs.YtjhpigbilfbikaaDoor.sames
open Go Go.RowKit Ev
theorem itoa_beq (a b : Int) : (((⟨(Lib.itoa a).toArray⟩ : ByteArray).data.toList) == ((⟨(Lib.itoa b).toArray⟩ : ByteArray).data.toList)) = (a == b) := by
  by_cases h : a = b
  · subst h; simp
  · rw [show (a == b) = false by simpa using h]
    simp only [beq_eq_false_iff_ne, ne_eq]
    intro e
    exact h (QInj.itoa_inj a b (by simpa using e))
theorem quote_beq (s t : ByteArray) : ((strOfNums (Lib.quoteZ Lib.goPrintTabs s)).data.toList == (strOfNums (Lib.quoteZ Lib.goPrintTabs t)).data.toList) = (s.data.toList == t.data.toList) := by
  by_cases h : s = t
  · subst h; simp
  · have h1 : s.data.toList ≠ t.data.toList := fun e => h (by cases s; cases t; simpa using e)
    rw [show (s.data.toList == t.data.toList) = false by simpa using h1]
    simp only [beq_eq_false_iff_ne, ne_eq]
    intro e
    exact h (QInj.quote_inj Lib.goPrintTabs s t (by
      apply ByteArray.ext
      simpa using e))
theorem law (k n : Int) (s : ByteArray) (l m : Int) (t : ByteArray) (same : Bool) (hk : 0 ≤ k) (hl : 0 ≤ l) (hn : -9223372036854775808 ≤ n ∧ n ≤ 9223372036854775807) (hm : -9223372036854775808 ≤ m ∧ m ≤ 9223372036854775807) (w : World) (hL : Laid w) :
    Calls Tryd.prog 3 #[.agg #[.int .u8 k, .int .i64 n, .string s], .agg #[.int .u8 l, .int .i64 m, .string t], .bool same] w fun e w' => e = .returned (.bool true) ∧ Below w.heap.size w w' := by
  cases same
  · by_cases hs : s.data.size ≤ 100
    · by_cases ht : t.data.size ≤ 100
      · exact shortf k n s l m t _ _ _ _ hk hl hs ht (itoa_beq n m) (quote_beq s t) (fmt n hn.1 hn.2) (fmt m hm.1 hm.2) (quo s (by omega)) (quo t (by omega)) w hL
      · exact longtf k n s l m t ⟨#[]⟩ ⟨#[]⟩ ⟨#[]⟩ ⟨#[]⟩ hk hl hs (by omega) w hL
    · exact longsf k n s l m t ⟨#[]⟩ ⟨#[]⟩ ⟨#[]⟩ ⟨#[]⟩ hk hl (by omega) w hL
  · by_cases hs : s.data.size ≤ 100
    · by_cases ht : t.data.size ≤ 100
      · exact shortt k n s l m t _ _ _ _ hk hl hs ht (itoa_beq n m) (quote_beq s t) (fmt n hn.1 hn.2) (fmt m hm.1 hm.2) (quo s (by omega)) (quo t (by omega)) w hL
      · exact longtt k n s l m t ⟨#[]⟩ ⟨#[]⟩ ⟨#[]⟩ ⟨#[]⟩ hk hl hs (by omega) w hL
    · exact longst k n s l m t ⟨#[]⟩ ⟨#[]⟩ ⟨#[]⟩ ⟨#[]⟩ hk hl (by omega) w hL
end Go.Proofs.YtjhpigbilfbikaaDoor.sames
