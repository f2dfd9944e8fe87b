import Derived.Test.YtjilhodlhmaknaaOne
open Go.Proofs.Ytjilhodlhmaknaa.One
namespace Go.Proofs.Ytjilhodlhmaknaa.Two
open Go.RowKit

def Up (w w' : World) : Prop := Below w.heap.size w w'
theorem Up.refl (w : World) : Up w w := Below.refl _ _
theorem Up.trans {a b c : World} (h : Up a b) (k : Up b c) : Up a c := Below.trans h (Below.mono k (Below.size h))
theorem Up.alloc {a b : World} (h : Up a b) (o : Obj) : Up a (b.alloc o) := Below.alloc h (Below.size h) o
def Has3 (w : World) (b : Nat) (c0 c1 c2 : Value) : Prop := b < w.heap.size ∧ w.cell? ⟨b, 0, none⟩ = some c0 ∧ w.cell? ⟨b, 1, none⟩ = some c1 ∧ w.cell? ⟨b, 2, none⟩ = some c2
theorem Has3.up {w w' : World} {b : Nat} {c0 c1 c2 : Value} (h : Has3 w b c0 c1 c2) (u : Up w w') : Has3 w' b c0 c1 c2 :=
  ⟨Nat.lt_of_lt_of_le h.1 u.size, (u.cell (p := ⟨b, 0, none⟩) h.1).trans h.2.1, (u.cell (p := ⟨b, 1, none⟩) h.1).trans h.2.2.1, (u.cell (p := ⟨b, 2, none⟩) h.1).trans h.2.2.2⟩
theorem has3_alloc (w : World) (c0 c1 c2 : Value) (t : Nat) : Has3 (w.alloc (.cells #[c0, c1, c2] t)) w.heap.size c0 c1 c2 :=
  ⟨by simp, by go_simp, by go_simp, by go_simp⟩

set_option maxHeartbeats 4000000 in
theorem makes (b : Bool) (n : Int) (s : ByteArray) (r : Int) (hr : (Lit.int .u64 r).wf = true) (w : World) : Calls Try.prog 5 #[.bool b, .int .i64 n, .string s, .int .u64 r] w fun e w' => e = .returned (.bool true) ∧ Up w w' := by
  have Hw := Lib.hid (wrap_back r hr)
  clear hr
  cases b
  all_goals
    go_enter Try.func5, Try.ntmps5
    go_wp2_with fail
    refine (awake _).mono ?_; rintro e w0 ⟨rfl, hb0⟩
    go_wp2_with fail
    refine (object _ _).mono ?_; rintro e w1 ⟨rfl, hb1⟩
    go_wp2_with fail
    have U1 := Lib.hid (((Up.trans hb0 hb1)).alloc (.cells #[.int .u8 5, .int .i64 (wrap64 r), .string ⟨#[]⟩] 29))
    have G1 := Lib.hid (has3_alloc w1 (.int .u8 5) (.int .i64 (wrap64 r)) (.string ⟨#[]⟩) 29)
    refine (truth _ _).mono ?_; rintro e w2 ⟨rfl, hb2⟩
    have U2 := Lib.hid (U1.out.trans hb2); have G2 := Lib.hid (G1.out.up hb2); clear U1 G1 hb2 hb0 hb1
    go_wp2_with fail
    refine (number _ _).mono ?_; rintro e w3 ⟨rfl, hb3⟩
    have U3 := Lib.hid (U2.out.trans hb3); have G3 := Lib.hid (G2.out.up hb3); clear U2 G2 hb3
    go_wp2_with fail
    refine (words _ _).mono ?_; rintro e w4 ⟨rfl, hb4⟩
    have U4 := Lib.hid (U3.out.trans hb4); have G4 := Lib.hid (G3.out.up hb4); clear U3 G3 hb4
    go_wp2_with fail
    refine (word _ _).mono ?_; rintro e w5 ⟨rfl, hb5⟩
    have U5 := Lib.hid (U4.out.trans hb5); have G5 := Lib.hid (G4.out.up hb5); clear U4 G4 hb5
    obtain ⟨_, c0, c1, c2⟩ := G5.out
    clear G5
    go_wp2_with fail
    clear c0 c1 c2
    refine (ref_obj _ _ _).mono ?_; rintro e w6 ⟨rfl, hb6⟩
    rw [Hw.out]
    have U6 := Lib.hid (U5.out.trans hb6); clear U5 hb6
    go_wp2_with fail
    refine (number _ _).mono ?_; rintro e w7 ⟨rfl, hb7⟩
    go_wp2_with fail
    refine (ref_num _ _ _).mono ?_; rintro e w8 ⟨rfl, hb8⟩
    go_wp2_with fail
    refine (words _ _).mono ?_; rintro e w9 ⟨rfl, hb9⟩
    go_wp2_with fail
    refine (ref_text _ _ _).mono ?_; rintro e w10 ⟨rfl, hb10⟩
    go_wp2_with fail
    go_ret
    exact ⟨rfl, (((U6.out.trans hb7).trans hb8).trans hb9).trans hb10⟩
end Go.Proofs.Ytjilhodlhmaknaa.Two
