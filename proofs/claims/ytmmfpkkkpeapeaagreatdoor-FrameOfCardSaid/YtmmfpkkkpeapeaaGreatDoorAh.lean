/- Get, where there is no such object. -/
import Derived.Test.YtmmfpkkkpeapeaaGreatDoorAg
set_option linter.unusedVariables false
set_option linter.unusedSimpArgs false
namespace Go.Proofs.YtmmfpkkkpeapeaaGreatDoor.ar
open Go.RowKit Go.Maps mem rec
attribute [local go_sem ↓] Go.wp_at_zero Go.wp_at_succ
set_option maxRecDepth 100000
set_option maxHeartbeats 1000000
theorem get_no (w : World) (p r : Nat) (v : Nat → Value) (A : Ar) (h : Parts w p v A) (hr : r < 18446744073709551616) (hf : A.find r = none) :
    Calls Tryz.prog 14 #[.pointer (some ⟨p, 0, none⟩), .int .u64 r] w fun e w' => e = .returned (.pointer none) ∧ Up w w' := by
  have S1 := Lib.hid (slot_x r hr)
  have S2 := Lib.hid (uses_x r hr)
  have hd0 : w.cell? ⟨p, 0, none⟩ = some (v 0) := h.hd.cell 0
  have hn2 : r % 4294967296 < 4294967296 := Nat.mod_lt _ (by decide)
  cases hs : A.slots[r % 4294967296]? with
  | none =>
    have hge : A.slots.length ≤ r % 4294967296 := List.getElem?_eq_none_iff.1 hs
    obtain ⟨a, cap, hv, _, _, _⟩ := shape (h.ow 0 (by omega))
    have hv' : v 0 = .slice a A.slots.length cap := hv
    rw [hv'] at hd0
    clear h hs hf hv hv'
    generalize r % 4294967296 = n at *
    generalize r / 4294967296 = q at *
    generalize A.slots.length = len at *
    have i3 : decide (len ≤ n) = true := by simpa using hge
    have i2 : (len : Int) ≤ (n : Int) := by omega
    go_enter Tryz.func14, Tryz.ntmps14
    go_wp2_with (go_at_call 37; refine (S1.out _).mono ?_; rintro e w' ⟨rfl, rfl⟩)
    go_quiet ((go_at_call 38; exact Calls.quiet_of_same (S2.out _)))
    go_wp2
    go_ret
    exact ⟨rfl, up_drewN (Up.refl _) _⟩
  | some s =>
    obtain ⟨g, cap, hv, hog, c0, c1, hob⟩ := h.obAt hs
    have hlt : r % 4294967296 < A.slots.length := (List.getElem?_eq_some_iff.1 hs).1
    rw [hv] at hd0
    have hno : ¬ (s.used = true ∧ s.uses = r / 4294967296) := by
      intro hh
      unfold Ar.find at hf
      rw [hs] at hf
      simp [hh] at hf
    clear h hs hog hob hf hv
    generalize r % 4294967296 = n at *
    generalize r / 4294967296 = q at *
    generalize A.slots.length = len at *
    obtain ⟨uses, used, o⟩ := s
    simp only at c0 c1 hno
    have i0 : (0 : Int) ≤ (n : Int) := by omega
    have i1 : (n : Int) < (len : Int) := by omega
    have i2 : ¬ (len : Int) ≤ (n : Int) := by omega
    have i3 : decide (len ≤ n) = false := by simpa using hlt
    cases used with
    | false =>
      clear hno
      go_enter Tryz.func14, Tryz.ntmps14
      go_wp2_with (go_at_call 37; refine (S1.out _).mono ?_; rintro e w' ⟨rfl, rfl⟩)
      go_quiet ((go_at_call 38; exact Calls.quiet_of_same (S2.out _)))
      go_wp2
      go_ret
      exact ⟨rfl, up_drewN (Up.refl _) _⟩
    | true =>
      have hne : ¬ uses = q := by simpa using hno
      have q0 : ((uses : Int) != (q : Int)) = true := by simp; omega
      clear hno hne
      go_enter Tryz.func14, Tryz.ntmps14
      go_wp2_with (go_at_call 37; refine (S1.out _).mono ?_; rintro e w' ⟨rfl, rfl⟩)
      go_quiet ((go_at_call 38; exact Calls.quiet_of_same (S2.out _)))
      go_wp2
      go_ret
      exact ⟨rfl, up_drewN (Up.refl _) _⟩
end Go.Proofs.YtmmfpkkkpeapeaaGreatDoor.ar
