/- palinglaw14.parts: a brand's sealer, and its unsealer. -/
import Derived.Test.YtojbphnkabfkpaaGreatDoorBd
set_option linter.unusedVariables false
set_option linter.unusedSimpArgs false
namespace Go.Proofs.YtojbphnkabfkpaaGreatDoor.ar
open Go.RowKit Go.Maps mem rec
attribute [local go_sem ↓] Go.wp_at_zero Go.wp_at_succ
set_option maxRecDepth 100000
set_option maxHeartbeats 2000000
theorem parts_x (w : World) (p r S U n bm m : Nat) (v : Nat → Value) (A : Ar) (D : DataW V3) (oS oU : Ob) (h : Parts w p v A) (hr : r < 18446744073709551616) (hf : A.find r = some (recOb n bm)) (hown : w.ownsMap Tryz.prog 31 R3 bm m D)
    (hS : ∀ l, keyOf Tryz.prog 31 (val (3, 0, sealB)) = some l → atv D l = (5, (S : Int), ⟨#[]⟩)) (hU : ∀ l, keyOf Tryz.prog 31 (val (3, 0, unsealB)) = some l → atv D l = (5, (U : Int), ⟨#[]⟩))
    (lS : S < 9223372036854775808) (lU : U < 9223372036854775808) (fS : A.find S = some oS) (fU : A.find U = some oU) :
    Calls Tryz.prog 26 #[.pointer (some ⟨p, 0, none⟩), .int .u64 r] w fun e w' => e = .returned (.tuple #[.int .u64 S, .int .u64 U, .bool true]) ∧ Up w w' := by
  obtain ⟨s, hs, -⟩ := find_slot hf
  obtain ⟨g, cap, -, hog, -⟩ := h.obAt hs
  have OB := obAt_find hog h hf
  have c0 := OB 0 _ rfl
  have c3 := OB 3 _ rfl
  have GA : Hid (∀ wx, Up w wx → ∀ x : Nat, (x = r ∨ x = S ∨ x = U) → Calls Tryz.prog 27 #[.pointer (some ⟨p, 0, none⟩), .int .u64 x] wx fun e w' => e = .returned (.pointer (some ⟨g, (x % 4294967296) * 16 + 2, none⟩)) ∧ Up wx w') := by
    intro wx hx x hxx
    rcases hxx with rfl | rfl | rfl
    · refine (get_at wx p _ v A _ g hog (h.up hx) hr hf).mono ?_
      rintro e w' ⟨rfl, hU'⟩; exact ⟨rfl, hU'⟩
    · refine (get_at wx p _ v A _ g hog (h.up hx) (by omega) fS).mono ?_
      rintro e w' ⟨rfl, hU'⟩; exact ⟨rfl, hU'⟩
    · refine (get_at wx p _ v A _ g hog (h.up hx) (by omega) fU).mono ?_
      rintro e w' ⟨rfl, hU'⟩; exact ⟨rfl, hU'⟩
  obtain ⟨l1, hl1⟩ := key_of 3 0 sealB (by decide) (by decide) (by decide)
  obtain ⟨l2, hl2⟩ := key_of 3 0 unsealB (by decide) (by decide) (by decide)
  have G1 : Hid (∀ wx, Up w wx → Calls Tryz.prog 16 #[.pointer (some ⟨g, (r % 4294967296) * 16 + 2, none⟩), val (3, 0, sealB)] wx fun e w' => e = .returned (.tuple #[val (5, (S : Int), ⟨#[]⟩), .int .i64 0]) ∧ Up wx w') := by
    intro wx hx
    refine (get_key g _ bm m D (3, 0, sealB) l1 wx (up_cell hx c0) (up_cell hx c3) (owns_up hown hx) rfl hl1).mono ?_
    rintro e w' ⟨rfl, hU'⟩; exact ⟨by rw [hS l1 hl1], hU'⟩
  have G2 : Hid (∀ wx, Up w wx → Calls Tryz.prog 16 #[.pointer (some ⟨g, (r % 4294967296) * 16 + 2, none⟩), val (3, 0, unsealB)] wx fun e w' => e = .returned (.tuple #[val (5, (U : Int), ⟨#[]⟩), .int .i64 0]) ∧ Up wx w') := by
    intro wx hx
    refine (get_key g _ bm m D (3, 0, unsealB) l2 wx (up_cell hx c0) (up_cell hx c3) (owns_up hown hx) rfl hl2).mono ?_
    rintro e w' ⟨rfl, hU'⟩; exact ⟨by rw [hU l2 hl2], hU'⟩
  have W1 := Lib.hid (words_x sealB)
  have W2 := Lib.hid (words_x unsealB)
  have F1 := Lib.hid (ref_x S lS ⟨#[]⟩)
  have F2 := Lib.hid (ref_x U lU ⟨#[]⟩)
  simp only [val, sealB, unsealB] at G1 G2 W1 W2
  clear OB c0 c3 hog hs hown hS hU hf fS fU hl1 hl2 h
  go_enter Tryz.func26, Tryz.ntmps26
  go_upto_region 3 with (first
    | (go_at_call 27; refine (GA.out _ (Up.refl _) _ (.inl rfl)).mono ?_; rintro e w1 ⟨rfl, hU1⟩)
    | (go_at_call 53; refine (W1.out _).mono ?_; rintro e w2 ⟨rfl, rfl⟩)
    | (go_at_call 16; refine (G1.out _ (hU1.alloc _)).mono ?_; rintro e w3 ⟨rfl, hU3⟩))
  have hU3' : Up w w3 := (hU1.alloc _).trans hU3
  have B3 := Lib.hid (has3_alloc w3 (.int .u8 5) (.int .i64 S) (.string ⟨#[]⟩) 31)
  have hz3 := hU3'.size
  go_upto_region 4 with (first
    | (go_at_call 53; refine (W2.out _).mono ?_; rintro e w2 ⟨rfl, rfl⟩)
    | (go_at_call 16; refine (G2.out _ ((hU3'.alloc _).alloc _)).mono ?_; rintro e w5 ⟨rfl, hU5⟩))
  have U5 : Up (w3.alloc (.cells #[.int .u8 5, .int .i64 S, .string ⟨#[]⟩] 31)) w5 := ((Up.refl _).alloc _).trans hU5
  have B5 := Lib.hid (B3.out.up (U5.alloc (.cells #[.int .u8 5, .int .i64 U, .string ⟨#[]⟩] 31)))
  have C5 := Lib.hid (has3_alloc w5 (.int .u8 5) (.int .i64 U) (.string ⟨#[]⟩) 31)
  have V5 := Lib.hid ((hU3'.alloc _).trans (U5.alloc (.cells #[.int .u8 5, .int .i64 U, .string ⟨#[]⟩] 31)))
  clear G1 G2 W1 W2 hU1 hU3 hU5 U5 hU3'
  have KP : Hid (∀ w', Up (w5.alloc (.cells #[.int .u8 5, .int .i64 U, .string ⟨#[]⟩] 31)) w' → (Up (w5.alloc (.cells #[.int .u8 5, .int .i64 U, .string ⟨#[]⟩] 31)) w' ∧ w'.cell? ⟨w3.heap.size, 0, none⟩ = some (.int .u8 5) ∧ w'.cell? ⟨w3.heap.size, 1, none⟩ = some (.int .i64 S) ∧ w'.cell? ⟨w3.heap.size, 2, none⟩ = some (.string ⟨#[]⟩) ∧ w'.cell? ⟨w5.heap.size, 0, none⟩ = some (.int .u8 5) ∧ w'.cell? ⟨w5.heap.size, 1, none⟩ = some (.int .i64 U) ∧ w'.cell? ⟨w5.heap.size, 2, none⟩ = some (.string ⟨#[]⟩))) := fun w' hu =>
    ⟨hu, up_cell hu B5.out.2.1.1, up_cell hu B5.out.2.1.2.1, up_cell hu B5.out.2.1.2.2, up_cell hu C5.out.2.1.1, up_cell hu C5.out.2.1.2.1, up_cell hu C5.out.2.1.2.2⟩
  go_region_held3 (fun w' => Up (w5.alloc (.cells #[.int .u8 5, .int .i64 U, .string ⟨#[]⟩] 31)) w' ∧ w'.cell? ⟨w3.heap.size, 0, none⟩ = some (.int .u8 5) ∧ w'.cell? ⟨w3.heap.size, 1, none⟩ = some (.int .i64 S) ∧ w'.cell? ⟨w3.heap.size, 2, none⟩ = some (.string ⟨#[]⟩) ∧ w'.cell? ⟨w5.heap.size, 0, none⟩ = some (.int .u8 5) ∧ w'.cell? ⟨w5.heap.size, 1, none⟩ = some (.int .i64 U) ∧ w'.cell? ⟨w5.heap.size, 2, none⟩ = some (.string ⟨#[]⟩))
    ((refine KP.out _ ?_; (repeat (first | assumption | (apply And.left; assumption) | (with_reducible refine Up.trans ?_ hU2) | exact Up.refl _ | (with_reducible refine Up.drew ?_) | (with_reducible refine Up.alloc ?_ _)))))
    (first
      | (go_at_call 29; first | (with_reducible refine (F1.out _).mono ?_; rintro e w2 ⟨rfl, rfl⟩) | (with_reducible refine (F2.out _).mono ?_; rintro e w2 ⟨rfl, rfl⟩))
      | (go_at_call 27; first | (with_reducible refine (GA.out _ ?_ S (.inr (.inl rfl))).mono ?_; (· refine V5.out.trans ?_; (repeat (first | assumption | (apply And.left; assumption) | exact Up.refl _ | (with_reducible refine Up.drew ?_) | (with_reducible refine Up.alloc ?_ _)))); rintro e w2 ⟨rfl, hU2⟩) | (with_reducible refine (GA.out _ ?_ U (.inr (.inr rfl))).mono ?_; (· refine V5.out.trans ?_; (repeat (first | assumption | (apply And.left; assumption) | exact Up.refl _ | (with_reducible refine Up.drew ?_) | (with_reducible refine Up.alloc ?_ _)))); rintro e w2 ⟨rfl, hU2⟩)))
  all_goals
    go_wp2_with fail
    refine bodyPost_ret (v := .tuple #[.int .u64 S, .int .u64 U, .bool true]) (by simp [results, Tryz.results26, go_sem]) rfl ⟨rfl, V5.out.trans ?_⟩
    apply And.left
    assumption
end Go.Proofs.YtojbphnkabfkpaaGreatDoor.ar
