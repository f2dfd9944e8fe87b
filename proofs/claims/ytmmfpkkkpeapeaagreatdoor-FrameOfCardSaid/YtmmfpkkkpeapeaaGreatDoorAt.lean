/- seal.Unseal. -/
import Derived.Test.YtmmfpkkkpeapeaaGreatDoorAs
set_option linter.unusedVariables false
set_option linter.unusedSimpArgs false
namespace Go.Proofs.YtmmfpkkkpeapeaaGreatDoor.ar
open Go.RowKit Go.Maps mem rec
attribute [local go_sem ↓] Go.wp_at_zero Go.wp_at_succ
set_option maxRecDepth 100000
set_option maxHeartbeats 2000000
theorem find_slot {A : Ar} {r : Nat} {o : Ob} (hf : A.find r = some o) : ∃ s, A.slots[r % 4294967296]? = some s ∧ s.o = o := by
  unfold Ar.find at hf
  split at hf
  · rename_i s hs
    split at hf
    · cases hf; exact ⟨s, hs, rfl⟩
    · cases hf
  · cases hf
theorem get_at (w : World) (p r : Nat) (v : Nat → Value) (A : Ar) (o : Ob) (g : Nat) (hg : (v 0).ownBlock = some g) (h : Parts w p v A) (hr : r < 18446744073709551616) (hf : A.find r = some o) :
    Calls Tryz.prog 14 #[.pointer (some ⟨p, 0, none⟩), .int .u64 r] w fun e w' => e = .returned (.pointer (some ⟨g, (r % 4294967296) * 16 + 2, none⟩)) ∧ Up w w' := by
  refine (get_yes w p r v A o h hr hf).mono ?_
  rintro e w' ⟨g', rfl, hU, hg', -⟩
  rw [hg] at hg'
  cases hg'
  exact ⟨rfl, hU⟩
theorem obAt_find {w : World} {p r : Nat} {v : Nat → Value} {A : Ar} {o : Ob} {g : Nat} (hg : (v 0).ownBlock = some g) (h : Parts w p v A) (hf : A.find r = some o) : ObAt w g ((r % 4294967296) * 16 + 2) o := by
  obtain ⟨s, hs, rfl⟩ := find_slot hf
  obtain ⟨g', cap, hv, hog, c0, c1, hob⟩ := h.obAt hs
  rw [hg] at hog
  cases hog
  exact hob
/-- What Unseal gives of an unsealer and a box. -/
def opened (o1 o2 : Ob) : V3 × Int := if o2.brand = o1.brand ∧ o2.owner = o1.owner then (o2.content, 0) else (zero3, 13)
theorem unseal_box (w : World) (p r b : Nat) (v : Nat → Value) (A : Ar) (o1 o2 : Ob) (h : Parts w p v A) (hr : r < 18446744073709551616) (hb : b < 9223372036854775808) (hf : A.find r = some o1) (hf2 : A.find b = some o2) (hk : o1.kind = 4) (hk2 : o2.kind = 5) :
    Calls Tryz.prog 50 #[.pointer (some ⟨p, 0, none⟩), .int .u64 r, val (5, (b : Int), ⟨#[]⟩)] w fun e w' => e = .returned (.tuple #[val (opened o1 o2).1, .int .i64 (opened o1 o2).2]) ∧ Up w w' := by
  have hU : Up w ((w.alloc (.cells #[.int .u8 5, .int .i64 b, .string ⟨#[]⟩] 51)).alloc (.cells #[.int .u8 0, .int .i64 0, .string ⟨#[]⟩] 51)) := ((Up.refl w).alloc _).alloc _
  have B0 := Lib.hid ((has3_alloc w (.int .u8 5) (.int .i64 b) (.string ⟨#[]⟩) 51).up ((Up.refl _).alloc (.cells #[.int .u8 0, .int .i64 0, .string ⟨#[]⟩] 51)))
  have B1 := Lib.hid (has3_alloc2 w (.cells #[.int .u8 5, .int .i64 b, .string ⟨#[]⟩] 51) (.int .u8 0) (.int .i64 0) (.string ⟨#[]⟩) 51)
  have hp : p < w.heap.size := h.hd.lt
  obtain ⟨s, hs, -⟩ := find_slot hf
  obtain ⟨g, cap, -, hog, -⟩ := h.obAt hs
  have OB1 := obAt_find hog (h.up hU) hf
  have OB2 := obAt_find hog (h.up hU) hf2
  generalize hW : (w.alloc (.cells #[.int .u8 5, .int .i64 b, .string ⟨#[]⟩] 51)).alloc (.cells #[.int .u8 0, .int .i64 0, .string ⟨#[]⟩] 51) = W1 at hU B0 B1 OB1 OB2
  have HW := Lib.hid hW
  have GA : Hid (∀ wx, Up W1 wx → ∀ x : Nat, (x = r ∨ x = b) → Calls Tryz.prog 14 #[.pointer (some ⟨p, 0, none⟩), .int .u64 x] wx fun e w' => e = .returned (.pointer (some ⟨g, (x % 4294967296) * 16 + 2, none⟩)) ∧ Up W1 w') := by
    intro wx hx x hxx
    rcases hxx with rfl | rfl
    · refine (get_at wx p _ v A o1 g hog (h.up (hU.trans hx)) hr hf).mono ?_
      rintro e w' ⟨rfl, hU'⟩; exact ⟨rfl, hx.trans hU'⟩
    · refine (get_at wx p _ v A o2 g hog (h.up (hU.trans hx)) (by omega) hf2).mono ?_
      rintro e w' ⟨rfl, hU'⟩; exact ⟨rfl, hx.trans hU'⟩
  have RF := Lib.hid (ref_x b hb ⟨#[]⟩)
  have HU := Lib.hid hU
  obtain ⟨kind, owner, frozen, fields, module, func, ha, hn', hc, brand, content, membrane, target, deep⟩ := o1
  obtain ⟨kind2, owner2, frozen2, fields2, module2, func2, ha2, hn2, hc2, brand2, ⟨k0, k1, k2⟩, membrane2, target2, deep2⟩ := o2
  simp only at hk hk2
  subst hk hk2
  have a0 := OB1 0 _ rfl
  have a1 := OB1 1 _ rfl
  have a7 := OB1 7 _ rfl
  have b0 := OB2 0 _ rfl
  have b1 := OB2 1 _ rfl
  have b7 := OB2 7 _ rfl
  have b8 := OB2 8 _ rfl
  have b9 := OB2 9 _ rfl
  have b10 := OB2 10 _ rfl
  have CC := Lib.hid (And.intro a0 (And.intro a1 (And.intro a7 (And.intro b0 (And.intro b1 (And.intro b7 (And.intro b8 (And.intro b9 b10))))))))
  clear a0 a1 a7 b0 b1 b7 b8 b9 b10 OB1 OB2 hf hf2 hs h hU
  show Calls Tryz.prog 50 #[.pointer (some ⟨p, 0, none⟩), .int .u64 r, .agg #[.int .u8 5, .int .i64 b, .string ⟨#[]⟩]] w _
  go_enter Tryz.func50, Tryz.ntmps50
  go_wp2_with fail
  (try rw [HW.out])
  have hz := B1.out.1
  obtain ⟨z0, ⟨x0, x1, x2⟩, -⟩ := B0.out
  go_cut [8, 9] from 10 to 17 (fun t8 t9 wx => t8 = .pointer (some ⟨g, (r % 4294967296) * 16 + 2, none⟩) ∧ t9 = .pointer (some ⟨g, (b % 4294967296) * 16 + 2, none⟩) ∧ Up W1 wx)
  case first =>
    go_region_with
      (first
        | (go_at_call 14; refine (GA.out _ (by (repeat (first | assumption | exact Up.refl _ | (with_reducible refine Up.drew ?_) | (with_reducible refine Up.alloc ?_ _)))) _ (by first | exact .inl rfl | exact .inr rfl)).mono ?_; rintro e w2 ⟨rfl, hU2⟩; obtain ⟨z0, ⟨x0, x1, x2⟩, -⟩ := B0.out.up hU2)
        | (go_at_call 15; refine (RF.out _).mono ?_; rintro e w4 ⟨rfl, rfl⟩))
    all_goals
      go_wp2_with fail
      go_meet
      exact ⟨rfl, rfl, by assumption⟩
  case rest =>
    obtain ⟨rfl, rfl, hx⟩ := hcut
    obtain ⟨y0, ⟨e0, e1, e2⟩, ⟨e3, e4, e5⟩⟩ := B0.out.up hx
    obtain ⟨s0, ⟨s1, s2, s3⟩, ⟨t1, t2, t3⟩⟩ := B1.out.up hx
    have a0 := up_cell hx CC.out.1
    have a1 := up_cell hx CC.out.2.1
    have a7 := up_cell hx CC.out.2.2.1
    have b0 := up_cell hx CC.out.2.2.2.1
    have b1 := up_cell hx CC.out.2.2.2.2.1
    have b7 := up_cell hx CC.out.2.2.2.2.2.1
    have b8 := up_cell hx CC.out.2.2.2.2.2.2.1
    have b9 := up_cell hx CC.out.2.2.2.2.2.2.2.1
    have b10 := up_cell hx CC.out.2.2.2.2.2.2.2.2
    have HX := Lib.hid hx
    clear CC GA hx x0 x1 x2 z0 hz hW
    generalize (r % 4294967296) * 16 + 2 = q1 at *
    generalize (b % 4294967296) * 16 + 2 = q2 at *
    (try simp only [Nat.add_zero] at a0 b0)
    by_cases h1 : brand2 = brand
    · subst h1
      by_cases h2 : owner2 = owner
      · subst h2
        have hop := Lib.hid (show opened ⟨4, owner2, frozen, fields, module, func, ha, hn', hc, brand2, content, membrane, target, deep⟩ ⟨5, owner2, frozen2, fields2, module2, func2, ha2, hn2, hc2, brand2, (k0, k1, k2), membrane2, target2, deep2⟩ = ((k0, k1, k2), 0) by simp [opened])
        go_wp2_with fail
        go_quiet (fail)
        go_wp2_with fail
        have B3 := (Has3.store (Has3.up (show Has3 wc (w.heap.size + 1) _ _ _ from ⟨s0, ⟨s1, s2, s3⟩, ⟨t1, t2, t3⟩⟩) (up_drewN (Up.refl wc) nq)) (.int .u8 k0) (.int .i64 k1) (.string k2))
        obtain ⟨-, ⟨g1, g2, g3⟩, -⟩ := B3
        refine bodyPost_ret (v := .tuple #[.agg #[.int .u8 k0, .int .i64 k1, .string k2], .int .i64 0]) (by simp [results, Tryz.results50, go_sem, g1, g2, g3]) rfl ⟨by rw [hop.out]; rfl, ?_⟩
        exact (((up_drewN (HU.out.trans HX.out) nq).setCell (p := ⟨w.heap.size + 1, 0, none⟩) (Nat.le_succ _) _).setCell (p := ⟨w.heap.size + 1, 1, none⟩) (Nat.le_succ _) _).setCell (p := ⟨w.heap.size + 1, 2, none⟩) (Nat.le_succ _) _
      · have hb2 : (owner2 == owner) = false := by simpa using h2
        have hop := Lib.hid (show opened ⟨4, owner, frozen, fields, module, func, ha, hn', hc, brand2, content, membrane, target, deep⟩ ⟨5, owner2, frozen2, fields2, module2, func2, ha2, hn2, hc2, brand2, (k0, k1, k2), membrane2, target2, deep2⟩ = (zero3, 13) by simp [opened, h2])
        go_wp2_with fail
        go_quiet (fail)
        go_wp2_with fail
        have B3 := (Has3.store (Has3.up (show Has3 wc (w.heap.size + 1) _ _ _ from ⟨s0, ⟨s1, s2, s3⟩, ⟨t1, t2, t3⟩⟩) (up_drewN (Up.refl wc) nq)) (.int .u8 0) (.int .i64 0) (.string ⟨#[]⟩))
        obtain ⟨-, ⟨g1, g2, g3⟩, -⟩ := B3
        refine bodyPost_ret (v := .tuple #[.agg #[.int .u8 0, .int .i64 0, .string ⟨#[]⟩], .int .i64 13]) (by simp [results, Tryz.results50, go_sem, g1, g2, g3]) rfl ⟨by rw [hop.out]; rfl, ?_⟩
        exact (((up_drewN (HU.out.trans HX.out) nq).setCell (p := ⟨w.heap.size + 1, 0, none⟩) (Nat.le_succ _) _).setCell (p := ⟨w.heap.size + 1, 1, none⟩) (Nat.le_succ _) _).setCell (p := ⟨w.heap.size + 1, 2, none⟩) (Nat.le_succ _) _
    · have hb1 : (brand2 == brand) = false := by simpa using h1
      have hop := Lib.hid (show opened ⟨4, owner, frozen, fields, module, func, ha, hn', hc, brand, content, membrane, target, deep⟩ ⟨5, owner2, frozen2, fields2, module2, func2, ha2, hn2, hc2, brand2, (k0, k1, k2), membrane2, target2, deep2⟩ = (zero3, 13) by simp [opened, h1])
      go_wp2_with fail
      go_quiet (fail)
      go_wp2_with fail
      have B3 := (Has3.store (Has3.up (show Has3 wc (w.heap.size + 1) _ _ _ from ⟨s0, ⟨s1, s2, s3⟩, ⟨t1, t2, t3⟩⟩) (up_drewN (Up.refl wc) nq)) (.int .u8 0) (.int .i64 0) (.string ⟨#[]⟩))
      obtain ⟨-, ⟨g1, g2, g3⟩, -⟩ := B3
      refine bodyPost_ret (v := .tuple #[.agg #[.int .u8 0, .int .i64 0, .string ⟨#[]⟩], .int .i64 13]) (by simp [results, Tryz.results50, go_sem, g1, g2, g3]) rfl ⟨by rw [hop.out]; rfl, ?_⟩
      exact (((up_drewN (HU.out.trans HX.out) nq).setCell (p := ⟨w.heap.size + 1, 0, none⟩) (Nat.le_succ _) _).setCell (p := ⟨w.heap.size + 1, 1, none⟩) (Nat.le_succ _) _).setCell (p := ⟨w.heap.size + 1, 2, none⟩) (Nat.le_succ _) _
end Go.Proofs.YtmmfpkkkpeapeaaGreatDoor.ar
