/- ValidChecks: the walk, the law. -/
import Derived.Test.YtffcdoiikefpcaaGreatDoorVk
import Derived.Test.YtffcdoiikefpcaaGreatDoorAwake
set_option linter.unusedVariables false
set_option linter.unusedSimpArgs false
namespace Go.Proofs.YtffcdoiikefpcaaGreatDoor.vl
open Go.RowKit Go.Maps mem
attribute [local go_sem ↓] Go.wp_at_zero Go.wp_at_succ
set_option maxRecDepth 100000
set_option maxHeartbeats 4000000
theorem checks (la : Option Addr) (n lc : Nat) (fs : Nat → FI) (w : World) (hL : Laid w) (hl : n = 0 ∨ ∃ b off, la = some ⟨b, off, none⟩ ∧ b < w.heap.size ∧ ∀ i, i < n → FAt w b (off + i * 6) (fs i)) :
    Calls Tryz.prog 3 #[.slice la n lc] w fun e w' => e = .returned (.bool true) ∧ Up w w' := by
  have HL := Lib.hid hl
  clear hl
  by_cases h8 : 8 < n
  · have i0 : decide (8 < (n : Int)) = true := decide_eq_true (by omega)
    have i1 : (8 : Int) < (n : Int) := by omega
    go_enter Tryz.func3, Tryz.ntmps3
    go_wp2_with (go_at_call 5; refine (awake11 _ hL).mono ?_; rintro e w0 ⟨rfl, hb0⟩)
    go_ret
    exact ⟨rfl, hb0⟩
  have i0 : decide (8 < (n : Int)) = false := decide_eq_false (by omega)
  have i1 : ¬ (8 : Int) < (n : Int) := by omega
  have hn8 : n ≤ 8 := by omega
  go_enter Tryz.func3, Tryz.ntmps3
  go_upto_region 3 with (go_at_call 5; refine (awake11 _ hL).mono ?_; rintro e w0 ⟨rfl, hb0⟩)
  have HB : Hid (Up w w0) := hb0
  clear hb0
  go_wp2_with fail
  clear i0 i1
  go_loopw [19] (fun i wr => ∃ t : Nat, t ≤ n ∧ i = .int .i64 t ∧ Up w0 wr ∧ ∀ j, j < t → LenLe (fs j).hv 10 ∧ LenLe (fs j).cv 40) (fun i _ => n - (intOf i).toNat)
  case atStart => exact ⟨0, by omega, rfl, Up.refl _, fun j hj => absurd hj (by omega)⟩
  case round =>
    obtain ⟨t, ht, rfl, hU, hA⟩ := hrel
    have HA : Hid (Up w0 wr ∧ ∀ j, j < t → LenLe (fs j).hv 10 ∧ LenLe (fs j).cv 40) := ⟨hU, hA⟩
    have hUw := Up.trans HB.out hU
    clear hA
    by_cases hlt : t < n
    · obtain ⟨lb, off, rfl, hlb, hx⟩ := HL.out.resolve_left (by omega)
      obtain ⟨⟨c0, c1, c2, c3, c4, c5⟩, hp, hr, hk, hHh, hHc⟩ := hx t hlt
      obtain ⟨s, hs⟩ : ∃ s, fs t = s := ⟨_, rfl⟩
      rw [hs] at c0 c1 c2 c3 c4 c5 hp hr hk hHh hHc
      have HSE := Lib.hid hs
      clear hs
      obtain ⟨p, r, hv0, k0, cv0, e0⟩ := s
      simp only at c0 c1 c2 c3 c4 c5 hp hr hk hHh hHc
      obtain ⟨ha, hm, hc, hsp, rfl, hh⟩ := hHh
      obtain ⟨ka, km, kc, ksp, rfl, hkk⟩ := hHc
      have c0 := up_cell hUw c0
      have c1 := up_cell hUw c1
      have c2 := up_cell hUw c2
      have c3 := up_cell hUw c3
      have c4 := up_cell hUw c4
      have c5 := up_cell hUw c5
      have it0 : (t : Int) < (n : Int) := by omega
      clear hx hh hkk
      go_upto_region 8 with (fail)
      obtain ⟨hB5, hUa⟩ := blk_new' wr #[.int .i8 p, .int .i8 r, .slice ha hm hc, .int .u8 k0, .slice ka km kc, .bool e0] 28
      generalize World.alloc wr _ = wa at hB5 hUa ⊢
      generalize wr.heap.size = b5 at hB5 ⊢
      have a2 : wa.cell? ⟨b5, 2, none⟩ = some (.slice ha hm hc) := hB5.cell 2
      have a4 : wa.cell? ⟨b5, 4, none⟩ = some (.slice ka km kc) := hB5.cell 4
      clear c0 c1 c2 c3 c4 c5 hB5
      by_cases k1 : 40 < km
      · have x1 : decide (40 < (km : Int)) = true := decide_eq_true (by omega)
        have x2 : (40 : Int) < (km : Int) := by omega
        go_wp2_with fail
        go_ret
        exact ⟨rfl, Up.trans hUw hUa⟩
      have x1 : decide (40 < (km : Int)) = false := decide_eq_false (by omega)
      have x2 : ¬ (40 : Int) < (km : Int) := by omega
      by_cases k2 : 10 < hm
      · have y1 : decide (10 < (hm : Int)) = true := decide_eq_true (by omega)
        have y2 : (10 : Int) < (hm : Int) := by omega
        go_wp2_with fail
        go_ret
        exact ⟨rfl, Up.trans hUw hUa⟩
      have y1 : decide (10 < (hm : Int)) = false := decide_eq_false (by omega)
      have y2 : ¬ (10 : Int) < (hm : Int) := by omega
      go_wp2_with fail
      go_roundw
      case rel =>
        refine ⟨t + 1, by omega, by go_num, Up.trans hU hUa, fun j hj => ?_⟩
        by_cases e : j < t
        · exact HA.out.2 j e
        · have e2 : j = t := by omega
          rw [e2, HSE.out]
          exact ⟨fun a m c h => by cases h; omega, fun a m c h => by cases h; omega⟩
      case measure => simp [intOf]; omega
    · have hte : n = t := by omega
      subst hte
      have MX : Hid (Calls Tryz.prog 6 #[.slice la n lc] wr fun e w' => ∃ (sv : Value) (Fs : List Fn), e = .returned (.agg #[sv]) ∧ FnsAt w' sv Fs ∧ (∀ f ∈ Fs, FnFine f) ∧ Up wr w') := by
        refine lmake_x la n lc fs wr hn8 ?_ HA.out.2
        rcases HL.out with h | ⟨b, off, h1, h2, h3⟩
        · exact .inl h
        · refine .inr ⟨b, off, h1, Nat.lt_of_lt_of_le h2 hUw.size, fun i hi => ?_⟩
          obtain ⟨⟨c0, c1, c2, c3, c4, c5⟩, hp, hr, hk, ⟨a1, n1, k1, s1, e1, g1⟩, ⟨a2, n2, k2, s2, e2, g2⟩⟩ := h3 i hi
          refine ⟨⟨up_cell hUw c0, up_cell hUw c1, up_cell hUw c2, up_cell hUw c3, up_cell hUw c4, up_cell hUw c5⟩, hp, hr, hk, ⟨a1, n1, k1, s1, e1, g1.imp id ?_⟩, ⟨a2, n2, k2, s2, e2, g2.imp id ?_⟩⟩
          · rintro ⟨b, off, q1, q2, q3⟩
            exact ⟨b, off, q1, Nat.lt_of_lt_of_le q2 hUw.size, fun i hi => ⟨up_cell hUw (q3 i hi).1, (q3 i hi).2⟩⟩
          · rintro ⟨b, off, q1, q2, q3⟩
            refine ⟨b, off, q1, Nat.lt_of_lt_of_le q2 hUw.size, fun i hi => ?_⟩
            obtain ⟨⟨d0, d1, d2, d3⟩, d4⟩ := q3 i hi
            exact ⟨⟨up_cell hUw d0, up_cell hUw d1, up_cell hUw d2, up_cell hUw d3⟩, d4⟩
      have HW := Lib.hid hUw
      clear HL hUw hU
      go_upto_region 12 with (go_at_call 6; refine MX.out.mono ?_; rintro e w2 ⟨sv, Fs, rfl, hF, hfine, hU2⟩; obtain ⟨sa, sc, hsv, -⟩ := id hF; subst hsv)
      obtain ⟨hB5, hUa⟩ := blk_new' w2 #[.slice sa Fs.length sc] 31
      generalize World.alloc w2 _ = wa at hB5 hUa ⊢
      generalize w2.heap.size = bm at hB5 ⊢
      have m0 : wa.cell? ⟨bm, 0, none⟩ = some (.slice sa Fs.length sc) := hB5.cell 0
      have hc : ∀ wx, Up wa wx → Calls Tryz.prog 7 #[.agg #[.slice sa Fs.length sc]] wx fun e w' => e = .returned (outV (chk Fs)) ∧ Up wx w' := fun wx hu => check_x _ _ wx (hF.up (Up.trans hUa hu)) hfine
      have hd : ∀ wx, Up wa wx → Calls Tryz.prog 8 #[.agg #[.slice sa Fs.length sc]] wx fun e w' => e = .returned (outV (chk Fs)) ∧ Up wx w' := fun wx hu => lcheck_x _ _ wx (hF.up (Up.trans hUa hu)) hfine
      generalize chk Fs = o at hc hd
      obtain ⟨o1, o2, o3⟩ := o
      simp only [outV] at hc hd
      have HC := Lib.hid hc
      have HD := Lib.hid hd
      have UW : Hid (Up w wa) := Up.trans HW.out (Up.trans hU2 hUa)
      have z1 : (o1 == o1) = true := beq_self_eq_true _
      have z2 : (o2 == o2) = true := beq_self_eq_true _
      have z3 : (o3 == o3) = true := beq_self_eq_true _
      clear hc hd hF hfine hU2 hUa hB5
      go_upto_region 13 with (go_at_call 7; refine (HC.out _ (Up.refl _)).mono ?_; rintro e w5 ⟨rfl, hU5⟩)
      have m0 := up_cell hU5 m0
      go_wp2_with (go_at_call 8; refine (HD.out _ hU5).mono ?_; rintro e w6 ⟨rfl, hU6⟩)
      go_ret
      exact ⟨rfl, Up.trans UW.out (Up.trans hU5 hU6)⟩
theorem checks_law (v : Value) (w : World) (hL : Laid w) (h : Handed 6 FAt v w) :
    Calls Tryz.prog 3 #[v] w fun e w' => e = .returned (.bool true) ∧ Below w.heap.size w w' := by
  obtain ⟨la, n, lc, fs, rfl, hl⟩ := h
  exact checks la n lc fs w hL hl
end Go.Proofs.YtffcdoiikefpcaaGreatDoor.vl
