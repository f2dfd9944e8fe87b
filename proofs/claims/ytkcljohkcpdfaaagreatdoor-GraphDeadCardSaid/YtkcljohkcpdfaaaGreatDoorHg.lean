/- GraphDead: the law. -/
import Derived.Test.YtkcljohkcpdfaaaGreatDoorHt
import Derived.Test.YtkcljohkcpdfaaaGreatDoorHh
import Derived.Test.YtkcljohkcpdfaaaGreatDoorHj
import Derived.Test.YtkcljohkcpdfaaaGreatDoorHk
set_option linter.unusedVariables false
set_option linter.unusedSimpArgs false
namespace Go.Proofs.YtkcljohkcpdfaaaGreatDoor.gr
open Go.RowKit Go.Maps mem
attribute [local go_sem ↓] Go.wp_at_zero Go.wp_at_succ
set_option maxRecDepth 100000
set_option maxHeartbeats 2000000
theorem reach_same {w1 w2 : World} {v1 v2 : Value} {n a : Nat} {L : List Mb} (hn : n ≤ 8) (h1 : ReachPost w1 v1 n a L) (h2 : ReachPost w2 v2 n a (L.filter liveM)) : ∃ l, l.length ≤ 1000 ∧ IntsAt w1 v1 l ∧ IntsAt w2 v2 l := by
  obtain ⟨S1, i1, k1⟩ := h1
  obtain ⟨S2, i2, k2⟩ := h2
  have hadj : adjL (L.filter liveM) = adjL L := by
    funext x y
    exact propext (adjL_live L x y)
  rw [hadj] at k2
  have e : outL n S1 = outL n S2 := outL_eq fun x hx => by
    rcases k1 with ⟨a1, b1⟩ | ⟨a1, b1⟩ <;> rcases k2 with ⟨a2, b2⟩ | ⟨a2, b2⟩
    · rw [b1, b2]
    · omega
    · omega
    · exact (b1 x hx).trans (b2 x hx).symm
  rw [← e] at i2
  have := outL_len n S1
  exact ⟨_, by omega, i1, i2⟩
theorem live_sub {L : List Mb} {p : Mb → Prop} (h : ∀ m ∈ L, p m) : ∀ m ∈ L.filter liveM, p m := fun m hm => h m (List.mem_filter.1 hm).1
theorem deads (la : Option Addr) (n lc : Nat) (ps : Nat → Int × Int) (d ow : Int) (w : World) (hL : Laid w) (hd : 0 ≤ d ∧ d ≤ 255) (how : 0 ≤ ow ∧ ow ≤ 255) (hl : n = 0 ∨ ∃ b off, la = some ⟨b, off, none⟩ ∧ b < w.heap.size ∧ ∀ i, i < n → P2At w b (off + i * 2) (ps i)) :
    Calls Tryz.prog 4 #[.slice la n lc, .int .u8 d, .int .u8 ow] w fun e w' => e = .returned (.bool true) ∧ Up w w' := by
  have HL := Lib.hid hl
  have HLw := Lib.hid hL
  clear hl hL
  by_cases h20 : 20 < n
  · have i1 : (20 : Int) < (n : Int) := by omega
    have i2 : decide (20 < (n : Int)) = true := decide_eq_true (by omega)
    go_enter Tryz.func4, Tryz.ntmps4
    go_wp2_with (go_at_call 5; refine (awake19 _ HLw.out).mono ?_; rintro e w0 ⟨rfl, hb0⟩)
    go_ret
    exact ⟨rfl, hb0⟩
  have i1 : ¬ (20 : Int) < (n : Int) := by omega
  have i2 : decide (20 < (n : Int)) = false := decide_eq_false (by omega)
  go_enter Tryz.func4, Tryz.ntmps4
  go_upto_region 5 with (go_at_call 5; refine (awake19 _ HLw.out).mono ?_; rintro e w0 ⟨rfl, hb0⟩)
  have hb0 : Up w w0 := hb0
  have H0 := Lib.hid hb0
  clear hb0
  have LX : Hid (Calls Tryz.prog 6 #[.slice la n lc, .int .u8 d] w0 fun e w' => ∃ (v : Value) (L : List Mb), e = .returned v ∧ L.length = n ∧ (n = 0 → v = .slice none 0 0) ∧ (∀ m ∈ L, Six m) ∧ w'.ownsRow w0.heap.size 31 3 v L.length (L.flatMap cellsM) ∧ Up w0 w') := by
    refine list_x la n lc ps d w0 (by omega) hd ?_
    rcases HL.out with h | ⟨b, off, h1, h2, h3⟩
    · exact .inl h
    · refine .inr ⟨b, off, h1, Nat.lt_of_lt_of_le h2 H0.out.size, fun i hi => ?_⟩
      obtain ⟨q1, q2, q3⟩ := h3 i hi
      exact ⟨up_cell H0.out q1, up_cell H0.out q2, q3⟩
  go_upto_region 6 with (go_at_call 6; refine LX.out.mono ?_; rintro e W ⟨v1, L1, rfl, h1l, h1n, h1s, h1o, hUW⟩)
  have hMs := ms_of h1o
  have HW : Hid (Up w W ∧ MsAt W v1 L1 ∧ (∀ m ∈ L1, Six m) ∧ L1.length ≤ 20) := ⟨H0.out.trans hUW, hMs, h1s, by omega⟩
  have CL := Lib.hid (clone_x v1 L1 W hMs (fun h => h1n (by omega)) (by omega))
  clear hMs hUW h1o h1s h1n h1l LX H0 i1 i2 HL HLw
  go_upto_region 7 with (first
    | (go_at_call 7; refine CL.out.mono ?_; rintro e wC ⟨cv, rfl, hcv, hUC⟩)
    | (go_at_call 11; refine (dfunc_x W.heap.size cv L1 wC hcv (by have := HW.out.2.2.2; omega)).mono ?_; rintro e wD ⟨lv, rfl, hlv, F, hCF, hF⟩))
  have hUD : Up W wD := up_of hUC hCF hF
  have HD : Hid (Up W wD ∧ MsAt wD lv (L1.filter liveM)) := ⟨hUD, hlv⟩
  clear hcv hUC hlv hCF hF hUD CL
  obtain ⟨k, hk⟩ : ∃ k : Nat, ow % 8 = (k : Int) := ⟨(ow % 8).toNat, by omega⟩
  have hk' : ow.tmod 8 = (k : Int) := by rw [Int.tmod_eq_emod_of_nonneg how.1]; exact hk
  have hk7 : k ≤ 7 := by omega
  have hkw : IntKind.i64.wrap ((k : Int) + 1) = (k : Int) + 1 := by rw [IntKind.wrap_i64] <;> omega
  have hkw0 : IntKind.i64.wrap (k : Int) = (k : Int) := by rw [IntKind.wrap_i64] <;> omega
  have hku : IntKind.u8.wrap (k : Int) = (k : Int) := by rw [IntKind.wrap_u8] <;> omega
  have h7L : L1.length ≤ 30 := by have := HW.out.2.2.2; omega
  have h7F : (L1.filter liveM).length ≤ 30 := Nat.le_trans (List.length_filter_le _ _) h7L
  have H7 := Lib.hid (And.intro h7L h7F)
  clear h7L h7F
  have RX : Hid (∀ (t : Nat) (wx : World), t ≤ k → Up wD wx → Calls Tryz.prog 8 #[v1, .int .i64 (k : Int), .int .i64 (t : Int)] wx fun e w' => ∃ v, e = .returned v ∧ ReachPost w' v k t L1 ∧ Up wx w') := fun t wx ht hu =>
    reach_x v1 L1 k t wx (HW.out.2.1.up (HD.out.1.trans hu)) H7.out.1 (six_100 HW.out.2.2.1) (by omega) (by omega)
  have RY : Hid (∀ (t : Nat) (wx : World), t ≤ k → Up wD wx → Calls Tryz.prog 8 #[lv, .int .i64 (k : Int), .int .i64 (t : Int)] wx fun e w' => ∃ v, e = .returned v ∧ ReachPost w' v k t (L1.filter liveM) ∧ Up wx w') := fun t wx ht hu =>
    reach_x lv (L1.filter liveM) k t wx (HD.out.2.up hu) H7.out.2 (six_100 (live_sub HW.out.2.2.1)) (by omega) (by omega)
  go_wp2_with fail
  go_loopw [25] (fun i wr => ∃ t : Nat, t ≤ k + 1 ∧ i = .int .i64 (t : Int) ∧ Up wD wr) (fun i _ => k + 1 - (intOf i).toNat)
  case atStart => exact ⟨0, by omega, rfl, Up.refl _⟩
  case round =>
    obtain ⟨t, ht, rfl, hU⟩ := hrel
    have HU := Lib.hid hU
    clear hU
    by_cases hlt : t < k + 1
    · have it0 : (t : Int) < (k : Int) + 1 := by omega
      go_wp2_with (first
        | (go_at_call 8; refine (RY.out t _ (by omega) (HU.out.trans HU1.out)).mono ?_; rintro e w2 ⟨r2, rfl, hR2, hU2⟩; obtain ⟨l, hl1, hl2, hl3⟩ := reach_same (by omega) HR1.out hR2; have HE := Lib.hid (equal_x r1 r2 l w2 (hl2.up hU2) hl3 hl1); have HU2 := Lib.hid hU2; clear hR2 hU2 hl1 hl2 hl3)
        | (go_at_call 8; refine (RX.out t _ (by omega) HU.out).mono ?_; rintro e w1 ⟨r1, rfl, hR1, hU1⟩; have HR1 := Lib.hid hR1; have HU1 := Lib.hid hU1; clear hR1 hU1)
        | (go_at_call 9; refine HE.out.mono ?_; rintro e w3 ⟨rfl, hU3⟩))
      go_roundw
      case rel => exact ⟨t + 1, by omega, by go_num, HU.out.trans (HU1.out.trans (HU2.out.trans hU3))⟩
      case measure => simp [intOf]; omega
    · have hte : t = k + 1 := by omega
      subst hte
      have OX := Lib.hid (open_d v1 L1 _ (HW.out.2.1.up (HD.out.1.trans HU.out)) H7.out.1 (six_100 HW.out.2.2.1))
      have OY : Hid (∀ wx, Up wr wx → Calls Tryz.prog 14 #[lv] wx fun e w' => ∃ (mb : Nat) (D : DataW Nat), e = .returned (.map (some mb)) ∧ w'.ownsMap Tryz.prog 41 (plainElem (H := Nat) Tryz.prog 3) mb (2 * (L1.filter liveM).length) D ∧ D = openD (L1.filter liveM) ∧ Up wx w') := fun wx hu =>
        open_d lv (L1.filter liveM) wx (HD.out.2.up (HU.out.trans hu)) H7.out.2 (six_100 (live_sub HW.out.2.2.1))
      go_wp2_with (first
        | (go_at_call 14; refine (OY.out w1 HU1.out).mono ?_; rintro e w2 ⟨mb2, D2, rfl, hm2, hD2, hU2⟩; have e12 : D2 = D1 := hD2.trans ((openD_live L1).trans HM1.out.2.symm); subst e12; have HE := Lib.hid (equal_d mb1 mb2 _ _ _ w2 (HM1.out.1.kept (up_grownBy hU2) (by simp)) hm2); have HU2 := Lib.hid hU2; clear hm2 hD2 hU2)
        | (go_at_call 14; refine OX.out.mono ?_; rintro e w1 ⟨mb1, D1, rfl, hm1, hD1, hU1⟩; have HM1 := Lib.hid (And.intro hm1 hD1); have HU1 := Lib.hid hU1; clear hm1 hD1 hU1)
        | (go_at_call 13; refine HE.out.mono ?_; rintro e w3 ⟨rfl, hU3⟩))
      go_ret
      exact ⟨rfl, HW.out.1.trans (HD.out.1.trans (HU.out.trans (HU1.out.trans (HU2.out.trans hU3))))⟩
theorem deads_law (v : Value) (d ow : Int) (w : World) (hL : Laid w) (h : Handed 2 P2At v w) (hd : 0 ≤ d ∧ d ≤ 255) (how : 0 ≤ ow ∧ ow ≤ 255) :
    Calls Tryz.prog 4 #[v, .int .u8 d, .int .u8 ow] w fun e w' => e = .returned (.bool true) ∧ Below w.heap.size w w' := by
  obtain ⟨la, n, lc, ps, rfl, hl⟩ := h
  exact deads la n lc ps d ow w hL hd how hl
end Go.Proofs.YtkcljohkcpdfaaaGreatDoor.gr
