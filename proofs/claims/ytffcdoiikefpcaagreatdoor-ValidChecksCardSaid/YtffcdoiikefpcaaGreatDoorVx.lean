/- The law's Check, walked (printed by vx_gen.py). -/
import Derived.Test.YtffcdoiikefpcaaGreatDoorVw
set_option linter.unusedVariables false
set_option linter.unusedSimpArgs false
namespace Go.Proofs.YtffcdoiikefpcaaGreatDoor.vl
open Go.RowKit Go.Maps mem
attribute [local go_sem ↓] Go.wp_at_zero Go.wp_at_succ
set_option maxRecDepth 100000
set_option maxHeartbeats 4000000
theorem lcheck_x (Fs : List Fn) (mv : Value) (w : World) (hF : FnsAt w mv Fs) (hok : ∀ f ∈ Fs, FnFine f) :
    Calls Tryz.prog 8 #[.agg #[mv]] w fun e w' => e = .returned (outV (chk Fs)) ∧ Up w w' := by
  obtain ⟨ma, mc, hmv, hm⟩ := hF
  have HF : Hid (FnsAt w mv Fs ∧ (∀ f ∈ Fs, FnFine f)) := ⟨⟨ma, mc, hmv, hm⟩, hok⟩
  have HM := Lib.hid hm
  clear hm hok
  subst hmv
  by_cases c1 : Fs.length = 0
  · have hO : chk Fs = (0, 0, 2) := by unfold chk; rw [if_pos (.inl c1)]
    have j1 : ((Fs.length : Int) == 0) = true := by simp [c1]
    go_enter Tryz.func8, Tryz.ntmps8
    go_wp2_with fail
    exact bodyPost_ret (v := .tuple #[.int .i64 0, .int .i64 0, .int .i64 2]) (by simp [results, Tryz.results8, go_sem]) rfl ⟨(by first | rfl | (rw [hO]; rfl)), (Up.refl _).alloc _⟩
  have j1 : ((Fs.length : Int) == 0) = false := beq_eq_false_iff_ne.2 (by omega)
  have j0 : decide ((Fs.length : Int) = 0) = false := decide_eq_false (by omega)
  by_cases c2 : 100 < Fs.length
  · have hO : chk Fs = (0, 0, 2) := by unfold chk; rw [if_pos (.inr c2)]
    have j2 : decide (100 < (Fs.length : Int)) = true := decide_eq_true (by omega)
    have j3 : (100 : Int) < (Fs.length : Int) := by omega
    go_enter Tryz.func8, Tryz.ntmps8
    go_wp2_with fail
    exact bodyPost_ret (v := .tuple #[.int .i64 0, .int .i64 0, .int .i64 2]) (by simp [results, Tryz.results8, go_sem]) rfl ⟨(by first | rfl | (rw [hO]; rfl)), (Up.refl _).alloc _⟩
  have j2 : decide (100 < (Fs.length : Int)) = false := decide_eq_false (by omega)
  have hS : chk Fs = chkL Fs 0 (Fs.drop 0) := by unfold chk; rw [if_neg (by omega)]; rfl
  go_enter Tryz.func8, Tryz.ntmps8
  go_upto_region 1 with (fail)
  obtain ⟨hB, hU⟩ := blk_new' w #[.slice ma Fs.length mc] 31
  generalize World.alloc w _ = W1 at hB hU ⊢
  generalize w.heap.size = bm at hB ⊢
  have d0 : W1.cell? ⟨bm, 0, none⟩ = some (.slice ma Fs.length mc) := hB.cell 0
  have HU : Hid (Up w W1 ∧ Blk W1 bm #[.slice ma Fs.length mc] 31) := ⟨hU, hB⟩
  have HS := Lib.hid hS
  clear hB hU hS
  go_wp2_with fail
  clear d0
  go_loopw [23] (fun i wr => ∃ t : Nat, t ≤ Fs.length ∧ i = .int .i64 t ∧ Up W1 wr ∧ chk Fs = chkL Fs t (Fs.drop t)) (fun i _ => Fs.length - (intOf i).toNat)
  case atStart => exact ⟨0, by omega, rfl, Up.refl _, HS.out⟩
  case round =>
    obtain ⟨t, ht, rfl, hUr, hSr⟩ := hrel
    have SS : Hid (Up W1 wr ∧ chk Fs = chkL Fs t (Fs.drop t)) := ⟨hUr, hSr⟩
    clear hSr
    by_cases hlt : t < Fs.length
    · obtain ⟨gb, goff, rfl, hgb, hx⟩ := HM.out.resolve_left c1
      obtain ⟨f, hf⟩ : ∃ f, Fs[t]? = some f := ⟨_, List.getElem?_eq_getElem hlt⟩
      obtain ⟨hv, cv, dv, hfi, f0, f1, f2, f3, f4⟩ := (hx t f hf).up (Up.trans HU.out.1 hUr)
      clear hx
      have fine := HF.out.2 f (List.mem_of_getElem? hf)
      obtain ⟨⟨ha, hc, rfl, -⟩, ⟨ca, cc, rfl⟩, da, dc, rfl, hcode⟩ := id hfi
      have HFI : Hid (FnIs wr f (.slice ha f.held.length hc) (.slice ca f.consts cc) (.slice da f.code.length dc) ∧ FnFine f ∧ Fs[t]? = some f) := ⟨hfi, fine, hf⟩
      have HCO := Lib.hid hcode
      obtain ⟨⟨pa0, pa1⟩, ⟨re0, re1⟩, he, hco, -⟩ := fine
      clear hf hfi hcode
      have it0 : (t : Int) < (Fs.length : Int) := by omega
      go_upto_region 6 with (fail)
      obtain ⟨hB, hU⟩ := blk_new' wr #[.int .i64 f.params, .slice ha f.held.length hc, .int .i64 f.regs, .slice ca f.consts cc, .slice da f.code.length dc] 42
      generalize World.alloc wr _ = wa at hB hU ⊢
      generalize wr.heap.size = bf at hB ⊢
      have d0 : wa.cell? ⟨bf, 0, none⟩ = some (.int .i64 f.params) := hB.cell 0
      have d1 : wa.cell? ⟨bf, 1, none⟩ = some (.slice ha f.held.length hc) := hB.cell 1
      have d2 : wa.cell? ⟨bf, 2, none⟩ = some (.int .i64 f.regs) := hB.cell 2
      have d3 : wa.cell? ⟨bf, 3, none⟩ = some (.slice ca f.consts cc) := hB.cell 3
      have d4 : wa.cell? ⟨bf, 4, none⟩ = some (.slice da f.code.length dc) := hB.cell 4
      have HB : Hid (Up wr wa ∧ Blk wa bf #[.int .i64 f.params, .slice ha f.held.length hc, .int .i64 f.regs, .slice ca f.consts cc, .slice da f.code.length dc] 42) := ⟨hU, hB⟩
      clear hB hU f0 f1 f2 f3 f4 hUr
      have UA : Hid (Up w wa) := Up.trans HU.out.1 (Up.trans SS.out.1 HB.out.1)
      have hw2 : IntKind.i64.wrap (f.params + (f.held.length : Int)) = f.params + (f.held.length : Int) := by rw [IntKind.wrap_i64] <;> omega
      by_cases k0 : f.params < 0
      · have x0 : decide (f.params < 0) = true := by simpa using k0
        have hO : chk Fs = ((t : Int), 0, 2) := chk_some SS.out.2 HFI.out.2.2 (chkF_size (.inl k0))
        clear SS
        go_wp2_with fail
        exact bodyPost_ret (v := .tuple #[.int .i64 (t : Int), .int .i64 0, .int .i64 2]) (by simp [results, Tryz.results8, go_sem]) rfl ⟨(by first | rfl | (rw [hO]; rfl)), UA.out⟩
      have x0 : decide (f.params < 0) = false := by simpa using k0
      by_cases k1 : f.regs < 0
      · have x1 : decide (f.regs < 0) = true := by simpa using k1
        have hO : chk Fs = ((t : Int), 0, 2) := chk_some SS.out.2 HFI.out.2.2 (chkF_size (.inr (.inl k1)))
        clear SS
        go_wp2_with fail
        exact bodyPost_ret (v := .tuple #[.int .i64 (t : Int), .int .i64 0, .int .i64 2]) (by simp [results, Tryz.results8, go_sem]) rfl ⟨(by first | rfl | (rw [hO]; rfl)), UA.out⟩
      have x1 : decide (f.regs < 0) = false := by simpa using k1
      by_cases k2 : 100 < f.regs
      · have x2 : decide (100 < f.regs) = true := by simpa using k2
        have hO : chk Fs = ((t : Int), 0, 2) := chk_some SS.out.2 HFI.out.2.2 (chkF_size (.inr (.inr (.inl k2))))
        clear SS
        go_wp2_with fail
        exact bodyPost_ret (v := .tuple #[.int .i64 (t : Int), .int .i64 0, .int .i64 2]) (by simp [results, Tryz.results8, go_sem]) rfl ⟨(by first | rfl | (rw [hO]; rfl)), UA.out⟩
      have x2 : decide (100 < f.regs) = false := by simpa using k2
      by_cases k3 : f.regs < f.params + (f.held.length : Int)
      · have x3 : decide (f.regs < f.params + (f.held.length : Int)) = true := by simpa using k3
        have hO : chk Fs = ((t : Int), 0, 2) := chk_some SS.out.2 HFI.out.2.2 (chkF_size (.inr (.inr (.inr (.inl (by omega))))))
        clear SS
        go_wp2_with fail
        exact bodyPost_ret (v := .tuple #[.int .i64 (t : Int), .int .i64 0, .int .i64 2]) (by simp [results, Tryz.results8, go_sem]) rfl ⟨(by first | rfl | (rw [hO]; rfl)), UA.out⟩
      have x3 : decide (f.regs < f.params + (f.held.length : Int)) = false := by simpa using k3
      by_cases k4 : (f.code.length : Int) = 0
      · have x4 : ((f.code.length : Int) == 0) = true := by simpa using k4
        have x4_0 : decide ((f.code.length : Int) = 0) = true := decide_eq_true (by omega)
        have x4_1 : decide (f.code.length = 0) = true := decide_eq_true (by omega)
        have hO : chk Fs = ((t : Int), 0, 2) := chk_some SS.out.2 HFI.out.2.2 (chkF_size (.inr (.inr (.inr (.inr (.inl (by omega)))))))
        clear SS k4
        go_wp2_with fail
        exact bodyPost_ret (v := .tuple #[.int .i64 (t : Int), .int .i64 0, .int .i64 2]) (by simp [results, Tryz.results8, go_sem]) rfl ⟨(by first | rfl | (rw [hO]; rfl)), UA.out⟩
      have x4 : ((f.code.length : Int) == 0) = false := by simpa using k4
      have x4_0 : decide ((f.code.length : Int) = 0) = false := decide_eq_false (by omega)
      have x4_1 : decide (f.code.length = 0) = false := decide_eq_false (by omega)
      by_cases k5 : 2000 < (f.code.length : Int)
      · have x5 : decide (2000 < (f.code.length : Int)) = true := by simpa using k5
        have hO : chk Fs = ((t : Int), 0, 2) := chk_some SS.out.2 HFI.out.2.2 (chkF_size (.inr (.inr (.inr (.inr (.inr (by omega)))))))
        clear SS
        go_wp2_with fail
        exact bodyPost_ret (v := .tuple #[.int .i64 (t : Int), .int .i64 0, .int .i64 2]) (by simp [results, Tryz.results8, go_sem]) rfl ⟨(by first | rfl | (rw [hO]; rfl)), UA.out⟩
      have x5 : decide (2000 < (f.code.length : Int)) = false := by simpa using k5
      have hgood : Hid (¬ badSize f) := by unfold badSize; show ¬ _; omega
      go_upto_region 8 with (fail)
      by_cases k7 : t = 0 ∧ 0 < f.params + (f.held.length : Int)
      · obtain ⟨rfl, k8⟩ := k7
        have hO : chk Fs = (0, 0, 16) := chk_some SS.out.2 HFI.out.2.2 (chkF_mod hgood.out rfl k8)
        clear SS
        by_cases k9 : 0 < f.params
        · have x8 : decide (0 < f.params) = true := by simpa using k9
          go_wp2_with fail
          exact bodyPost_ret (v := .tuple #[.int .i64 0, .int .i64 0, .int .i64 16]) (by simp [results, Tryz.results8, go_sem]) rfl ⟨(by first | rfl | (rw [hO]; rfl)), UA.out⟩
        · have x8 : decide (0 < f.params) = false := by simpa using k9
          have x9 : decide (0 < (f.held.length : Int)) = true := decide_eq_true (by omega)
          have x9b : decide (0 < f.held.length) = true := decide_eq_true (by omega)
          have x9c : 0 < f.held.length := by omega
          go_wp2_with fail
          exact bodyPost_ret (v := .tuple #[.int .i64 0, .int .i64 0, .int .i64 16]) (by simp [results, Tryz.results8, go_sem]) rfl ⟨(by first | rfl | (rw [hO]; rfl)), UA.out⟩
      have HC : Hid (chkF Fs t f = chkI Fs f t 0 (f.code.drop 0)) := chkF_code hgood.out k7
      clear hgood
      by_cases k9 : t = 0
      · have x7 : ¬ 0 < f.params := by omega
        have x8 : decide (0 < f.params) = false := by simpa using x7
        have x8a : ¬ 0 < f.held.length := by omega
        have x8b : decide (0 < (f.held.length : Int)) = false := decide_eq_false (by omega)
        have x8c : decide (0 < f.held.length) = false := decide_eq_false (by omega)
        have x9 : ((t : Int) == 0) = true := beq_iff_eq.2 (by omega)
        have x10 : decide ((t : Int) = 0) = true := decide_eq_true (by omega)
        have x11 : decide (t = 0) = true := decide_eq_true (by omega)
        clear k9 k7 x7 x8a
        obtain ⟨wA, hwA⟩ : ∃ wA, wA = wr := ⟨_, rfl⟩
        subst hwA
        go_upto_region 10 with (fail)
        have WX : Hid (∀ (x : Ins) wx, x ∈ f.code → Up wa wx → Calls Tryz.prog 12 #[.agg #[.slice (some ⟨gb, goff, none⟩) Fs.length mc], .agg #[.int .i64 f.params, .slice ha f.held.length hc, .int .i64 f.regs, .slice ca f.consts cc, .slice da f.code.length dc], .agg #[.int .u8 x.op, .int .i64 x.a, .int .i64 x.b, .int .i64 x.c]] wx fun e w' => e = .returned (.bool (!insOk Fs f x)) ∧ Up wx w') := fun x wx hx hu =>
          wrong_x Fs f _ _ _ _ x wx (HF.out.1.up (Up.trans UA.out hu)) (HFI.out.1.up (Up.trans HB.out.1 hu)) (fun g hg => (HF.out.2 g hg).he) (HFI.out.2.1.ins x hx).op (HFI.out.2.1.ins x hx).b (HFI.out.2.1.ins x hx).c
        clear d0 d1 d2 d3
        go_wp2_with fail
        clear d4
        go_loopw [81] (fun i wr => ∃ j : Nat, j ≤ f.code.length ∧ i = .int .i64 j ∧ Up wa wr ∧ chkF Fs t f = chkI Fs f t j (f.code.drop j)) (fun i _ => f.code.length - (intOf i).toNat)
        case atStart => exact ⟨0, by omega, rfl, Up.refl _, HC.out⟩
        case round =>
          obtain ⟨j, hj, rfl, hUq, hSq⟩ := hrel
          have SQ : Hid (Up wa wr ∧ chkF Fs t f = chkI Fs f t j (f.code.drop j)) := ⟨hUq, hSq⟩
          clear hSq
          by_cases hjl : j < f.code.length
          · obtain ⟨cb, coff, rfl, hcb, hxc⟩ := HCO.out.resolve_left (by omega)
            obtain ⟨x, hx⟩ : ∃ x, f.code[j]? = some x := ⟨_, List.getElem?_eq_getElem hjl⟩
            obtain ⟨g0, g1, g2, g3⟩ := (hxc j x hx).up (Up.trans HB.out.1 hUq)
            clear hxc
            have HX := Lib.hid hx
            have ij0 : (j : Int) < (f.code.length : Int) := by omega
            go_upto_region 13 with (fail)
            obtain ⟨hB3, hU3⟩ := blk_new' wr #[.int .u8 x.op, .int .i64 x.a, .int .i64 x.b, .int .i64 x.c] 45
            generalize World.alloc wr _ = w3 at hB3 hU3 ⊢
            generalize wr.heap.size = bx at hB3 ⊢
            have U3 : Up wa w3 := Up.trans hUq hU3
            have q0 : w3.cell? ⟨bx, 0, none⟩ = some (.int .u8 x.op) := hB3.cell 0
            have d4 : w3.cell? ⟨bf, 4, none⟩ = some (.slice (some ⟨cb, coff, none⟩) f.code.length dc) := up_cell U3 (HB.out.2.cell 4)
            have hwl : IntKind.i64.wrap ((f.code.length : Int) - 1) = (f.code.length : Int) - 1 := by rw [IntKind.wrap_i64] <;> omega
            have CI := Lib.hid (WX.out x w3 (List.mem_of_getElem? hx) U3)
            have HB3 := Lib.hid hB3
            clear hB3 hU3 g0 g1 g2 g3 hx hUq
            have UQ := Lib.hid (Up.trans UA.out U3)
            have UU := Lib.hid U3
            clear U3
            obtain ⟨op, hop⟩ : ∃ op, x.op = op := ⟨_, rfl⟩
            obtain ⟨lb, hlb⟩ : ∃ lb, (decide (j + 1 = f.code.length) && !ends op) = lb := ⟨_, rfl⟩
            rw [hop] at q0
            have HLB := Lib.hid (And.intro hop hlb)
            clear hop hlb
            go_cut [9] from 86 to 111 (fun v wx => v = .bool lb ∧ w3 = wx)
            case first =>
              have hlb := HLB.out.2
              by_cases hla : j + 1 = f.code.length
              · have y0 : ((j : Int) == (f.code.length : Int) - 1) = true := beq_iff_eq.2 (by omega)
                have y1 : decide ((j : Int) = (f.code.length : Int) - 1) = true := decide_eq_true (by omega)
                have y2 : (j : Int) = (f.code.length : Int) - 1 := by omega
                have l0 : decide (j + 1 = f.code.length) = true := by simpa using hla
                rw [l0, Bool.true_and] at hlb
                clear y2 l0
                by_cases o15 : op = 15
                · subst o15
                  have hl : lb = false := hlb.symm
                  clear hlb
                  go_wp2_with fail
                  go_meet
                  exact ⟨by rw [hl], rfl⟩
                by_cases o16 : op = 16
                · subst o16
                  have hl : lb = false := hlb.symm
                  clear hlb
                  go_wp2_with fail
                  go_meet
                  exact ⟨by rw [hl], rfl⟩
                by_cases o18 : op = 18
                · subst o18
                  have hl : lb = false := hlb.symm
                  clear hlb
                  go_wp2_with fail
                  go_meet
                  exact ⟨by rw [hl], rfl⟩
                by_cases o19 : op = 19
                · subst o19
                  have hl : lb = false := hlb.symm
                  clear hlb
                  go_wp2_with fail
                  go_meet
                  exact ⟨by rw [hl], rfl⟩
                have hl : lb = true := by rw [← hlb]; unfold ends; simp [o15, o16, o18, o19]
                have z15 : (op != 15) = true := by simpa using o15
                have z16 : (op != 16) = true := by simpa using o16
                have z18 : (op != 18) = true := by simpa using o18
                have z19 : (op != 19) = true := by simpa using o19
                clear hlb
                go_wp2_with fail
                go_meet
                exact ⟨by rw [hl], rfl⟩
              · have y0 : ((j : Int) == (f.code.length : Int) - 1) = false := beq_eq_false_iff_ne.2 (by omega)
                have y1 : decide ((j : Int) = (f.code.length : Int) - 1) = false := decide_eq_false (by omega)
                have l0 : decide (j + 1 = f.code.length) = false := by simpa using hla
                rw [l0, Bool.false_and] at hlb
                have hl : lb = false := hlb.symm
                clear hlb l0
                go_wp2_with fail
                go_meet
                exact ⟨by rw [hl], rfl⟩
            case rest =>
              obtain ⟨rfl, rfl⟩ := hcut
              obtain ⟨rfl, hlb⟩ := HLB.out
              have m0 : w3.cell? ⟨bm, 0, none⟩ = some (.slice (some ⟨gb, goff, none⟩) Fs.length mc) := up_cell (Up.trans SS.out.1 (Up.trans HB.out.1 UU.out)) (HU.out.2.cell 0)
              have q1 : w3.cell? ⟨bx, 1, none⟩ = some (.int .i64 x.a) := HB3.out.cell 1
              have q2 : w3.cell? ⟨bx, 2, none⟩ = some (.int .i64 x.b) := HB3.out.cell 2
              have q3 : w3.cell? ⟨bx, 3, none⟩ = some (.int .i64 x.c) := HB3.out.cell 3
              have p1 : w3.cell? ⟨bf, 0, none⟩ = some (.int .i64 f.params) := up_cell UU.out (HB.out.2.cell 0)
              have p2 : w3.cell? ⟨bf, 1, none⟩ = some (.slice ha f.held.length hc) := up_cell UU.out (HB.out.2.cell 1)
              have p3 : w3.cell? ⟨bf, 2, none⟩ = some (.int .i64 f.regs) := up_cell UU.out (HB.out.2.cell 2)
              have p4 : w3.cell? ⟨bf, 3, none⟩ = some (.slice ca f.consts cc) := up_cell UU.out (HB.out.2.cell 3)
              clear HLB
              cases hins : insOk Fs f x
              · have hO : chk Fs = ((t : Int), (j : Int), 16) := chk_some SS.out.2 HFI.out.2.2 (chkI_bad SQ.out.2 HX.out hins)
                rw [hins] at CI
                clear hlb
                go_wp2_with (go_at_call 12; refine CI.out.mono ?_; rintro e w4 ⟨rfl, hU4⟩)
                exact bodyPost_ret (v := .tuple #[.int .i64 (t : Int), .int .i64 (j : Int), .int .i64 16]) (by simp [results, Tryz.results8, go_sem]) rfl ⟨(by first | rfl | (rw [hO]; rfl)), Up.trans UQ.out hU4⟩
              rw [hins] at CI
              cases lb
              · have hN := chkI_next SQ.out.2 HX.out hins (fun h => by rw [h] at hlb; simpa using hlb)
                clear hlb
                go_wp2_with (go_at_call 12; refine CI.out.mono ?_; rintro e w4 ⟨rfl, hU4⟩)
                go_roundw
                case rel => exact ⟨j + 1, by omega, by go_num, Up.trans UU.out hU4, hN⟩
                case measure => simp [intOf]; omega
              · rw [Bool.and_eq_true] at hlb
                have hO : chk Fs = ((t : Int), (j : Int), 16) := chk_some SS.out.2 HFI.out.2.2 (chkI_last SQ.out.2 HX.out (by simpa using hlb.1) (by simpa using hlb.2))
                clear hlb
                go_wp2_with (go_at_call 12; refine CI.out.mono ?_; rintro e w4 ⟨rfl, hU4⟩)
                exact bodyPost_ret (v := .tuple #[.int .i64 (t : Int), .int .i64 (j : Int), .int .i64 16]) (by simp [results, Tryz.results8, go_sem]) rfl ⟨(by first | rfl | (rw [hO]; rfl)), Up.trans UQ.out hU4⟩
          · have hje : f.code.length = j := by omega
            have hN := chk_none SS.out.2 HFI.out.2.2 (SQ.out.2.trans (chkI_end Fs f t j (by omega)))
            go_wp2_with fail
            go_roundw
            case rel => exact ⟨t + 1, by omega, by go_num, Up.trans SS.out.1 (Up.trans HB.out.1 hUq), hN⟩
            case measure => simp [intOf]; omega
      · have x9 : ((t : Int) == 0) = false := beq_eq_false_iff_ne.2 (by omega)
        clear k7
        obtain ⟨wA, hwA⟩ : ∃ wA, wA = wr := ⟨_, rfl⟩
        subst hwA
        go_upto_region 10 with (fail)
        have WX : Hid (∀ (x : Ins) wx, x ∈ f.code → Up wa wx → Calls Tryz.prog 12 #[.agg #[.slice (some ⟨gb, goff, none⟩) Fs.length mc], .agg #[.int .i64 f.params, .slice ha f.held.length hc, .int .i64 f.regs, .slice ca f.consts cc, .slice da f.code.length dc], .agg #[.int .u8 x.op, .int .i64 x.a, .int .i64 x.b, .int .i64 x.c]] wx fun e w' => e = .returned (.bool (!insOk Fs f x)) ∧ Up wx w') := fun x wx hx hu =>
          wrong_x Fs f _ _ _ _ x wx (HF.out.1.up (Up.trans UA.out hu)) (HFI.out.1.up (Up.trans HB.out.1 hu)) (fun g hg => (HF.out.2 g hg).he) (HFI.out.2.1.ins x hx).op (HFI.out.2.1.ins x hx).b (HFI.out.2.1.ins x hx).c
        clear d0 d1 d2 d3
        go_wp2_with fail
        clear d4
        go_loopw [81] (fun i wr => ∃ j : Nat, j ≤ f.code.length ∧ i = .int .i64 j ∧ Up wa wr ∧ chkF Fs t f = chkI Fs f t j (f.code.drop j)) (fun i _ => f.code.length - (intOf i).toNat)
        case atStart => exact ⟨0, by omega, rfl, Up.refl _, HC.out⟩
        case round =>
          obtain ⟨j, hj, rfl, hUq, hSq⟩ := hrel
          have SQ : Hid (Up wa wr ∧ chkF Fs t f = chkI Fs f t j (f.code.drop j)) := ⟨hUq, hSq⟩
          clear hSq
          by_cases hjl : j < f.code.length
          · obtain ⟨cb, coff, rfl, hcb, hxc⟩ := HCO.out.resolve_left (by omega)
            obtain ⟨x, hx⟩ : ∃ x, f.code[j]? = some x := ⟨_, List.getElem?_eq_getElem hjl⟩
            obtain ⟨g0, g1, g2, g3⟩ := (hxc j x hx).up (Up.trans HB.out.1 hUq)
            clear hxc
            have HX := Lib.hid hx
            have ij0 : (j : Int) < (f.code.length : Int) := by omega
            go_upto_region 13 with (fail)
            obtain ⟨hB3, hU3⟩ := blk_new' wr #[.int .u8 x.op, .int .i64 x.a, .int .i64 x.b, .int .i64 x.c] 45
            generalize World.alloc wr _ = w3 at hB3 hU3 ⊢
            generalize wr.heap.size = bx at hB3 ⊢
            have U3 : Up wa w3 := Up.trans hUq hU3
            have q0 : w3.cell? ⟨bx, 0, none⟩ = some (.int .u8 x.op) := hB3.cell 0
            have d4 : w3.cell? ⟨bf, 4, none⟩ = some (.slice (some ⟨cb, coff, none⟩) f.code.length dc) := up_cell U3 (HB.out.2.cell 4)
            have hwl : IntKind.i64.wrap ((f.code.length : Int) - 1) = (f.code.length : Int) - 1 := by rw [IntKind.wrap_i64] <;> omega
            have CI := Lib.hid (WX.out x w3 (List.mem_of_getElem? hx) U3)
            have HB3 := Lib.hid hB3
            clear hB3 hU3 g0 g1 g2 g3 hx hUq
            have UQ := Lib.hid (Up.trans UA.out U3)
            have UU := Lib.hid U3
            clear U3
            obtain ⟨op, hop⟩ : ∃ op, x.op = op := ⟨_, rfl⟩
            obtain ⟨lb, hlb⟩ : ∃ lb, (decide (j + 1 = f.code.length) && !ends op) = lb := ⟨_, rfl⟩
            rw [hop] at q0
            have HLB := Lib.hid (And.intro hop hlb)
            clear hop hlb
            go_cut [9] from 86 to 111 (fun v wx => v = .bool lb ∧ w3 = wx)
            case first =>
              have hlb := HLB.out.2
              by_cases hla : j + 1 = f.code.length
              · have y0 : ((j : Int) == (f.code.length : Int) - 1) = true := beq_iff_eq.2 (by omega)
                have y1 : decide ((j : Int) = (f.code.length : Int) - 1) = true := decide_eq_true (by omega)
                have y2 : (j : Int) = (f.code.length : Int) - 1 := by omega
                have l0 : decide (j + 1 = f.code.length) = true := by simpa using hla
                rw [l0, Bool.true_and] at hlb
                clear y2 l0
                by_cases o15 : op = 15
                · subst o15
                  have hl : lb = false := hlb.symm
                  clear hlb
                  go_wp2_with fail
                  go_meet
                  exact ⟨by rw [hl], rfl⟩
                by_cases o16 : op = 16
                · subst o16
                  have hl : lb = false := hlb.symm
                  clear hlb
                  go_wp2_with fail
                  go_meet
                  exact ⟨by rw [hl], rfl⟩
                by_cases o18 : op = 18
                · subst o18
                  have hl : lb = false := hlb.symm
                  clear hlb
                  go_wp2_with fail
                  go_meet
                  exact ⟨by rw [hl], rfl⟩
                by_cases o19 : op = 19
                · subst o19
                  have hl : lb = false := hlb.symm
                  clear hlb
                  go_wp2_with fail
                  go_meet
                  exact ⟨by rw [hl], rfl⟩
                have hl : lb = true := by rw [← hlb]; unfold ends; simp [o15, o16, o18, o19]
                have z15 : (op != 15) = true := by simpa using o15
                have z16 : (op != 16) = true := by simpa using o16
                have z18 : (op != 18) = true := by simpa using o18
                have z19 : (op != 19) = true := by simpa using o19
                clear hlb
                go_wp2_with fail
                go_meet
                exact ⟨by rw [hl], rfl⟩
              · have y0 : ((j : Int) == (f.code.length : Int) - 1) = false := beq_eq_false_iff_ne.2 (by omega)
                have y1 : decide ((j : Int) = (f.code.length : Int) - 1) = false := decide_eq_false (by omega)
                have l0 : decide (j + 1 = f.code.length) = false := by simpa using hla
                rw [l0, Bool.false_and] at hlb
                have hl : lb = false := hlb.symm
                clear hlb l0
                go_wp2_with fail
                go_meet
                exact ⟨by rw [hl], rfl⟩
            case rest =>
              obtain ⟨rfl, rfl⟩ := hcut
              obtain ⟨rfl, hlb⟩ := HLB.out
              have m0 : w3.cell? ⟨bm, 0, none⟩ = some (.slice (some ⟨gb, goff, none⟩) Fs.length mc) := up_cell (Up.trans SS.out.1 (Up.trans HB.out.1 UU.out)) (HU.out.2.cell 0)
              have q1 : w3.cell? ⟨bx, 1, none⟩ = some (.int .i64 x.a) := HB3.out.cell 1
              have q2 : w3.cell? ⟨bx, 2, none⟩ = some (.int .i64 x.b) := HB3.out.cell 2
              have q3 : w3.cell? ⟨bx, 3, none⟩ = some (.int .i64 x.c) := HB3.out.cell 3
              have p1 : w3.cell? ⟨bf, 0, none⟩ = some (.int .i64 f.params) := up_cell UU.out (HB.out.2.cell 0)
              have p2 : w3.cell? ⟨bf, 1, none⟩ = some (.slice ha f.held.length hc) := up_cell UU.out (HB.out.2.cell 1)
              have p3 : w3.cell? ⟨bf, 2, none⟩ = some (.int .i64 f.regs) := up_cell UU.out (HB.out.2.cell 2)
              have p4 : w3.cell? ⟨bf, 3, none⟩ = some (.slice ca f.consts cc) := up_cell UU.out (HB.out.2.cell 3)
              clear HLB
              cases hins : insOk Fs f x
              · have hO : chk Fs = ((t : Int), (j : Int), 16) := chk_some SS.out.2 HFI.out.2.2 (chkI_bad SQ.out.2 HX.out hins)
                rw [hins] at CI
                clear hlb
                go_wp2_with (go_at_call 12; refine CI.out.mono ?_; rintro e w4 ⟨rfl, hU4⟩)
                exact bodyPost_ret (v := .tuple #[.int .i64 (t : Int), .int .i64 (j : Int), .int .i64 16]) (by simp [results, Tryz.results8, go_sem]) rfl ⟨(by first | rfl | (rw [hO]; rfl)), Up.trans UQ.out hU4⟩
              rw [hins] at CI
              cases lb
              · have hN := chkI_next SQ.out.2 HX.out hins (fun h => by rw [h] at hlb; simpa using hlb)
                clear hlb
                go_wp2_with (go_at_call 12; refine CI.out.mono ?_; rintro e w4 ⟨rfl, hU4⟩)
                go_roundw
                case rel => exact ⟨j + 1, by omega, by go_num, Up.trans UU.out hU4, hN⟩
                case measure => simp [intOf]; omega
              · rw [Bool.and_eq_true] at hlb
                have hO : chk Fs = ((t : Int), (j : Int), 16) := chk_some SS.out.2 HFI.out.2.2 (chkI_last SQ.out.2 HX.out (by simpa using hlb.1) (by simpa using hlb.2))
                clear hlb
                go_wp2_with (go_at_call 12; refine CI.out.mono ?_; rintro e w4 ⟨rfl, hU4⟩)
                exact bodyPost_ret (v := .tuple #[.int .i64 (t : Int), .int .i64 (j : Int), .int .i64 16]) (by simp [results, Tryz.results8, go_sem]) rfl ⟨(by first | rfl | (rw [hO]; rfl)), Up.trans UQ.out hU4⟩
          · have hje : f.code.length = j := by omega
            have hN := chk_none SS.out.2 HFI.out.2.2 (SQ.out.2.trans (chkI_end Fs f t j (by omega)))
            go_wp2_with fail
            go_roundw
            case rel => exact ⟨t + 1, by omega, by go_num, Up.trans SS.out.1 (Up.trans HB.out.1 hUq), hN⟩
            case measure => simp [intOf]; omega
    · have hte : Fs.length = t := by omega
      have hO : chk Fs = (0, 0, 0) := SS.out.2.trans (chkL_end Fs t (by omega))
      go_wp2_with fail
      exact bodyPost_ret (v := .tuple #[.int .i64 0, .int .i64 0, .int .i64 0]) (by simp [results, Tryz.results8, go_sem]) rfl ⟨(by first | rfl | (rw [hO]; rfl)), Up.trans HU.out.1 hUr⟩
end Go.Proofs.YtffcdoiikefpcaaGreatDoor.vl
